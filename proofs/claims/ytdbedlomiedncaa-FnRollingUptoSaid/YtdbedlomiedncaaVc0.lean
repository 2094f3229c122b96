/- The conditions that a walk over Go code leaves: abstract values, an abstract heap, and for each operation and each form of code the condition under which it does what is wanted. -/
import Derived.Tactics
import Derived.Orders
import Derived.RowKit
namespace Go.Proofs.Ytdbedlomiedncaa.Vc
open Go

/-- Abstract values. -/
inductive AV where
  | undef
  | int (k : IntKind) (n : Int)
  | bool (b : Bool)
  | tt
  | ff
  | str (s : List UInt8)
  | ptr (a : Addr) (e i f : Nat)
  | nilp
  | lptr (d f : Nat)
  | slice (a : Addr) (e o l : Nat)
  | nils
  | agg (cs : List AV)
  | tuple (vs : List AV)
  | func (f : Nat) (caps : List AV)
  | skip
  | cslice (a : Addr) (e o l c : Nat)
  deriving Inhabited

/-- a slice, its capacity forgotten -/
def AV.sl (v : AV) : AV := match v with
  | .cslice a e o l _ => .slice a e o l
  | v => v

/-- A row in memory: elements of e cells each; ro: nobody writes it. -/
structure Row where
  e : Nat
  ro : Bool
  es : List (List AV)

structure Hp where
  get : Addr → Option Row

def Hp.set (h : Hp) (a : Addr) (r : Row) : Hp := ⟨fun b => if b = a then some r else h.get b⟩
def Hp.del (h : Hp) (a : Addr) : Hp := ⟨fun b => if b = a then none else h.get b⟩

/-- What is known of a type. -/
inductive TD where
  | bad
  | other
  | int (k : IntKind)
  | bool
  | string
  | slice (e : Nat)
  | struct (fs : List (Nat × Nat))
  | array (n e : Nat)

/-- a struct or an array -/
def TD.agg : TD → Bool
  | .struct _ => true
  | .array _ _ => true
  | _ => false

structure TI where
  size : Nat
  bytes : Nat
  zero : List AV
  desc : TD
  eq : Bool

def tiNone : TI := ⟨0, 0, [], .bad, false⟩

/-- is it known? -/
def TI.ok (t : TI) : Bool := match t.desc with
  | .bad => false
  | _ => true

def alGet {α : Type} (dflt : α) : List (Nat × α) → Nat → α
  | [], _ => dflt
  | (d, v) :: r, t => match Nat.beq d t with
    | true => v
    | false => alGet dflt r t

abbrev Tab := List (Nat × TI)
def Tab.at (T : Tab) (t : Nat) : TI := alGet tiNone T t

structure St where
  nt : Nat
  env : List (Nat × AV)
  loc : List (Nat × List AV)
  hp : Hp

def St.val (s : St) (t : Nat) : AV := alGet .undef s.env t

def St.putT (s : St) (d : Nat) (v : AV) (K : St → Prop) : Prop := match s with
  | ⟨n, env, loc, hp⟩ => K ⟨n, (d, v) :: env, loc, hp⟩
def St.setH (s : St) (h : Hp) (K : St → Prop) : Prop := match s with
  | ⟨n, env, loc, _⟩ => K ⟨n, env, loc, h⟩
def St.setL (s : St) (l : List (Nat × List AV)) (K : St → Prop) : Prop := match s with
  | ⟨n, env, _, hp⟩ => K ⟨n, env, l, hp⟩

def St.parts (s : St) (K : List (Nat × List AV) → Hp → Prop) : Prop := match s with
  | ⟨_, _, loc, hp⟩ => K loc hp

def noLE (d : Nat) : List (Nat × AV) → Bool
  | [] => true
  | (_, v) :: r => match v with
    | .lptr e _ => !Nat.beq e d && noLE d r
    | _ => noLE d r

/-- nothing leads to the variable d -/
def St.noL (s : St) (d : Nat) : Bool := match s with
  | ⟨_, env, _, _⟩ => noLE d env

def locGet : List (Nat × List AV) → Nat → Option (List AV)
  | [], _ => none
  | (d, c) :: r, t => match Nat.beq d t with
    | true => some c
    | false => locGet r t

def locSet : List (Nat × List AV) → Nat → List AV → (List (Nat × List AV) → Prop) → Prop
  | [], _, _, K => K []
  | (d, c) :: r, t, x, K => match Nat.beq d t with
    | true => K ((d, x) :: r)
    | false => locSet r t x fun r' => K ((d, c) :: r')

/-- Take a value apart before going on. -/
def force (v : AV) (K : AV → Prop) : Prop := match v with
  | .undef => K .undef
  | .int k n => K (.int k n)
  | .bool b => K (.bool b)
  | .tt => K (.bool true)
  | .ff => K (.bool false)
  | .str s => K (.str s)
  | .ptr a e i f => K (.ptr a e i f)
  | .nilp => K .nilp
  | .lptr d f => K (.lptr d f)
  | .slice a e o l => K (.slice a e o l)
  | .nils => K .nils
  | .agg cs => K (.agg cs)
  | .tuple vs => K (.tuple vs)
  | .func f caps => K (.func f caps)
  | .skip => K .skip
  | .cslice a e o l c => K (.cslice a e o l c)

def forceL (l : List AV) (K : List AV → Prop) : Prop := match l with
  | [] => K []
  | v :: r => force v fun v' => forceL r fun r' => K (v' :: r')

def forceLL (l : List (List AV)) (K : List (List AV) → Prop) : Prop := match l with
  | [] => K []
  | v :: r => forceL v fun v' => forceLL r fun r' => K (v' :: r')

/-- May it stand in a cell? -/
def AV.cell : AV → Bool
  | .int _ _ => true
  | .bool _ => true
  | .str _ => true
  | .ptr _ _ _ _ => true
  | .nilp => true
  | .slice _ _ _ _ => true
  | .nils => true
  | .func _ _ => true
  | _ => false

/-- is it known? -/
def AV.known : AV → Bool
  | .undef => false
  | _ => true

def allCells : List AV → Bool
  | [] => true
  | v :: r => v.cell && allCells r

/-- May it be handed to a call, or come back from one? -/
def AV.flat : AV → Bool
  | .agg cs => allCells cs
  | v => v.cell

def allFlat : List AV → Bool
  | [] => true
  | v :: r => v.flat && allFlat r

def cellsOf : AV → List AV
  | .agg cs => cs
  | v => [v]

/-- Wrapping, spelt for linear arithmetic. -/
def wrapK (k : IntKind) (n : Int) : Int := match k with
  | .i64 => (n + 9223372036854775808) % 18446744073709551616 - 9223372036854775808
  | .u8 => n % 256
  | .u32 => n % 4294967296
  | .u64 => n % 18446744073709551616
  | k => k.wrap n

/-- Two ways. -/
@[irreducible] def Br (b : Bool) (p q : Prop) : Prop := (b = true → p) ∧ (b = false → q)

@[irreducible] def Ld (H : Hp) (a : Addr) (e i : Nat) (K : List AV → Prop) : Prop := ∃ r cs, H.get a = some r ∧ r.e = e ∧ r.es[i]? = some cs ∧ K cs
@[irreducible] def Sto (H : Hp) (a : Addr) (e i : Nat) (K : Row → List AV → Prop) : Prop := ∃ r cs, H.get a = some r ∧ r.e = e ∧ r.ro = false ∧ r.es[i]? = some cs ∧ K r cs
@[irreducible] def Idx (i : Int) (n : Nat) (K : Nat → Prop) : Prop := 0 ≤ i ∧ i < n ∧ K i.toNat
@[irreducible] def Cut (l h : Int) (n : Nat) (K : Nat → Nat → Prop) : Prop := 0 ≤ l ∧ l ≤ h ∧ h ≤ n ∧ K l.toNat h.toNat
@[irreducible] def Must (c : Prop) (K : Prop) : Prop := c ∧ K
@[irreducible] def New (H : Hp) (K : Addr → Prop) : Prop := ∀ a : Addr, H.get a = none → K a
@[irreducible] def Whole (H : Hp) (v : AV) (K : List (List AV) → Prop) : Prop := match v with
  | .nils => K []
  | .slice a e o l => ∃ r, H.get a = some r ∧ r.e = e ∧ o + l ≤ r.es.length ∧ K ((r.es.drop o).take l)
  | _ => False

/-- is a slice nil? One without elements may be. -/
@[irreducible] def NilQ (l : Nat) (K : Bool → Prop) : Prop := K false ∧ (l = 0 → K true)

def ifB (b : Bool) (K : Prop) : Prop := match b with
  | true => K
  | false => False

def boolOf (v : AV) (p q : Prop) : Prop := match v with
  | .bool b => Br b p q
  | .tt => p
  | .ff => q
  | _ => False

def intOf (v : AV) (K : IntKind → Int → Prop) : Prop := match v with
  | .int k n => K k n
  | _ => False

def ofValue (v : Value) : AV := match v with
  | .int k n => .int k n
  | .bool b => .bool b
  | .string s => .str s.data.toList
  | .pointer a => match a with
    | none => .nilp
    | some _ => .undef
  | .slice a l c => match a, l, c with
    | none, 0, 0 => .nils
    | _, _, _ => .undef
  | .func fn x y => match fn, x.toList, y.toList with
    | .func f, [], [] => .func f []
    | _, _, _ => .undef
  | _ => .undef

def St.ev (s : St) : Operand → AV
  | .tmp t => (s.val t).sl
  | .const v => ofValue v
  | .func f => .func f []
  | .global _ => .undef

def St.evC (s : St) : Operand → AV
  | .tmp t => s.val t
  | x => s.ev x

def isLss : List UInt8 → List UInt8 → Bool := Op.bytesLess

def strOp (op : BinOp) (x y : List UInt8) (K : AV → Prop) : Prop := match op with
  | .add => Must (x.length + y.length ≤ 9223372036854775807) (K (.str (x ++ y)))
  | .eql => K (.bool (x == y))
  | .neq => K (.bool (!(x == y)))
  | .lss => K (.bool (isLss x y))
  | .leq => K (.bool (isLss x y || x == y))
  | .gtr => K (.bool (!(isLss x y || x == y)))
  | .geq => K (.bool (!isLss x y))
  | _ => False

def intOp (op : BinOp) (k : IntKind) (x y : Int) (K : AV → Prop) : Prop := match op with
  | .add => K (.int k (wrapK k (x + y)))
  | .sub => K (.int k (wrapK k (x - y)))
  | .mul => K (.int k (wrapK k (x * y)))
  | .quo => Must (y ≠ 0) (K (.int k (wrapK k (x.tdiv y))))
  | .rem => Must (y ≠ 0) (K (.int k (x.tmod y)))
  | .and => K (.int k (k.wrap (BitVec.ofInt k.bits x &&& BitVec.ofInt k.bits y).toNat))
  | .or => K (.int k (k.wrap (BitVec.ofInt k.bits x ||| BitVec.ofInt k.bits y).toNat))
  | .xor => K (.int k (k.wrap (BitVec.ofInt k.bits x ^^^ BitVec.ofInt k.bits y).toNat))
  | .eql => K (.bool (x == y))
  | .neq => K (.bool (!(x == y)))
  | .lss => K (.bool (decide (x < y)))
  | .leq => K (.bool (decide (x ≤ y)))
  | .gtr => K (.bool (decide (y < x)))
  | .geq => K (.bool (decide (y ≤ x)))
  | _ => False

/-- the first: a value of the cell's type -/
def eqCell : AV → AV → AV → Option Bool
  | .int k _, .int k1 x, .int k2 y => match decide (k = k1), decide (k = k2) with
    | true, true => some (x == y)
    | _, _ => none
  | .bool _, .bool x, .bool y => some (x == y)
  | .str _, .str x, .str y => some (x == y)
  | _, _, _ => none

def eqCells : List AV → List AV → List AV → (Bool → Prop) → Prop
  | [], [], [], K => K true
  | z :: zs, x :: xs, y :: ys, K => match eqCell z x y with
    | some b => eqCells zs xs ys fun c => K (b && c)
    | none => False
  | _, _, _, _ => False

def binV (T : Tab) (op : BinOp) (t : Nat) (x y : AV) (K : AV → Prop) : Prop := match x, y with
  | .int k a, .int k' b => match op with
    | .shl => Must (0 ≤ b) (K (.int k (wrapK k (a * 2 ^ (min b.toNat k.bits)))))
    | .shr => Must (0 ≤ b) (K (.int k (a.fdiv (2 ^ (min b.toNat k.bits)))))
    | op => if k = k' then intOp op k a b K else False
  | .str a, .str b => strOp op a b K
  | .bool a, .bool b => match (T.at t).desc, op with
    | .bool, .eql => K (.bool (a == b))
    | .bool, .neq => K (.bool (!(a == b)))
    | _, _ => False
  | .slice _ _ _ l, .nils => match (T.at t).desc, op with
    | .slice _, .eql => NilQ l fun b => K (.bool b)
    | .slice _, .neq => NilQ l fun b => K (.bool (!b))
    | _, _ => False
  | .nils, .nils => match (T.at t).desc, op with
    | .slice _, .eql => K (.bool true)
    | .slice _, .neq => K (.bool false)
    | _, _ => False
  | .agg a, .agg b => match (T.at t).desc, op with
    | .struct _, .eql => ifB (T.at t).eq (eqCells (T.at t).zero a b fun c => K (.bool c))
    | .struct _, .neq => ifB (T.at t).eq (eqCells (T.at t).zero a b fun c => K (.bool (!c)))
    | _, _ => False
  | _, _ => False

/-- n cells from f on. -/
def cutK : List AV → Nat → Nat → (List AV → Prop) → Prop
  | _, 0, 0, K => K []
  | c :: cs, 0, n + 1, K => force c fun v => cutK cs 0 n fun r => K (v :: r)
  | _ :: cs, f + 1, n, K => cutK cs f n K
  | [], 0, _ + 1, _ => False
  | [], _ + 1, _, _ => False

def nthK : List AV → Nat → (AV → Prop) → Prop
  | [], _, _ => False
  | c :: _, 0, K => force c K
  | _ :: cs, f + 1, K => nthK cs f K

/-- exactly n new cells ahead of the rest -/
def overK : List AV → List AV → Nat → (List AV → Prop) → Prop
  | cs, [], 0, K => K cs
  | _ :: cs, v :: vs, n + 1, K => overK cs vs n fun r => K (v :: r)
  | _, _, _, _ => False

def patchK : List AV → Nat → List AV → Nat → (List AV → Prop) → Prop
  | cs, 0, vs, n, K => overK cs vs n K
  | c :: cs, f + 1, vs, n, K => patchK cs f vs n fun r => K (c :: r)
  | [], _ + 1, _, _, _ => False

/-- A part of a value's or a variable's cells, as a value of its type. -/
def partV (ti : TI) (cs : List AV) (f : Nat) (K : AV → Prop) : Prop :=
  match ti.desc with
  | .struct _ => cutK cs f ti.size fun c => K (.agg c)
  | .array _ _ => cutK cs f ti.size fun c => K (.agg c)
  | .bad => False
  | _ => nthK cs f K

def pairAt : List (Nat × Nat) → Nat → (Nat → Nat → Prop) → Prop
  | [], _, _ => False
  | (o, u) :: _, 0, K => K o u
  | _ :: r, i + 1, K => pairAt r i K

def fieldOf (T : Tab) (t f : Nat) (K : Nat → Nat → Prop) : Prop := match (T.at t).desc with
  | .struct fs => pairAt fs f K
  | _ => False

def fillV (T : Tab) (t : Nat) : List (Nat × AV) → List AV → (List AV → Prop) → Prop
  | [], cs, K => K cs
  | (i, v) :: r, cs, K => match (T.at t).desc with
    | .struct _ => fieldOf T t i fun o u => ifB ((T.at u).ok && allCells (cellsOf v)) <| patchK cs o (cellsOf v) (T.at u).size fun cs' => fillV T t r cs' K
    | .array _ u => ifB ((T.at u).ok && allCells (cellsOf v)) <| patchK cs (i * (T.at u).size) (cellsOf v) (T.at u).size fun cs' => fillV T t r cs' K
    | _ => False

def setK : List (List AV) → Nat → List AV → (List (List AV) → Prop) → Prop
  | [], _, _, _ => False
  | _ :: l, 0, v, K => K (v :: l)
  | c :: l, i + 1, v, K => setK l i v fun r => K (c :: r)

def lenIs : List AV → Nat → Prop → Prop
  | [], 0, K => K
  | _ :: l, n + 1, K => lenIs l n K
  | _, _, _ => False

def fillS (n : Nat) : List (Nat × AV) → List (List AV) → (List (List AV) → Prop) → Prop
  | [], l, K => K l
  | (i, v) :: r, l, K => lenIs (cellsOf v) n <| ifB (allCells (cellsOf v)) (forceL (cellsOf v) fun c => setK l i c fun l' => fillS n r l' K)

def lowV (x : Option AV) (dflt : Int) (K : Int → Prop) : Prop := match x with
  | none => K dflt
  | some v => intOf v fun _ n => K n

def rep {α : Type} : Nat → α → List α
  | 0, _ => []
  | n + 1, x => x :: rep n x

def evs (s : St) : List Operand → (List AV → Prop) → Prop
  | [], K => K []
  | x :: r, K => force (s.ev x) fun v => evs s r fun vs => K (v :: vs)

def evPairs (s : St) : List (Nat × Operand) → (List (Nat × AV) → Prop) → Prop
  | [], K => K []
  | (i, x) :: r, K => force (s.ev x) fun v => evPairs s r fun vs => K ((i, v) :: vs)

def mm (mx : Bool) : AV → List AV → (AV → Prop) → Prop
  | .int k x, [], K => K (.int k x)
  | .int k x, .int _ y :: r, K => mm mx (.int k (match mx with | true => max x y | false => min x y)) r K
  | _, _, _ => False

/-- What an operation comes to that looks at no memory. -/
def pureOp (T : Tab) (s : St) (o : Oper) (K : AV → Prop) : Prop := match o.op with
  | .move x => force (s.evC x) K
  | .assign x => force (s.evC x) K
  | .pick c a b => boolOf (s.ev c) (force (s.ev a) K) (force (s.ev b) K)
  | .nilCheck x => match s.ev x with
    | .ptr a e i f => K (.ptr a e i f)
    | .lptr d f => K (.lptr d f)
    | .func f c => K (.func f c)
    | _ => False
  | .binOp op t x y _ => binV T op t (s.ev x) (s.ev y) K
  | .unOp op _ x => match op, s.ev x with
    | .neg, .int k n => K (.int k (wrapK k (0 - n)))
    | .not, .bool b => K (.bool (!b))
    | _, _ => False
  | .convert src dst x => match s.ev x with
    | .int _ n => match (T.at dst).desc with
      | .int k => ifB (T.at src).ok (K (.int k (wrapK k n)))
      | _ => False
    | .str l => match (T.at src).desc, (T.at dst).desc with
      | .string, .string => K (.str l)
      | _, _ => False
    | _ => False
  | .slice t x lo hi none => match s.evC x with
    | .cslice a e p n c => match (T.at t).desc with
      | .slice u => ifB ((T.at u).ok && Nat.beq e (T.at u).size) (lowV (lo.map s.ev) 0 fun x => lowV (hi.map s.ev) n fun y => Cut x y c fun i j => Br (decide (i < c)) (K (.cslice a e (p + i) (j - i) (c - i))) (K (.slice a e (p + i) 0)))
      | _ => False
    | .str l => match (T.at t).desc with
      | .string => lowV (lo.map s.ev) 0 fun a => lowV (hi.map s.ev) l.length fun b => Cut a b l.length fun i j => K (.str ((l.drop i).take (j - i)))
      | _ => False
    | .slice a e p n => match (T.at t).desc with
      | .slice u => ifB ((T.at u).ok && Nat.beq e (T.at u).size) (lowV (lo.map s.ev) 0 fun x => lowV (hi.map s.ev) n fun y => Cut x y n fun i j => K (.slice a e (p + i) (j - i)))
      | _ => False
    | .nils => match (T.at t).desc with
      | .slice u => ifB (T.at u).ok (lowV (lo.map s.ev) 0 fun x => lowV (hi.map s.ev) 0 fun y => Must (x = 0 ∧ y = 0) (K .nils))
      | _ => False
    | _ => False
  | .fieldAddr t x f => fieldOf T t f fun p u => ifB ((T.at u).ok && Nat.blt 0 (T.at u).size) (match s.ev x with
    | .ptr a e i g => K (.ptr a e i (g + p))
    | .lptr d g => K (.lptr d (g + p))
    | _ => False)
  | .field t x f => fieldOf T t f fun p u => match s.ev x with
    | .agg cs => partV (T.at u) cs p K
    | _ => False
  | .indexAddr t x i => intOf (s.ev i) fun _ n => match (T.at t).desc with
    | .slice u => match s.ev x with
      | .slice a e p l => ifB ((T.at u).ok && Nat.beq e (T.at u).size) (Idx n l fun k => K (.ptr a e (p + k) 0))
      | _ => False
    | .array m u => match s.ev x with
      | .lptr d g => ifB (T.at u).ok (Idx n m fun k => K (.lptr d (g + k * (T.at u).size)))
      | .ptr a e j g => ifB (T.at u).ok (Idx n m fun k => K (.ptr a e j (g + k * (T.at u).size)))
      | _ => False
    | _ => False
  | .index t x i => intOf (s.ev i) fun _ n => match s.ev x with
    | .str l => match (T.at t).desc with
      | .string => Idx n l.length fun k => K (.int .u8 (l.getD k 0).toNat)
      | _ => False
    | .agg cs => match (T.at t).desc with
      | .array m u => Idx n m fun k => partV (T.at u) cs (k * (T.at u).size) K
      | _ => False
    | _ => False
  | .makeFunc (.func f) first caps => match first.toList with
    | [] => evs s caps.toList fun cs => ifB (allCells cs) (K (.func f cs))
    | _ => False
  | .extract x i => match s.ev x with
    | .tuple vs => nthK vs i K
    | _ => False
  | .build t ps => ifB (T.at t).ok <| ifB (match (T.at t).desc with | .struct _ => true | .array _ u => (T.at u).ok | _ => false) <| evPairs s ps.toList fun vs => fillV T t vs (T.at t).zero fun cs => K (.agg cs)
  | .call c => match c.callee with
    | .builtin .len => match c.args.toList with
      | [x] => match c.argTypes.toList with
        | [t] => match s.ev x with
          | .str l => match (T.at t).desc with | .string => K (.int .i64 l.length) | _ => False
          | .slice _ _ _ n => match (T.at t).desc with | .slice _ => K (.int .i64 n) | _ => False
          | .nils => match (T.at t).desc with | .slice _ => K (.int .i64 0) | _ => False
          | _ => False
        | _ => False
      | _ => False
    | .builtin .cap => match c.args.toList with
      | [x] => match c.argTypes.toList with
        | [t] => match s.evC x with
          | .cslice _ _ _ _ n => match (T.at t).desc with | .slice _ => K (.int .i64 n) | _ => False
          | .nils => match (T.at t).desc with | .slice _ => K (.int .i64 0) | _ => False
          | _ => False
        | _ => False
      | _ => False
    | .builtin .min => evs s c.args.toList fun vs => match vs with | v :: r => mm false v r K | [] => False
    | .builtin .max => evs s c.args.toList fun vs => match vs with | v :: r => mm true v r K | [] => False
    | _ => False
  | _ => False

@[irreducible] def Bytes (es : List (List AV)) (K : List UInt8 → Prop) : Prop := ∃ l : List UInt8, es = l.map (fun b => [.int .u8 b.toNat]) ∧ K l

/-- What a load comes to. -/
def loadOp (T : Tab) (s : St) (o : Oper) (K : AV → Prop) : Prop := s.parts fun L H => match o.op with
  | .load t x => match s.ev x with
    | .ptr a e i f => Ld H a e i fun cs => partV (T.at t) cs f K
    | .lptr d f => match locGet L d with
      | some cs => partV (T.at t) cs f K
      | none => False
    | _ => False
  | .convert src dst x => match (T.at src).desc, (T.at dst).desc with
    | .slice u, .string => match (T.at u).desc with
      | .int .u8 => match s.ev x with
        | .nils => K (.str [])
        | .slice a e p n => ifB (Nat.beq e 1) (Whole H (.slice a e p n) fun es => Bytes es fun l => K (.str l))
        | _ => False
      | _ => False
    | _, _ => False
  | _ => False

@[irreducible] def Over (H : Hp) (a : Addr) (e : Nat) (K : Row → Prop) : Prop := ∃ r, H.get a = some r ∧ r.e = e ∧ r.ro = false ∧ K r

def strCells (l : List UInt8) : List (List AV) := l.map fun b => [.int .u8 b.toNat]

/-- the elements that an append adds -/
def addE (H : Hp) (e : Nat) (v : AV) (G : List (List AV) → Prop) : Prop := match v with
  | .str l => ifB (Nat.beq e 1) (G (strCells l))
  | .nils => G []
  | .slice a e' o l => ifB (Nat.beq e' e) (Whole H (.slice a e' o l) G)
  | _ => False

@[irreducible] def Has (H : Hp) (a : Addr) (K : Row → Prop) : Prop := ∃ r, H.get a = some r ∧ K r

abbrev Con := Nat → List AV → Hp → (AV → Hp → Prop) → Prop

/-- What an operation comes to that makes or changes memory. -/
def mutOp (AC : Con) (T : Tab) (esc : List Nat) (s : St) (o : Oper) (K : AV → St → Prop) : Prop := s.parts fun L H => match o.op with
  | .alloc t => match o.dst with
    | some d => match esc.elem d with
      | true => ifB (T.at t).ok (New H fun a => s.setH (H.set a ⟨(T.at t).size, false, [(T.at t).zero]⟩) (K (.ptr a (T.at t).size 0 0)))
      | false => match locGet L d with
        | none => ifB ((T.at t).ok && s.noL d) (s.setL ((d, (T.at t).zero) :: L) (K (.lptr d 0)))
        | some _ => False
    | none => False
  | .box t x => match o.dst with
    | some d => ifB (T.at t).ok <| force (s.ev x) fun v => ifB v.known <| lenIs (cellsOf v) (T.at t).size (forceL (cellsOf v) fun cs => ifB (allCells cs) (match esc.elem d with
      | true => New H fun a => s.setH (H.set a ⟨(T.at t).size, false, [cs]⟩) (K (.ptr a (T.at t).size 0 0))
      | false => match locGet L d with
        | none => ifB (s.noL d) (s.setL ((d, cs) :: L) (K (.lptr d 0)))
        | some _ => False))
    | none => False
  | .buildSlice t n ps => match (T.at t).desc with
    | .slice u => ifB (T.at u).ok <| evPairs s ps.toList fun vs => fillS (T.at u).size vs (rep n (T.at u).zero) fun es => ifB (Nat.ble (n * (T.at u).size) 16777216) (New H fun a =>
        s.setH (H.set a ⟨(T.at u).size, false, es⟩) (K (.slice a (T.at u).size 0 n)))
    | _ => False
  | .store t x y => force (s.ev y) fun v => lenIs (cellsOf v) (T.at t).size (ifB ((T.at t).ok && allCells (cellsOf v)) (match s.ev x with
    | .ptr a e i f => Sto H a e i fun r cs => patchK cs f (cellsOf v) (T.at t).size fun cs' => s.setH (H.set a { r with es := r.es.set i cs' }) (K .undef)
    | .lptr d f => match locGet L d with
      | some cs => patchK cs f (cellsOf v) (T.at t).size fun cs' => locSet L d cs' fun l => s.setL l (K .undef)
      | none => False
    | _ => False))
  | .makeSlice t l c => match (T.at t).desc with
    | .slice u => intOf (s.ev l) fun _ n => intOf (s.ev c) fun _ m => ifB (T.at u).ok (Must (0 ≤ n ∧ n ≤ m ∧ (T.at u).bytes * m ≤ 281474976710656 ∧ m ≤ 9223372036854775807)
        (New H fun a => s.setH (H.set a ⟨(T.at u).size, false, List.replicate n.toNat (T.at u).zero⟩) (K (.slice a (T.at u).size 0 n.toNat))))
    | _ => False
  | .convert src dst x => match (T.at src).desc, (T.at dst).desc, s.ev x with
    | .string, .slice u, .str l => match (T.at u).desc with
      | .int .u8 => New H fun a => s.setH (H.set a ⟨1, true, strCells l⟩) (K (.slice a 1 0 l.length))
      | _ => False
    | _, _, _ => False
  | .call c => match c.callee with
    | .builtin .copy => match c.argTypes.toList, c.args.toList with
      | [t, _], [x, y] => match (T.at t).desc with
        | .slice u => ifB (T.at u).ok <| match s.ev x, s.ev y with
          | .slice a e o l, .slice b e' o' l' => ifB (Nat.beq e (T.at u).size && Nat.beq e' e) (Over H a e fun r => Has H b fun r' => Must (r'.e = e ∧ o ≤ r.es.length ∧ o' + min l l' ≤ r'.es.length) (s.setH (H.set a ⟨e, false, r.es.take o ++ (r'.es.drop o').take (min l l') ++ r.es.drop (o + min l l')⟩) (K (.int .i64 (min l l' : Nat)))))
          | _, _ => False
        | _ => False
      | _, _ => False
    | .builtin .clear => match c.argTypes.toList, c.args.toList with
      | [t], [x] => match (T.at t).desc with
        | .slice u => ifB (T.at u).ok <| match s.ev x with
          | .slice a e o l => ifB (Nat.beq e (T.at u).size) (Over H a e fun r => Must (o + l ≤ r.es.length) (s.setH (H.set a ⟨e, false, r.es.take o ++ List.replicate l (T.at u).zero ++ r.es.drop (o + l)⟩) (K (.tuple []))))
          | .nils => K (.tuple []) s
          | _ => False
        | _ => False
      | _, _ => False
    | .builtin .append => match c.argTypes.toList, c.args.toList with
      | [t, t'], [x, y] => match (T.at t').desc with
        | .int _ => (match (T.at t).desc with
          | .slice u => ifB (T.at u).ok <| match s.evC x with
            | .cslice a e p n c => ifB (Nat.beq e (T.at u).size) (intOf (s.ev y) fun _ k => Must (0 ≤ k ∧ c < n + k.toNat ∧ (n + k.toNat) * (T.at u).bytes ≤ 140737488355328) (Whole H (.slice a e p n) fun xs => New H fun b =>
                s.setH (H.set b ⟨e, false, xs ++ List.replicate k.toNat (T.at u).zero⟩) (K (.slice b e 0 (n + k.toNat)))))
            | _ => False
          | _ => False)
        | _ => ifB (match (T.at t').desc with | .slice _ => true | .string => true | _ => false) <| match (T.at t).desc with
        | .slice u => ifB (T.at u).ok <| addE H (T.at u).size (s.ev y) fun ys => match s.ev x with
          | .nils => Must (ys.length * (T.at u).bytes ≤ 140737488355328) (New H fun a =>
              s.setH (H.set a ⟨(T.at u).size, false, ys⟩) (K (.slice a (T.at u).size 0 ys.length)))
          | .slice a e p n => ifB (Nat.beq e (T.at u).size) (Over H a e fun r => Must (p + n ≤ r.es.length ∧ (n + ys.length) * (T.at u).bytes ≤ 140737488355328) (New (H.del a) fun a' =>
              s.setH ((H.del a).set a' ⟨e, false, (r.es.drop p).take n ++ ys⟩) (K (.slice a' e 0 (n + ys.length)))))
          | _ => False
        | _ => False
      | _, _ => False
    | .value f => match s.ev f with
      | .func g caps => evs s c.args.toList fun vs => ifB (allFlat vs) (AC g (vs ++ caps) H fun v h => s.setH h (K v))
      | _ => False
    | _ => False
  | _ => False

/-- 0: looks at no memory; 1: only reads; 2: the others. -/
def cls (T : Tab) (o : Oper) : Nat := match o.op with
  | .load _ _ => 1
  | .alloc _ => 2
  | .box _ _ => 2
  | .buildSlice _ _ _ => 2
  | .store _ _ _ => 2
  | .makeSlice _ _ _ => 2
  | .convert src dst _ => match (T.at src).desc, (T.at dst).desc with
    | .string, .slice _ => 2
    | .slice _, .string => 1
    | _, _ => 0
  | .call c => match c.callee with
    | .builtin .len => 0
    | .builtin .min => 0
    | .builtin .max => 0
    | .builtin .cap => 0
    | _ => 2
  | _ => 0

def putK (s : St) (d : Option Nat) (v : AV) (K : St → Prop) : Prop := match d with
  | some d => ifB (Nat.blt d s.nt) (s.putT d v K)
  | none => K s

def dstAt : List Oper → Nat → Option Nat
  | [], _ => none
  | o :: _, 0 => o.dst
  | _ :: r, i + 1 => dstAt r i

/-- Is the operation carried out? -/
def guardK (ops : List Oper) (o : Oper) (s : St) (yes no : St → Prop) : Prop := match o.guard with
  | none => yes s
  | some (j, want) => match dstAt ops j with
    | some g => match s.val g with
      | .skip => no s
      | v => boolOf v
        (s.putT g .tt (match want with | true => yes | false => no))
        (s.putT g .ff (match want with | true => no | false => yes))
    | none => False

def opS (AC : Con) (T : Tab) (esc : List Nat) (o : Oper) (s : St) (K : St → Prop) : Prop := match cls T o with
  | 0 => pureOp T s o fun v => putK s o.dst v K
  | 1 => loadOp T s o fun v => putK s o.dst v K
  | _ => mutOp AC T esc s o fun v s' => putK s' o.dst v K

def opsNil : St → (St → Prop) → Prop := fun s K => K s
def opsCons (AC : Con) (T : Tab) (esc : List Nat) (ops : List Oper) (o : Oper) (r : St → (St → Prop) → Prop) : St → (St → Prop) → Prop := fun s K =>
  guardK ops o s (fun s => opS AC T esc o s fun s' => r s' K) (fun s => putK s o.dst .skip fun s' => r s' K)

/- by the recursor itself: the kernel then meets the very terms that the elaborator leaves -/
def opsS (AC : Con) (T : Tab) (esc : List Nat) (ops : List Oper) (l : List Oper) : St → (St → Prop) → Prop :=
  List.rec (motive := fun _ => St → (St → Prop) → Prop) opsNil (fun o _ r => opsCons AC T esc ops o r) l

/-! A region whose order is open. Its operations are taken in one order, which a list gives: (an operation's number; the reads that need not be over when it is carried out). -/

inductive Sch where
  | done
  | op (i : Nat) (ps : List Nat) (r : Sch)
  | two (a b : Sch)

def Sch.len : Sch → Nat
  | .done => 0
  | .op _ _ r => r.len + 1
  | .two a b => max a.len b.len

/-- where something was read -/
inductive Place where
  | none
  | heap (a : Addr)
  | loc (d : Nat)
  | old

/-- which variable of the frame an operation writes -/
def stl (s : St) (o : Oper) : Option Nat := match o.op with
  | .store _ x _ => match s.ev x with
    | .lptr d _ => some d
    | _ => none
  | _ => none

def placeOf (s : St) (o : Oper) (K : Place → Prop) : Prop := match o.op with
  | .load _ y => match s.ev y with
    | .ptr a _ _ _ => K (.heap a)
    | .lptr d _ => K (.loc d)
    | _ => False
  | _ => False

def pick1 : List (Nat × Place) → Nat → (Place → Prop) → Prop
  | [], _, _ => False
  | (i, p) :: r, j, K => match Nat.beq i j with
    | true => K p
    | false => pick1 r j K

def picks (rs : List (Nat × Place)) : List Nat → (List (Nat × Place) → Prop) → Prop
  | [], K => K []
  | i :: r, K => pick1 rs i fun p => picks rs r fun q => K ((i, p) :: q)


/-- the row, while nobody may write it -/
def frz (r : Row) : Row := ⟨r.e, true, r.es⟩

def keepH (H0 : Hp) : List (Nat × Place) → Hp → (Hp → List (Addr × Row) → Prop) → Prop
  | [], H, K => K H []
  | (_, .none) :: r, H, K => keepH H0 r H K
  | (_, .loc _) :: r, H, K => keepH H0 r H K
  | (_, .old) :: r, H, K => keepH H0 r H K
  | (_, .heap a) :: r, H, K => Has H0 a fun x => keepH H0 r (H.set a (frz x)) fun h l => K h ((a, x) :: l)

def thaw : List (Addr × Row) → Hp → (Hp → Prop) → Prop
  | [], h, K => K h
  | (a, x) :: r, h, K => Has h a fun _ => thaw r (h.set a x) K

/-- nothing was read in the variable d -/
def apartL (d : Nat) : List (Nat × Place) → Bool
  | [] => true
  | (_, .none) :: r => apartL d r
  | (_, .heap _) :: r => apartL d r
  | (_, .loc d') :: r => !Nat.beq d' d && apartL d r
  | (_, .old) :: _ => false

def ageP : Place → Place
  | .loc _ => .old
  | p => p

def age : List (Nat × Place) → List (Nat × Place)
  | [] => []
  | (i, p) :: r => (i, ageP p) :: age r

def aged (s : St) (o : Oper) (l : List (Nat × Place)) : List (Nat × Place) := match stl s o with
  | some _ => l
  | none => age l

def mutD (AC : Con) (T : Tab) (esc : List Nat) (s : St) (o : Oper) (ps : List (Nat × Place)) (K : AV → St → Prop) : Prop := match ps with
  | [] => mutOp AC T esc s o K
  | p :: ps => match stl s o with
    | some d => ifB (apartL d (p :: ps)) (mutOp AC T esc s o K)
    | none => s.parts fun _ H => keepH H (p :: ps) H fun h l => s.setH h fun s1 => mutOp AC T esc s1 o fun v s2 => s2.parts fun _ h2 => thaw l h2 fun h3 => s2.setH h3 (K v)

def nthO : List Oper → Nat → Option Oper
  | [], _ => none
  | o :: _, 0 => some o
  | _ :: r, i + 1 => nthO r i

@[irreducible] def Two (p q : Prop) : Prop := p ∧ q

def dNil : List (Nat × Place) → St → (St → Prop) → Prop := fun _ s K => K s
def dTwo (a b : List (Nat × Place) → St → (St → Prop) → Prop) : List (Nat × Place) → St → (St → Prop) → Prop := fun rs s K => Two (a rs s K) (b rs s K)
def dCons (AC : Con) (T : Tab) (esc : List Nat) (ops : List Oper) (i : Nat) (ps : List Nat) (r : List (Nat × Place) → St → (St → Prop) → Prop) : List (Nat × Place) → St → (St → Prop) → Prop := fun rs s K => match nthO ops i with
  | none => False
  | some o => guardK ops o s
    (fun s => match cls T o with
      | 0 => pureOp T s o fun v => putK s o.dst v fun s' => r rs s' K
      | 1 => placeOf s o fun p => loadOp T s o fun v => putK s o.dst v fun s' => r ((i, p) :: rs) s' K
      | _ => picks rs ps fun rs' => mutD AC T esc s o rs' fun v s' => putK s' o.dst v fun s'' => r (aged s o rs') s'' K)
    (fun s => putK s o.dst .skip fun s' => r ((i, .none) :: rs) s' K)

def opsD (AC : Con) (T : Tab) (esc : List Nat) (ops : List Oper) (sch : Sch) : List (Nat × Place) → St → (St → Prop) → Prop :=
  Sch.rec (motive := fun _ => List (Nat × Place) → St → (St → Prop) → Prop) dNil (fun i ps _ r => dCons AC T esc ops i ps r) (fun _ _ a b => dTwo a b) sch

/-- does m wait for j? -/
def waitsB (ops : Array Oper) : Nat → Nat → Nat → Bool
  | 0, _, _ => false
  | n + 1, m, j => match ops[m]? with
    | none => false
    | some o => o.after.any (fun e => Region.binds .any e && Nat.beq e.on j) || o.after.any fun e => Region.binds .any e && waitsB ops n e.on j

def isMut (T : Tab) (o : Oper) : Bool := match cls T o with
  | 0 => false
  | 1 => false
  | _ => true

/-- the reads that are over when m is carried out, or are told -/
def pend (T : Tab) (ops : Array Oper) (i : Nat) (ps : List Nat) (l : Array Bool) : Bool :=
  (List.range ops.size).all fun j => !l.getD j false || ps.contains j || waitsB ops ops.size i j || (match ops[j]? with
    | none => true
    | some o' => match cls T o' with
      | 1 => false
      | _ => true)

/-- Is it an order in which one may take them? -/
def schOk (T : Tab) (ops : Array Oper) : Sch → Array Bool → Bool
  | .done, l => (Region.ready .any ops l).isEmpty
  | .op i ps r, l => (match ops[i]? with
    | none => false
    | some o => match isMut T o with
      | false => (Region.ready .any ops l).contains i && Region.free .any ops l i
      | true => Region.ready .any ops l == [i] && pend T ops i ps l) && schOk T ops r (l.setIfInBounds i true)
  | .two (.op i ps r) (.op j qs t), l => (match ops[i]?, ops[j]? with
    | some o, some o' => isMut T o && isMut T o' && Region.ready .any ops l == [i, j] && pend T ops i ps l && pend T ops j qs l
    | _, _ => false) && schOk T ops r (l.setIfInBounds i true) && schOk T ops t (l.setIfInBounds j true)
  | .two _ _, _ => false

@[irreducible] def Drawn (T : Tab) (ops : Array Oper) (sch : Sch) (K : Prop) : Prop := (Region.noSelect ops && (Nat.ble sch.len ops.size && schOk T ops sch (Array.replicate ops.size false))) = true ∧ K

inductive Ex where
  | normal
  | ret
  | exit (id : Nat)

/-- less is known of the second value -/
def vle (v v1 : AV) : Prop := v1 = v ∨ v1 = .undef ∨ (v = .nils ∧ ∃ a e o, v1 = .slice a e o 0)

def cle : List AV → List AV → Prop
  | [], [] => True
  | v :: r, v1 :: r1 => (v1 = v ∨ (v = .nils ∧ ∃ a e o, v1 = .slice a e o 0)) ∧ cle r r1
  | _, _ => False

def envLe (env : List (Nat × AV)) : List (Nat × AV) → Prop
  | [] => True
  | (t, v1) :: r => vle (alGet .undef env t) v1 ∧ envLe env r

def locLe (loc : List (Nat × List AV)) : List (Nat × List AV) → Prop
  | [] => True
  | (d, c1) :: r => (∃ c, locGet loc d = some c ∧ cle c c1) ∧ locLe loc r

/-- the first heap has no more than the second -/
def HSub (h' h : Hp) : Prop := ∀ b r', h'.get b = some r' → ∃ r, h.get b = some r ∧ r'.e = r.e ∧ (r'.ro = false → r.ro = false) ∧ r'.es <+: r.es

/-- less is known in the second state -/
structure Wk (s s1 : St) : Prop where
  nt : s1.nt = s.nt
  env : envLe s.env s1.env
  loc : locLe s.loc s1.loc
  hp : HSub s1.hp s.hp

/-- a loop, as long as it goes on -/
def LoopN (body : (Ex → St → Prop) → St → Prop) (Q : Ex → St → Prop) : Nat → St → Prop
  | 0, _ => False
  | n + 1, s => ∃ s1, Wk s s1 ∧ body (fun e s' => match e with | .normal => LoopN body Q n s' | .ret => Q .ret s' | .exit id => Q (.exit id) s') s1

inductive LoopVC (body : (Ex → St → Prop) → St → Prop) (Q : Ex → St → Prop) : St → Prop
  | run {s : St} (n : Nat) (h : LoopN body Q n s) : LoopVC body Q s
  | ghost {s : St} (e : Nat) (h : ∀ a : Addr, s.hp.get a = none → LoopVC body Q { s with hp := s.hp.set a ⟨e, false, []⟩ }) : LoopVC body Q s

abbrev CT := (Ex → St → Prop) → St → Prop

def vcSkip : CT := fun Q s => Q .normal s
def vcRet : CT := fun Q s => Q .ret s
def vcExit (id : Nat) : CT := fun Q s => Q (.exit id) s
def vcNo : CT := fun _ _ => False
def vcRegion (AC : Con) (T : Tab) (D : Nat → Sch) (esc : List Nat) (id : Nat) (ops : Array Oper) (draw : Bool) : CT := fun Q s => match draw with
  | false => opsS AC T esc ops.toList ops.toList s fun s' => Q .normal s'
  | true => Drawn T ops (D id) (opsD AC T esc ops.toList (D id) [] s fun s' => Q .normal s')
def vcSeq (a b : CT) : CT := fun Q s => a (fun e s' => match e with
  | .normal => b Q s'
  | .ret => Q .ret s'
  | .exit id => Q (.exit id) s') s
def vcCond (c : Operand) (a b : CT) : CT := fun Q s => boolOf (s.ev c) (a Q s) (b Q s)
def vcBlock (id : Nat) (a : CT) : CT := fun Q s => a (fun e s' => match e with
  | .normal => Q .normal s'
  | .ret => Q .ret s'
  | .exit j => match Nat.beq j id with
    | true => Q .normal s'
    | false => Q (.exit j) s') s
def vcLoop (a : CT) : CT := fun Q s => LoopVC a Q s

def vc (AC : Con) (T : Tab) (D : Nat → Sch) (esc : List Nat) (c : Code) : CT :=
  Code.rec (motive := fun _ => CT) vcSkip (fun id ops d => vcRegion AC T D esc id ops d) (fun _ _ a b => vcSeq a b) (fun c _ _ a b => vcCond c a b) (fun id _ a => vcBlock id a) (fun _ a => vcLoop a)
    (fun _ _ _ _ _ _ => vcNo) (fun id => vcExit id) (fun _ _ => vcNo) (fun _ => vcNo) (fun _ => vcNo) vcRet (fun _ => vcNo) c

/-- the results of a function -/
def resOne (T : Tab) (s : St) (r : ResultVar) (K : AV → Prop) : Prop := s.parts fun L H => match r with
  | .tmp t => force (s.val t).sl K
  | .cell a t => match s.val a with
    | .lptr d f => match locGet L d with
      | some cs => partV (T.at t) cs f K
      | none => False
    | .ptr b e i f => Ld H b e i fun cs => partV (T.at t) cs f K
    | _ => False

def resAll (T : Tab) (s : St) : List ResultVar → (List AV → Prop) → Prop
  | [], K => K []
  | r :: rs, K => resOne T s r fun v => resAll T s rs fun vs => K (v :: vs)

def resK (T : Tab) (s : St) (rs : List ResultVar) (K : AV → Prop) : Prop := resAll T s rs fun vs => ifB (allFlat vs) (match vs with
  | [v] => K v
  | vs => K (.tuple vs))

def params : Nat → List AV → (List (Nat × AV) → Prop) → Prop
  | _, [], K => K []
  | i, v :: r, K => force v fun v => params (i + 1) r fun r' => K ((i, v) :: r')

def retQ (T : Tab) (rs : List ResultVar) (R : AV → Hp → Prop) : Ex → St → Prop
  | .exit _, _ => False
  | _, s => resK T s rs fun v => s.parts fun _ H => R v H

/-- a function's body, from its parameters on -/
def fnVC (AC : Con) (T : Tab) (D : Nat → Sch) (esc : List Nat) (fn : Func) (c : Code) (args : List AV) (H : Hp) (R : AV → Hp → Prop) : Prop :=
  params 0 args fun env => vc AC T D esc c (retQ T fn.results.toList R) ⟨fn.ntmps, env, [], H⟩

end Go.Proofs.Ytdbedlomiedncaa.Vc
