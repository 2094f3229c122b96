/- What the abstract values, rows and states of Vc0 say of a world; and that each operation and each form of code does what its condition says. -/
import Derived.Test.YtdbedlomiedncaaVc0
import Derived.Laws.Sem
import Derived.Laws.Cells
import Derived.Lib.FrozenHead
namespace Go.Proofs.Ytdbedlomiedncaa.Vc
open Go

/-! ### values -/

/-- how many cells a block has -/
def bs (w : World) (b : Nat) : Option Nat := match w.heap[b]? with
  | some (.cells c _ _) => some c.size
  | _ => none

def SlOk (B : Nat → Option Nat) (a : Addr) (e o l : Nat) (v : Value) : Prop :=
  (a.spot = none ∧ ∃ cap n, v = .slice (some (a.add (o * e))) l cap ∧ l ≤ cap ∧ B a.block = some n ∧ a.off + (o + cap) * e ≤ n) ∨
  (l = 0 ∧ ∃ p, v = .slice p 0 0)

/-- a slice of known capacity -/
def SlOkC (B : Nat → Option Nat) (a : Addr) (e o l c : Nat) (v : Value) : Prop :=
  (a.spot = none ∧ ∃ n, v = .slice (some (a.add (o * e))) l c ∧ l ≤ c ∧ B a.block = some n ∧ a.off + (o + c) * e ≤ n) ∨
  (l = 0 ∧ c = 0 ∧ ∃ p, v = .slice p 0 0)

mutual
def VR (B : Nat → Option Nat) : AV → Value → Prop
  | .undef, _ => True
  | .int k n, v => v = .int k n
  | .bool b, v => v = .bool b
  | .tt, v => v = .bool true
  | .ff, v => v = .bool false
  | .str s, v => v = .string ⟨s.toArray⟩
  | .ptr a e i f, v => a.spot = none ∧ v = .pointer (some (a.add (i * e + f)))
  | .nilp, v => v = .pointer none
  | .lptr _ _, _ => False
  | .slice a e o l, v => SlOk B a e o l v
  | .nils, v => v = .slice none 0 0
  | .agg cs, v => ∃ vs, v = .agg vs ∧ VRs B cs vs.toList
  | .tuple cs, v => ∃ vs, v = .tuple vs ∧ VRs B cs vs.toList
  | .func f cs, v => ∃ vs, v = .func (.func f) #[] vs ∧ VRs B cs vs.toList
  | .skip, v => v = undef
  | .cslice a e o l c, v => SlOkC B a e o l c v
def VRs (B : Nat → Option Nat) : List AV → List Value → Prop
  | [], [] => True
  | x :: xs, v :: vs => VR B x v ∧ VRs B xs vs
  | _, _ => False
end

theorem alGet_cons {α : Type} (dflt : α) (d : Nat) (v : α) (r : List (Nat × α)) (t : Nat) : alGet dflt ((d, v) :: r) t = if d = t then v else alGet dflt r t := by
  simp only [alGet]
  split
  · rename_i h; rw [if_pos (Nat.eq_of_beq_eq_true h)]
  · rename_i h; rw [if_neg (Nat.ne_of_beq_eq_false h)]

theorem locGet_cons (d : Nat) (c : List AV) (r : List (Nat × List AV)) (t : Nat) : locGet ((d, c) :: r) t = if d = t then some c else locGet r t := by
  simp only [locGet]
  split
  · rename_i h; rw [if_pos (Nat.eq_of_beq_eq_true h)]
  · rename_i h; rw [if_neg (Nat.ne_of_beq_eq_false h)]

def BLe (B B' : Nat → Option Nat) : Prop := ∀ b n, B b = some n → B' b = some n

theorem BLe.refl (B) : BLe B B := fun _ _ h => h
theorem BLe.trans {A B C} (h : BLe A B) (h' : BLe B C) : BLe A C := fun b n x => h' b n (h b n x)

theorem SlOk.mono {B B' a e o l v} (h : BLe B B') (x : SlOk B a e o l v) : SlOk B' a e o l v := by
  rcases x with ⟨hs, cap, n, hv, h1, h2, h3⟩ | x
  · exact .inl ⟨hs, cap, n, hv, h1, h _ _ h2, h3⟩
  · exact .inr x

theorem SlOkC.mono {B B' a e o l c v} (h : BLe B B') (x : SlOkC B a e o l c v) : SlOkC B' a e o l c v := by
  rcases x with ⟨hs, n, hv, h1, h2, h3⟩ | x
  · exact .inl ⟨hs, n, hv, h1, h _ _ h2, h3⟩
  · exact .inr x

theorem SlOkC.sl {B a e o l c v} (x : SlOkC B a e o l c v) : SlOk B a e o l v := by
  rcases x with ⟨hs, n, hv, h1, h2, h3⟩ | ⟨h1, _, h2⟩
  · exact .inl ⟨hs, c, n, hv, h1, h2, h3⟩
  · exact .inr ⟨h1, h2⟩

mutual
theorem VR.mono {B B'} (h : BLe B B') : ∀ (x : AV) {v : Value}, VR B x v → VR B' x v
  | .undef, _, _ => by simp only [VR]
  | .int _ _, _, hv => by simp only [VR] at *; exact hv
  | .bool _, _, hv => by simp only [VR] at *; exact hv
  | .tt, _, hv => by simp only [VR] at *; exact hv
  | .ff, _, hv => by simp only [VR] at *; exact hv
  | .str _, _, hv => by simp only [VR] at *; exact hv
  | .ptr _ _ _ _, _, hv => by simp only [VR] at *; exact hv
  | .nilp, _, hv => by simp only [VR] at *; exact hv
  | .lptr _ _, _, hv => by simp only [VR] at *
  | .slice _ _ _ _, _, hv => by simp only [VR] at *; exact hv.mono h
  | .nils, _, hv => by simp only [VR] at *; exact hv
  | .agg cs, _, hv => by simp only [VR] at *; obtain ⟨vs, e, hs⟩ := hv; exact ⟨vs, e, VRs.mono h cs hs⟩
  | .tuple cs, _, hv => by simp only [VR] at *; obtain ⟨vs, e, hs⟩ := hv; exact ⟨vs, e, VRs.mono h cs hs⟩
  | .func _ cs, _, hv => by simp only [VR] at *; obtain ⟨vs, e, hs⟩ := hv; exact ⟨vs, e, VRs.mono h cs hs⟩
  | .skip, _, hv => by simp only [VR] at *; exact hv
  | .cslice _ _ _ _ _, _, hv => by simp only [VR] at *; exact hv.mono h
theorem VRs.mono {B B'} (h : BLe B B') : ∀ (xs : List AV) {vs : List Value}, VRs B xs vs → VRs B' xs vs
  | [], [], _ => by simp only [VRs]
  | x :: xs, v :: vs, hv => by simp only [VRs] at *; exact ⟨VR.mono h x hv.1, VRs.mono h xs hv.2⟩
  | [], _ :: _, hv => by simp only [VRs] at hv
  | _ :: _, [], hv => by simp only [VRs] at hv
end

theorem VR.sl {B} {x : AV} {v : Value} (h : VR B x v) : VR B x.sl v := by
  cases x <;> first | exact h | (simp only [VR, AV.sl] at *; exact h.sl)

theorem VRs.length {B} : ∀ {xs : List AV} {vs : List Value}, VRs B xs vs → xs.length = vs.length
  | [], [], _ => rfl
  | _ :: xs, _ :: vs, h => by simp only [VRs] at h; simp [VRs.length h.2]
  | [], _ :: _, h => by simp only [VRs] at h
  | _ :: _, [], h => by simp only [VRs] at h

theorem VRs.append {B} : ∀ {xs ys : List AV} {us vs : List Value}, VRs B xs us → VRs B ys vs → VRs B (xs ++ ys) (us ++ vs)
  | [], _, [], _, _, h => h
  | _ :: xs, ys, _ :: us, vs, h, h' => by simp only [VRs, List.cons_append] at *; exact ⟨h.1, VRs.append h.2 h'⟩
  | [], _, _ :: _, _, h, _ => by simp only [VRs] at h
  | _ :: _, _, [], _, h, _ => by simp only [VRs] at h

theorem VRs.take {B} : ∀ {xs : List AV} {us : List Value} (n : Nat), VRs B xs us → VRs B (xs.take n) (us.take n)
  | _, _, 0, _ => by simp only [List.take_zero, VRs]
  | [], [], _ + 1, _ => by simp only [List.take_nil, VRs]
  | _ :: xs, _ :: us, n + 1, h => by simp only [VRs, List.take_succ_cons] at *; exact ⟨h.1, VRs.take n h.2⟩
  | [], _ :: _, _ + 1, h => by simp only [VRs] at h
  | _ :: _, [], _ + 1, h => by simp only [VRs] at h

theorem VRs.drop {B} : ∀ {xs : List AV} {us : List Value} (n : Nat), VRs B xs us → VRs B (xs.drop n) (us.drop n)
  | _, _, 0, h => by simpa using h
  | [], [], _ + 1, _ => by simp only [List.drop_nil, VRs]
  | _ :: xs, _ :: us, n + 1, h => by simp only [VRs, List.drop_succ_cons] at *; exact VRs.drop n h.2
  | [], _ :: _, _ + 1, h => by simp only [VRs] at h
  | _ :: _, [], _ + 1, h => by simp only [VRs] at h

theorem VR.oneCell {B} {x : AV} {v : Value} (hx : x.cell = true) (h : VR B x v) : v.oneCell' = true := by
  cases x <;> simp [AV.cell] at hx <;> simp only [VR] at h
  case slice => rcases h with ⟨_, _, _, rfl, _⟩ | ⟨_, _, rfl⟩ <;> rfl
  case ptr => obtain ⟨_, rfl⟩ := h; rfl
  case func => obtain ⟨_, rfl, _⟩ := h; rfl
  all_goals (subst h; rfl)

theorem VRs.oneCell {B} : ∀ {xs : List AV} {vs : List Value}, allCells xs = true → VRs B xs vs → ∀ v ∈ vs, v.oneCell' = true
  | [], [], _, _ => by simp
  | x :: xs, v :: vs, hx, h => by
    simp only [allCells, Bool.and_eq_true] at hx
    simp only [VRs] at h
    intro u hu
    rcases List.mem_cons.1 hu with rfl | hu
    · exact h.1.oneCell hx.1
    · exact VRs.oneCell hx.2 h.2 u hu
  | [], _ :: _, _, h => by simp only [VRs] at h
  | _ :: _, [], _, h => by simp only [VRs] at h

theorem cells_one {v : Value} (h : v.oneCell' = true) : v.cells.toList = [v] := by
  cases v <;> first | rfl | (simp [Value.oneCell'] at h)

theorem VR.cells {B} {x : AV} {v : Value} (h : VR B x v) (hx : allCells (cellsOf x) = true) : VRs B (cellsOf x) v.cells.toList := by
  by_cases hc : x.cell = true
  · rw [cells_one (h.oneCell hc)]
    have : cellsOf x = [x] := by cases x <;> first | rfl | (simp [AV.cell] at hc)
    rw [this]; simp only [VRs, and_true]; exact h
  · cases x <;> simp [AV.cell] at hc <;> simp [cellsOf, allCells, AV.cell] at hx
    simp only [VR] at h
    obtain ⟨vs, rfl, hs⟩ := h
    exact hs

/-! ### the table of types -/

def EqOk (P : Program) (t : Nat) (zs : List AV) : Prop := ∀ (B : Nat → Option Nat) (cs ds : List AV) (xs ys : Array Value) (K : Bool → Prop),
  VRs B cs xs.toList → VRs B ds ys.toList → eqCells zs cs ds K → ∃ b, K b ∧
    ∀ w, (Op.equal t (.agg xs) (.agg ys)).run P w = .ok b w ∧ ∀ op x y, (eqGuard op t x y (.agg xs) (.agg ys)).run P w = .ok () w

structure TyOk (P : Program) (t : Nat) (ti : TI) : Prop where
  info : ∃ i z, P.info? t = some i ∧ i.size = ti.size ∧ i.bytes = ti.bytes ∧ i.zero = some z ∧ (∀ B, VRs B ti.zero z.cells.toList) ∧ allCells ti.zero = true ∧ ti.zero.length = ti.size
  und : match ti.desc with
    | .bad => False
    | .other => ∃ d, P.underlying t = some d ∧ (match d with | .struct _ => False | .array _ _ => False | _ => True)
    | .int k => P.underlying t = some (.int k) ∧ ti.size = 1
    | .bool => P.underlying t = some .bool
    | .string => P.underlying t = some .string
    | .slice e => P.underlying t = some (.slice e)
    | .struct fs => ∃ F : Array Field, P.underlying t = some (.struct F) ∧ F.toList.map (fun f => (f.offset, f.type)) = fs ∧ ∀ f ∈ F.toList, (P.info? f.type).isSome = true
    | .array n e => P.underlying t = some (.array n e)
  pos : 0 < ti.size
  bpos : 0 < ti.bytes
  eq : ti.eq = true → ∀ fs, ti.desc = .struct fs → EqOk P t ti.zero

def TabOk (P : Program) (T : Tab) : Prop := ∀ e ∈ T, TyOk P e.1 e.2

theorem tab_at {T : Tab} {t : Nat} : (T.at t).ok = true → (t, T.at t) ∈ T := by
  unfold Tab.at
  induction T with
  | nil => intro h; simp [alGet, tiNone, TI.ok] at h
  | cons x r ih =>
    obtain ⟨d, v⟩ := x
    simp only [alGet_cons]
    split
    · rename_i h; subst h; intro _; exact List.mem_cons_self
    · intro h; exact List.mem_cons_of_mem _ (ih h)

theorem TabOk.get {P : Program} {T : Tab} (h : TabOk P T) {t : Nat} (ht : (T.at t).ok = true) : TyOk P t (T.at t) := h _ (tab_at ht)

/-- what isAgg says -/
theorem TyOk.isAgg {P : Program} {t : Nat} {ti : TI} (h : TyOk P t ti) (w : World) :
    (isAgg t).run P w = .ok ti.desc.agg w := by
  have hu := h.und
  unfold Go.isAgg underlying
  cases hd : ti.desc <;> simp only [hd] at hu
  case other => obtain ⟨d, hu, hd'⟩ := hu; cases d <;> simp [hu, TD.agg] at hd' ⊢
  case struct => obtain ⟨F, hu, _⟩ := hu; simp [hu, TD.agg]
  case int => simp [hu.1, TD.agg]
  all_goals simp [hu, TD.agg]

theorem TyOk.sizeOf {P : Program} {t : Nat} {ti : TI} (h : TyOk P t ti) (w : World) : (sizeOf t).run P w = .ok ti.size w := by
  obtain ⟨i, z, hi, hs, _⟩ := h.info
  unfold Go.sizeOf typeInfo
  simp [hi, hs]

theorem TyOk.zeroValue {P : Program} {t : Nat} {ti : TI} (h : TyOk P t ti) (w : World) : ∃ z, (zeroValue t).run P w = .ok z w ∧ ∀ B, VRs B ti.zero z.cells.toList := by
  obtain ⟨i, z, hi, hs, _, hz, hv, _⟩ := h.info
  refine ⟨z, ?_, hv⟩
  unfold Go.zeroValue typeInfo
  simp [hi, hz]

theorem TyOk.typeInfo {P : Program} {t : Nat} {ti : TI} (h : TyOk P t ti) (w : World) : ∃ i, (typeInfo t).run P w = .ok i w ∧ i.bytes = ti.bytes ∧ i.size = ti.size := by
  obtain ⟨i, z, hi, hs, hb, _⟩ := h.info
  refine ⟨i, ?_, hb, hs⟩
  unfold Go.typeInfo
  simp [hi]

end Go.Proofs.Ytdbedlomiedncaa.Vc
