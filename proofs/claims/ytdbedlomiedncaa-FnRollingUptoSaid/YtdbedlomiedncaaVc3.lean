/- Each operation that looks at no memory does what its condition says: one lemma for each kind of operation. -/
import Derived.Test.YtdbedlomiedncaaVc2
import Derived.Lib.IndexBytes
namespace Go.Proofs.Ytdbedlomiedncaa.Vc
open Go

/-- the operation yields a value that K takes, in every world, and leaves the world alone -/
def PS (P : Program) (o : Oper) (ρ : Operand → Value) (δ : Nat → Nat) (B : Nat → Option Nat) (K : AV → Prop) : Prop :=
  ∃ v x, K v ∧ ER δ B v x ∧ ∀ w, (execOp ρ o).run P w = .ok (.value x) w

section
variable {P : Program} {T : Tab} {s : St} {K : AV → Prop} {ρ : Operand → Value} {δ : Nat → Nat} {B : Nat → Option Nat} {dst : Option Tmp} {type : TypeId} {pos : String} {after : Array Edge} {guard : Option (Nat × Bool)}

theorem ps_move (hρ : ∀ x, ER δ B (s.evC x) (ρ x)) {x : Operand} (h : pureOp T s ⟨dst, .move x, type, pos, after, guard⟩ K) : PS P ⟨dst, .move x, type, pos, after, guard⟩ ρ δ B K := by
  simp only [pureOp] at h
  obtain ⟨v, h, hv, _⟩ := force_elim h
  exact ⟨v, ρ x, h, hv _ _ _ (hρ x), fun w => by simp [execOp]⟩

theorem ps_assign (hρ : ∀ x, ER δ B (s.evC x) (ρ x)) {x : Operand} (h : pureOp T s ⟨dst, .assign x, type, pos, after, guard⟩ K) : PS P ⟨dst, .assign x, type, pos, after, guard⟩ ρ δ B K := by
  simp only [pureOp] at h
  obtain ⟨v, h, hv, _⟩ := force_elim h
  exact ⟨v, ρ x, h, hv _ _ _ (hρ x), fun w => by simp [execOp]⟩

theorem ps_pick (hρ : ∀ x, ER δ B (s.ev x) (ρ x)) {c a b : Operand} (h : pureOp T s ⟨dst, .pick c a b, type, pos, after, guard⟩ K) : PS P ⟨dst, .pick c a b, type, pos, after, guard⟩ ρ δ B K := by
  simp only [pureOp] at h
  obtain ⟨t, hc, h1, h2⟩ := boolOf_elim h
  have hb := hc _ _ _ (hρ c)
  cases t
  · obtain ⟨v, h, hv, _⟩ := force_elim (h2 rfl)
    exact ⟨v, ρ b, h, hv _ _ _ (hρ b), fun w => by simp [execOp, hb, asBool]⟩
  · obtain ⟨v, h, hv, _⟩ := force_elim (h1 rfl)
    exact ⟨v, ρ a, h, hv _ _ _ (hρ a), fun w => by simp [execOp, hb, asBool]⟩

theorem ps_nilCheck (hρ : ∀ x, ER δ B (s.ev x) (ρ x)) {x : Operand} (h : pureOp T s ⟨dst, .nilCheck x, type, pos, after, guard⟩ K) : PS P ⟨dst, .nilCheck x, type, pos, after, guard⟩ ρ δ B K := by
  simp only [pureOp] at h
  have hx := hρ x
  cases hv : s.ev x <;> rw [hv] at h hx <;> simp only at h
  case ptr a e i f =>
    refine ⟨_, ρ x, h, hx, fun w => ?_⟩
    simp only [ER, VR] at hx
    simp [execOp, hx.2]
  case lptr d f =>
    refine ⟨_, ρ x, h, hx, fun w => ?_⟩
    simp only [ER] at hx
    simp [execOp, hx]
  case func f cs =>
    refine ⟨_, ρ x, h, hx, fun w => ?_⟩
    simp only [ER, VR] at hx
    obtain ⟨vs, hx, _⟩ := hx
    simp [execOp, hx]

theorem run_guard_plain {op : BinOp} {t : TypeId} {x y : Operand} {a b : Value} (w : World) (ha : (match a with | .agg _ => False | .nilIface => False | _ => True)) : (eqGuard op t x y a b).run P w = .ok () w := by
  cases a <;> simp at ha <;> (unfold eqGuard; split <;> simp)

theorem strVal_eq (a b : List UInt8) : (⟨a.toArray⟩ : ByteArray) ++ ⟨b.toArray⟩ = ⟨(a ++ b).toArray⟩ := by
  apply ByteArray.ext
  simp [ByteArray.data_append]

theorem bytes_toList (a : List UInt8) : (⟨a.toArray⟩ : ByteArray).toList = a := by
  rw [Lib.toList_data]

theorem vr_bool (b : Bool) : VR B (.bool b) (.bool b) := by simp only [VR]
theorem vr_int (k : IntKind) (n : Int) : VR B (.int k n) (.int k n) := by simp only [VR]
theorem vr_str (l : List UInt8) : VR B (.str l) (.string ⟨l.toArray⟩) := by simp only [VR]

theorem size_mk (a : List UInt8) : (⟨a.toArray⟩ : ByteArray).size = a.length := by simp [ByteArray.size]

theorem ps_str (op : BinOp) {a b : List UInt8} (h : strOp op a b K) : ∃ v x, K v ∧ VR B v x ∧ ∀ w, (Op.stringOp op ⟨a.toArray⟩ ⟨b.toArray⟩).run P w = .ok x w := by
  cases op <;> simp only [strOp] at h
  case add =>
    obtain ⟨hl, h⟩ := Must_elim h
    refine ⟨_, .string ⟨(a ++ b).toArray⟩, h, by simp only [VR], fun w => ?_⟩
    have : ¬ (((a.length + b.length : Nat) : Int) > IntKind.i64.max) := by
      simp [IntKind.max, IntKind.signed, IntKind.bits]; omega
    simp only [Op.stringOp, size_mk, Sem.run_ite, strVal_eq]
    rw [if_neg this]; rfl
  all_goals exact ⟨_, _, h, vr_bool _, fun w => by simp only [Op.stringOp, bytes_toList]; rfl⟩

theorem ps_int (op : BinOp) (k : IntKind) {a b : Int} (h : intOp op k a b K) (ho : op ≠ .shl ∧ op ≠ .shr) : ∃ v x, K v ∧ VR B v x ∧ ∀ w, (binOp op 0 (.int k a) (.int k b)).run P w = .ok x w := by
  cases op <;> simp only [intOp] at h <;> simp at ho
  case quo =>
    obtain ⟨hl, h⟩ := Must_elim h
    rw [wrapK_eq] at h
    exact ⟨_, _, h, vr_int _ _, fun w => by simp [binOp, Op.intDiv, hl]⟩
  case rem =>
    obtain ⟨hl, h⟩ := Must_elim h
    exact ⟨_, _, h, vr_int _ _, fun w => by simp [binOp, Op.intDiv, hl]⟩
  case add => rw [wrapK_eq] at h; exact ⟨_, _, h, vr_int _ _, fun w => by simp [binOp, Op.intArith]⟩
  case sub => rw [wrapK_eq] at h; exact ⟨_, _, h, vr_int _ _, fun w => by simp [binOp, Op.intArith]⟩
  case mul => rw [wrapK_eq] at h; exact ⟨_, _, h, vr_int _ _, fun w => by simp [binOp, Op.intArith]⟩
  case and => exact ⟨_, _, h, vr_int _ _, fun w => by simp [binOp, Op.intBits]⟩
  case or => exact ⟨_, _, h, vr_int _ _, fun w => by simp [binOp, Op.intBits]⟩
  case xor => exact ⟨_, _, h, vr_int _ _, fun w => by simp [binOp, Op.intBits]⟩
  all_goals exact ⟨_, _, h, vr_bool _, fun w => by simp [binOp, Op.intCmp]; try rfl⟩

theorem ps_bin (hT : TabOk P T) (hρ : ∀ x, ER δ B (s.ev x) (ρ x)) {op : BinOp} {t u : TypeId} {x y : Operand} (h : pureOp T s ⟨dst, .binOp op t x y u, type, pos, after, guard⟩ K) : PS P ⟨dst, .binOp op t x y u, type, pos, after, guard⟩ ρ δ B K := by
  simp only [pureOp] at h
  have hx := hρ x
  have hy := hρ y
  have key : ∀ z, (∀ w, (binOp op t (ρ x) (ρ y)).run P w = .ok z w) → (∀ w, (eqGuard op t x y (ρ x) (ρ y)).run P w = .ok () w) → ∀ w, (execOp ρ ⟨dst, .binOp op t x y u, type, pos, after, guard⟩).run P w = .ok (.value z) w := by
    intro z h1 h2 w
    simp [execOp, h1, h2]
  unfold binV at h
  split at h
  · rename_i k a k' b e1 e2
    rw [e1] at hx; rw [e2] at hy
    simp only [ER, VR] at hx hy
    rw [hx, hy] at key
    split at h
    · obtain ⟨hb, h⟩ := Must_elim h
      rw [wrapK_eq] at h
      exact ⟨_, _, h, .of_VR (vr_int _ _), key _ (fun w => by simp [binOp, Op.shift, Int.not_lt.2 hb]) fun w => run_guard_plain w trivial⟩
    · obtain ⟨hb, h⟩ := Must_elim h
      exact ⟨_, _, h, .of_VR (vr_int _ _), key _ (fun w => by simp [binOp, Op.shift, Int.not_lt.2 hb]) fun w => run_guard_plain w trivial⟩
    · rename_i h1 h2
      split at h
      · rename_i hk
        subst hk
        obtain ⟨v, z, h, hv, hr⟩ := ps_int (P := P) (B := B) op k h ⟨fun e => h1 e, fun e => h2 e⟩
        refine ⟨v, z, h, .of_VR hv, key _ (fun w => ?_) fun w => run_guard_plain w trivial⟩
        rw [← hr w]
        cases op <;> first | rfl | (exact absurd rfl h1) | (exact absurd rfl h2)
      · exact h.elim
  · rename_i a b e1 e2
    rw [e1] at hx; rw [e2] at hy
    simp only [ER, VR] at hx hy
    rw [hx, hy] at key
    obtain ⟨v, z, h, hv, hr⟩ := ps_str (P := P) (B := B) op h
    refine ⟨v, z, h, .of_VR hv, key _ (fun w => ?_) fun w => run_guard_plain w trivial⟩
    rw [← hr w]
    cases op <;> rfl
  · rename_i a b e1 e2
    rw [e1] at hx; rw [e2] at hy
    simp only [ER, VR] at hx hy
    rw [hx, hy] at key
    have hb : (T.at t).desc = .bool → ∀ w, (Op.equal t (.bool a) (.bool b)).run P w = .ok (a == b) w := by
      intro hd w
      have hu := (hT.get (t := t) (by unfold TI.ok; rw [hd])).und
      rw [hd] at hu
      have e : Op.equal t (.bool a) (.bool b) = Op.equalIn (9999 + 1) t (.bool a) (.bool b) := rfl
      rw [e, Op.equalIn]
      simp [underlying, hu]
    split at h
    · rename_i hd
      exact ⟨_, _, h, .of_VR (vr_bool _), key _ (fun w => by simp [binOp, hb hd]) fun w => run_guard_plain w trivial⟩
    · rename_i hd
      exact ⟨_, _, h, .of_VR (vr_bool _), key _ (fun w => by simp [binOp, hb hd]) fun w => run_guard_plain w trivial⟩
    · exact h.elim
  · rename_i a e o l e1 e2
    rw [e1] at hx; rw [e2] at hy
    simp only [ER, VR] at hx hy
    rw [hy] at key
    have hb : ∀ u, (T.at t).desc = .slice u → ∃ b, (b = true → l = 0) ∧ ∀ w, (Op.equal t (ρ x) (.slice none 0 0)).run P w = .ok b w := by
      intro u hd
      have hu := (hT.get (t := t) (by unfold TI.ok; rw [hd])).und
      rw [hd] at hu
      have e : ∀ z, Op.equal t z (.slice none 0 0) = Op.equalIn (9999 + 1) t z (.slice none 0 0) := fun _ => rfl
      rcases hx with ⟨_, cap, n, hx, _⟩ | ⟨h0, q, hx⟩
      · exact ⟨false, by simp, fun w => by rw [e, hx, Op.equalIn]; simp [underlying, hu]⟩
      · cases q with
        | none => exact ⟨true, fun _ => h0, fun w => by rw [e, hx, Op.equalIn]; simp [underlying, hu]⟩
        | some q => exact ⟨false, by simp, fun w => by rw [e, hx, Op.equalIn]; simp [underlying, hu]⟩
    have hsl : ∃ p n c, ρ x = .slice p n c := by
      rcases hx with ⟨_, cap, n, hx, _⟩ | ⟨h0, q, hx⟩ <;> exact ⟨_, _, _, hx⟩
    obtain ⟨p, n, c, hsl⟩ := hsl
    split at h
    · rename_i u hd
      obtain ⟨b, h0, hr⟩ := hb u hd
      unfold NilQ at h
      refine ⟨.bool b, _, ?_, .of_VR (vr_bool _), key _ (fun w => ?_) fun w => run_guard_plain w (by rw [hsl]; trivial)⟩
      · cases b
        · exact h.1
        · exact h.2 (h0 rfl)
      · have := hr w
        rw [hsl] at this ⊢
        simp [binOp, this]
    · rename_i u hd
      obtain ⟨b, h0, hr⟩ := hb u hd
      unfold NilQ at h
      refine ⟨.bool (!b), _, ?_, .of_VR (vr_bool _), key _ (fun w => ?_) fun w => run_guard_plain w (by rw [hsl]; trivial)⟩
      · cases b
        · exact h.1
        · exact h.2 (h0 rfl)
      · have := hr w
        rw [hsl] at this ⊢
        simp [binOp, this]
    · exact h.elim
  · rename_i e1 e2
    rw [e1] at hx; rw [e2] at hy
    simp only [ER, VR] at hx hy
    rw [hx, hy] at key
    have hb : ∀ u, (T.at t).desc = .slice u → ∀ w, (Op.equal t (.slice none 0 0) (.slice none 0 0)).run P w = .ok true w := by
      intro u hd w
      have hu := (hT.get (t := t) (by unfold TI.ok; rw [hd])).und
      rw [hd] at hu
      have e : Op.equal t (.slice none 0 0) (.slice none 0 0) = Op.equalIn (9999 + 1) t (.slice none 0 0) (.slice none 0 0) := rfl
      rw [e, Op.equalIn]
      simp [underlying, hu]
    split at h
    · rename_i u hd
      exact ⟨_, _, h, .of_VR (vr_bool _), key _ (fun w => by simp [binOp, hb u hd]) fun w => run_guard_plain w trivial⟩
    · rename_i u hd
      exact ⟨_, _, h, .of_VR (vr_bool _), key _ (fun w => by simp [binOp, hb u hd]) fun w => run_guard_plain w trivial⟩
    · exact h.elim
  · rename_i a b e1 e2
    rw [e1] at hx; rw [e2] at hy
    simp only [ER, VR] at hx hy
    obtain ⟨vs, hx, hvs⟩ := hx
    obtain ⟨us, hy, hus⟩ := hy
    rw [hx, hy] at key
    split at h
    · rename_i fs hd
      obtain ⟨he, h⟩ := ifB_elim h
      obtain ⟨b, h, hb⟩ := (hT.get (t := t) (by unfold TI.ok; rw [hd])).eq he fs hd B _ _ _ _ _ hvs hus h
      exact ⟨_, _, h, .of_VR (vr_bool _), key _ (fun w => by simp [binOp, (hb w).1]) fun w => (hb w).2 _ _ _⟩
    · rename_i fs hd
      obtain ⟨he, h⟩ := ifB_elim h
      obtain ⟨b, h, hb⟩ := (hT.get (t := t) (by unfold TI.ok; rw [hd])).eq he fs hd B _ _ _ _ _ hvs hus h
      exact ⟨_, _, h, .of_VR (vr_bool _), key _ (fun w => by simp [binOp, (hb w).1]) fun w => (hb w).2 _ _ _⟩
    · exact h.elim
  · exact h.elim

end
end Go.Proofs.Ytdbedlomiedncaa.Vc
