/- The table of types, checked by reckoning. -/
import Derived.Test.YtdbedlomiedncaaVc15
import Derived.Laws.StructEq
import Derived.KernelRfl
namespace Go.Proofs.Ytdbedlomiedncaa.Vc
open Go

section
variable {P : Program} {T : Tab}

def zero1 : AV → Value → Bool
  | .int k n, .int k' m => decide (k = k') && decide (n = m)
  | .bool b, .bool b' => b == b'
  | .str [], .string s => s.data.toList.isEmpty
  | .nilp, .pointer none => true
  | .nils, .slice none 0 0 => true
  | _, _ => false

def zeroB : List AV → List Value → Bool
  | [], [] => true
  | x :: xs, v :: vs => zero1 x v && zeroB xs vs
  | _, _ => false

theorem zero1_ok {B} {x : AV} {v : Value} (h : zero1 x v = true) : VR B x v := by
  unfold zero1 at h
  split at h <;> try simp only [VR]
  · simp at h; rw [h.1, h.2]
  · simp at h; rw [h]
  · rename_i s
    have : s.data.toList = [] := List.isEmpty_iff.1 h
    obtain ⟨⟨d⟩⟩ := s
    simp at this
    subst this; rfl
  · simp at h

theorem zeroB_ok {B} : ∀ {xs : List AV} {vs : List Value}, zeroB xs vs = true → VRs B xs vs
  | [], [], _ => by simp only [VRs]
  | x :: xs, v :: vs, h => by
    simp only [zeroB, Bool.and_eq_true] at h
    simp only [VRs]
    exact ⟨zero1_ok h.1, zeroB_ok h.2⟩
  | [], _ :: _, h => by simp [zeroB] at h
  | _ :: _, [], h => by simp [zeroB] at h

def kindB : TypeDesc → AV → Bool
  | .int k, .int k' _ => decide (k = k')
  | .bool, .bool _ => true
  | .string, .str _ => true
  | _, _ => false

def fieldB (P : Program) : Nat → List Field → List AV → Bool
  | _, [], [] => true
  | i, f :: fs, z :: zs => f.name != "_" && Nat.beq f.offset i && (match P.underlying f.type with
    | some u => kindB u z
    | none => false) && fieldB P (i + 1) fs zs
  | _, _, _ => false

/-- a struct of numbers, truth values and strings alone -/
def eqB (P : Program) (t : Nat) (zs : List AV) : Bool := (match P.underlying t with
  | some (.struct F) => fieldB P 0 F.toList zs
  | _ => false) && !P.stoodInHeld t && !P.eqGuardType P.depth t

def tyB (P : Program) (t : Nat) (ti : TI) : Bool := (match P.info? t with
  | none => false
  | some i => Nat.beq i.size ti.size && Nat.beq i.bytes ti.bytes && (match i.zero with
    | none => false
    | some z => zeroB ti.zero z.cells.toList)) && allCells ti.zero && Nat.beq ti.zero.length ti.size && Nat.blt 0 ti.size && Nat.blt 0 ti.bytes && (!ti.eq || eqB P t ti.zero) &&
  (match ti.desc with
    | .bad => false
    | .other => (match P.underlying t with
      | some (.struct _) => false
      | some (.array _ _) => false
      | some _ => true
      | none => false)
    | .int k => (match P.underlying t with | some (.int k') => decide (k = k') && Nat.beq ti.size 1 | _ => false)
    | .bool => (match P.underlying t with | some .bool => true | _ => false)
    | .string => (match P.underlying t with | some .string => true | _ => false)
    | .slice e => (match P.underlying t with | some (.slice e') => Nat.beq e e' | _ => false)
    | .struct fs => (match P.underlying t with | some (.struct F) => (F.toList.map fun f => (f.offset, f.type)) == fs && F.toList.all fun f => (P.info? f.type).isSome | _ => false)
    | .array n e => (match P.underlying t with | some (.array n' e') => Nat.beq n n' && Nat.beq e e' | _ => false))

theorem bytes_beq (x y : List UInt8) : ((⟨x.toArray⟩ : ByteArray) == ⟨y.toArray⟩) = (x == y) := by
  rw [beq_toListBytes, bytes_toList, bytes_toList]

theorem eqCell_ok {B} {u : TypeDesc} {z c e : AV} {x y : Value} {b : Bool} {t : Nat} (hu : P.underlying t = some u) (hz : kindB u z = true) (h : eqCell z c e = some b) (hx : VR B c x) (hy : VR B e y) (d : Nat) (w : World) : (Op.equalIn (d + 1) t x y).run P w = .ok b w := by
  unfold eqCell at h
  split at h <;> try simp only [VR] at hx hy
  · rename_i k n k1 a k2 b'
    split at h
    · rename_i h1 h2
      have h1 := of_decide_eq_true h1
      have h2 := of_decide_eq_true h2
      injection h with h
      subst h; subst hx; subst hy; subst h1; subst h2
      cases u <;> simp [kindB] at hz
      subst hz
      rw [Op.equalIn]
      simp [Sem.run_bind, run_underlying hu]
    · cases h
  · injection h with h
    subst h; subst hx; subst hy
    cases u <;> simp [kindB] at hz
    rw [Op.equalIn]
    simp [Sem.run_bind, run_underlying hu]
  · injection h with h
    subst h; subst hx; subst hy
    cases u <;> simp [kindB] at hz
    rw [Op.equalIn]
    simp [Sem.run_bind, run_underlying hu, bytes_beq]
  · cases h

theorem eqFields_ok (B : Nat → Option Nat) (xs ys : Array Value) (d : Nat) : ∀ (fs : List Field) (i : Nat) (zs cs ds : List AV) (K : Bool → Prop), fieldB P i fs zs = true →
    VRs B cs (xs.toList.drop i) → VRs B ds (ys.toList.drop i) → eqCells zs cs ds K → ∃ b, K b ∧ ∀ w, (Op.eqFields (d + 1) xs ys fs).run P w = .ok b w
  | [], i, [], cs, ds, K, _, _, _, h => by
    cases cs <;> cases ds <;> simp only [eqCells] at h
    exact ⟨true, h, fun w => by simp [Op.eqFields]⟩
  | f :: fs, i, z :: zs, cs, ds, K, hf, hx, hy, h => by
    cases cs with
    | nil => cases ds <;> simp only [eqCells] at h
    | cons c cs => cases ds with
      | nil => simp only [eqCells] at h
      | cons e ds =>
        simp only [eqCells] at h
        simp only [fieldB, Bool.and_eq_true] at hf
        obtain ⟨⟨⟨hn, ho⟩, hu⟩, hf⟩ := hf
        have ho := Nat.eq_of_beq_eq_true ho
        subst ho
        have hx0 := hx; have hy0 := hy
        cases hxd : xs.toList.drop f.offset with
        | nil => rw [hxd] at hx0; simp only [VRs] at hx0
        | cons x xr =>
          cases hyd : ys.toList.drop f.offset with
          | nil => rw [hyd] at hy0; simp only [VRs] at hy0
          | cons y yr =>
            rw [hxd] at hx0; rw [hyd] at hy0
            simp only [VRs] at hx0 hy0
            have gx : xs[f.offset]? = some x := by
              have := congrArg (fun l => l[0]?) hxd
              simpa using this
            have gy : ys[f.offset]? = some y := by
              have := congrArg (fun l => l[0]?) hyd
              simpa using this
            have hxr : VRs B cs (xs.toList.drop (f.offset + 1)) := by
              have : xs.toList.drop (f.offset + 1) = xr := by rw [← List.drop_drop, hxd]; rfl
              rw [this]; exact hx0.2
            have hyr : VRs B ds (ys.toList.drop (f.offset + 1)) := by
              have : ys.toList.drop (f.offset + 1) = yr := by rw [← List.drop_drop, hyd]; rfl
              rw [this]; exact hy0.2
            split at h
            · rename_i b hb
              obtain ⟨r, hr, hrun⟩ := eqFields_ok B xs ys d fs (f.offset + 1) zs cs ds _ hf hxr hyr h
              refine ⟨_, hr, fun w => ?_⟩
              cases hu1 : P.underlying f.type with
              | none => rw [hu1] at hu; simp at hu
              | some u =>
                rw [hu1] at hu
                have hz : kindB u z = true := hu
                have hu3 := eqCell_ok hu1 hz hb hx0.1 hy0.1 d w
                have hag : (isAgg f.type).run P w = .ok false w := by
                  unfold isAgg underlying
                  cases u <;> simp [hu1, kindB] at hz ⊢
                have hpx : (part f.type xs f.offset).run P w = .ok x w := by simp [part, hag, gx]
                have hpy : (part f.type ys f.offset).run P w = .ok y w := by simp [part, hag, gy]
                have hn' : f.name ≠ "_" := by simpa using hn
                rw [Op.eqFields, if_pos hn']
                simp only [Sem.run_bind, hpx, hpy, hu3, Result.andThen_ok]
                cases b
                · simp
                · simpa using hrun w
            · exact h.elim
  | [], _, _ :: _, _, _, _, hf, _, _, _ => by simp [fieldB] at hf
  | _ :: _, _, [], _, _, _, hf, _, _, _ => by simp [fieldB] at hf

theorem eqB_ok {t : Nat} {zs : List AV} (h : eqB P t zs = true) : EqOk P t zs := by
  intro B cs ds xs ys K hx hy hK
  simp only [eqB, Bool.and_eq_true, Bool.not_eq_true'] at h
  obtain ⟨⟨h1, h2⟩, h3⟩ := h
  split at h1
  · rename_i F hF
    obtain ⟨b, hb, hrun⟩ := eqFields_ok B xs ys 9998 F.toList 0 zs cs ds K h1 (by simpa using hx) (by simpa using hy) hK
    refine ⟨b, hb, fun w => ⟨?_, fun op x y => ?_⟩⟩
    · have e : Op.equal t (.agg xs) (.agg ys) = Op.equalIn (9999 + 1) t (.agg xs) (.agg ys) := rfl
      have hf : P.fieldsOf t = F := by simp [Program.fieldsOf, hF]
      rw [e, run_equalIn_struct (P := P) w 9999 t xs ys (by rw [hf]; exact hF) h2, hf]
      exact hrun w
    · unfold eqGuard
      cases op <;> simp [h3]
  · cases h1

theorem tyB_ok {t : Nat} {ti : TI} (h : tyB P t ti = true) : TyOk P t ti := by
  simp only [tyB, Bool.and_eq_true] at h
  obtain ⟨⟨⟨⟨⟨⟨h1, h2⟩, h3⟩, h4⟩, h5⟩, h6⟩, h7⟩ := h
  have lt : ∀ {a b : Nat}, Nat.blt a b = true → a < b := fun h => Nat.lt_of_succ_le (by simpa [Nat.blt] using h)
  refine ⟨?_, ?_, lt h4, lt h5, fun he fs _ => eqB_ok (by simpa [he] using h6)⟩
  · cases hi : P.info? t with
    | none => rw [hi] at h1; simp at h1
    | some i =>
      rw [hi] at h1
      simp only [Bool.and_eq_true] at h1
      obtain ⟨⟨q1, q2⟩, q3⟩ := h1
      split at q3
      · cases q3
      · rename_i z hz
        exact ⟨i, z, rfl, Nat.eq_of_beq_eq_true q1, Nat.eq_of_beq_eq_true q2, hz, fun B => zeroB_ok q3, h2, Nat.eq_of_beq_eq_true h3⟩
  · revert h7
    cases hd : ti.desc <;> intro h7 <;> simp only at h7 ⊢
    · cases h7
    · split at h7
      · cases h7
      · cases h7
      · rename_i u h8 h9 hu
        refine ⟨u, hu, ?_⟩
        cases u <;> first | trivial | (exact (h8 _ rfl).elim) | (exact (h9 _ _ rfl).elim)
      · cases h7
    · split at h7
      · rename_i k' hu
        simp only [Bool.and_eq_true, decide_eq_true_eq] at h7
        obtain ⟨e, hs⟩ := h7
        rw [e]
        exact ⟨hu, Nat.eq_of_beq_eq_true hs⟩
      · cases h7
    · split at h7
      · assumption
      · cases h7
    · split at h7
      · assumption
      · cases h7
    · split at h7
      · rename_i hu
        rw [Nat.eq_of_beq_eq_true h7]; exact hu
      · cases h7
    · split at h7
      · rename_i F hu
        simp only [Bool.and_eq_true, beq_iff_eq, List.all_eq_true] at h7
        exact ⟨F, hu, h7.1, h7.2⟩
      · cases h7
    · split at h7
      · rename_i hu
        simp only [Bool.and_eq_true] at h7
        rw [Nat.eq_of_beq_eq_true h7.1, Nat.eq_of_beq_eq_true h7.2]; exact hu
      · cases h7

def tabB (P : Program) (T : Tab) : Bool := T.all fun e => tyB P e.1 e.2

theorem tabB_ok (h : tabB P T = true) : TabOk P T := fun e he => tyB_ok (by
  have := List.all_eq_true.1 h e he
  exact this)

end
end Go.Proofs.Ytdbedlomiedncaa.Vc
