/- A region whose order is open: it is enough to take its operations in one order. -/
import Derived.Test.YtdbedlomiedncaaVc10
namespace Go.Proofs.Ytdbedlomiedncaa.Vc
open Go

/-! ### orders -/

section
variable {P : Program} {ops : Array Oper} {Q : Exit → Act → World → Prop} {mt : Oper → Bool}

def Yld (P : Program) (ops : Array Oper) (o : Oper) (v : Value) (a : Act) (w : World) : Prop :=
  (Region.wanted o (yielded ops a.tmps) = true ∧ (execOp a.eval o).run P w = .ok (.value v) w) ∨ (Region.wanted o (yielded ops a.tmps) = false ∧ v = undef)

theorem Yld.keep {oi oj : Oper} {v u : Value} {a : Act} {w : World} (hs : ∀ cs b, oi.op ≠ .select cs b) (h : ∀ d, oj.dst = some d → d ∉ oi.looksAt ops) : Yld P ops oi v (a.put oj.dst u) w ↔ Yld P ops oi v a w := by
  unfold Yld
  rw [wanted_put oi a oj.dst u h, execOp_put oi hs a oj.dst u h]

inductive Waits (ops : Array Oper) : Nat → Nat → Prop
  | one {m o e} : ops[m]? = some o → e ∈ o.after → Region.binds .any e = true → Waits ops m e.on
  | step {m o e j} : ops[m]? = some o → e ∈ o.after → Region.binds .any e = true → Waits ops e.on j → Waits ops m j

theorem waitsB_spec : ∀ {n m j : Nat}, waitsB ops n m j = true → Waits ops m j := by
  intro n
  induction n with
  | zero => intro m j h; simp [waitsB] at h
  | succ n ih =>
    intro m j h
    unfold waitsB at h
    split at h
    · cases h
    · rename_i o ho
      simp only [Bool.or_eq_true, Array.any_eq_true', Bool.and_eq_true] at h
      rcases h with ⟨e, he, hb, hj⟩ | ⟨e, he, hb, hj⟩
      · rw [← Nat.eq_of_beq_eq_true hj]; exact .one ho he hb
      · exact .step ho he hb (ih hj)

abbrev Reads := List (Nat × (World → Prop))

def OpI (P : Program) (ops : Array Oper) (mt : Oper → Bool) (R : Reads) (j : Nat) (K : Act → World → Prop) (a : Act) (w : World) : Prop := ∃ o, ops[j]? = some o ∧
  ((mt o = true ∧ ((Region.wanted o (yielded ops a.tmps) = true ∧ OpRuns P o a w fun v w' => (∀ r ∈ R, ¬ Waits ops j r.1 → r.2 w') ∧ K (a.put o.dst v) w') ∨
    (Region.wanted o (yielded ops a.tmps) = false ∧ K (a.put o.dst undef) w))) ∨
  (mt o = false ∧ ∃ v, Yld P ops o v a w ∧ K (a.put o.dst v) w))

theorem OpI.mono {R R' : Reads} {j K K' a w} (h : OpI P ops mt R j K a w) (hR : ∀ r ∈ R', r ∈ R) (hK : ∀ a w, K a w → K' a w) : OpI P ops mt R' j K' a w := by
  obtain ⟨o, ho, ⟨hm, ⟨hw, h⟩ | ⟨hw, h⟩⟩ | ⟨hm, v, hv, h⟩⟩ := h
  · exact ⟨o, ho, .inl ⟨hm, .inl ⟨hw, h.mono fun v w' ⟨h1, h2⟩ => ⟨fun r hr => h1 r (hR r hr), hK _ _ h2⟩⟩⟩⟩
  · exact ⟨o, ho, .inl ⟨hm, .inr ⟨hw, hK _ _ h⟩⟩⟩
  · exact ⟨o, ho, .inr ⟨hm, v, hv, hK _ _ h⟩⟩

theorem OpI.wp {R : Reads} {j K a w} (h : OpI P ops mt R j K a w) : wpOp P ops Q j K a w := by
  obtain ⟨o, ho, h⟩ := h
  unfold wpOp
  simp only [ho]
  rcases h with ⟨hm, ⟨hw, h⟩ | ⟨hw, h⟩⟩ | ⟨hm, v, ⟨hw, hv⟩ | ⟨hw, hv⟩, h⟩
  · rw [if_pos hw]; exact .inl (h.wp fun v w' h => h.2)
  · rw [if_neg (by simp [hw])]; exact h
  · rw [if_pos hw]; exact .inl (OpRuns.wp (R := fun x w' => x = v ∧ w' = w) (.inl ⟨v, w, hv, rfl, rfl⟩) fun x w' ⟨h1, h2⟩ => by subst h1; subst h2; exact h)
  · subst hv; rw [if_neg (by simp [hw])]; exact h

def Node (P : Program) (ops : Array Oper) (mt : Oper → Bool) (Q : Exit → Act → World → Prop) (R : Reads) : Nat → Array Bool → Act → World → Prop
  | 0, l, a, w => Region.ready .any ops l = [] ∧ Q .normal a w
  | n + 1, l, a, w => (Region.ready .any ops l = [] → Q .normal a w) ∧ ∀ j ∈ Region.ready .any ops l, OpI P ops mt R j (Node P ops mt Q R n (l.setIfInBounds j true)) a w

theorem Node.mono {R R' : Reads} (hR : ∀ r ∈ R', r ∈ R) : ∀ {n l a w}, Node P ops mt Q R n l a w → Node P ops mt Q R' n l a w := by
  intro n
  induction n with
  | zero => intro l a w h; exact h
  | succ n ih => intro l a w h; exact ⟨h.1, fun j hj => (h.2 j hj).mono hR fun _ _ => ih⟩

theorem Node.any {R : Reads} : ∀ {n l a w}, Node P ops mt Q R n l a w → wpAny P .any ops Q n l a w := by
  intro n
  induction n with
  | zero => intro l a w h; exact h
  | succ n ih => intro l a w h; exact ⟨h.1, fun j hj => wpOp_mono (fun _ _ => ih) (h.2 j hj).wp⟩

theorem Node.done {R : Reads} {l a w} (hr : Region.ready .any ops l = []) (h : Q .normal a w) : ∀ n, Node P ops mt Q R n l a w
  | 0 => ⟨hr, h⟩
  | _ + 1 => ⟨fun _ => h, by rw [hr]; simp⟩

def Closed (ops : Array Oper) (l : Array Bool) : Prop := ∀ k o, ops[k]? = some o → l.getD k false = true → ∀ e ∈ o.after, Region.binds .any e = true → l.getD e.on false = true

theorem Closed.waits {l} (h : Closed ops l) {m j} (hw : Waits ops m j) : l.getD m false = true → l.getD j false = true := by
  induction hw with
  | one ho he hb => exact fun hm => h _ _ ho hm _ he hb
  | step ho he hb _ ih => exact fun hm => ih (h _ _ ho hm _ he hb)

theorem Closed.ready {l} (h : Closed ops l) {m j} (hw : Waits ops m j) (hm : m ∈ Region.ready .any ops l) : l.getD j false = true := by
  obtain ⟨_, o, ho, hall⟩ := mem_ready.1 hm
  cases hw with
  | one ho' he hb => rw [ho] at ho'; injection ho' with e; subst e; exact hall _ he hb
  | step ho' he hb hw => rw [ho] at ho'; injection ho' with e; subst e; exact h.waits hw (hall _ he hb)

theorem Closed.set {l} (h : Closed ops l) {m} (hm : m ∈ Region.ready .any ops l) : Closed ops (l.setIfInBounds m true) := by
  intro k o ho hk e he hb
  by_cases hkm : m = k
  · subst hkm
    obtain ⟨_, o', ho', hall⟩ := mem_ready.1 hm
    rw [ho] at ho'; injection ho' with e'; subst e'
    exact getD_set_true (hall e he hb)
  · rw [getD_set_ne false hkm] at hk
    exact getD_set_true (h k o ho hk e he hb)

theorem unlisted {l : Array Bool} {j : Nat} (h : j ∈ Region.ready .any ops l) : l.getD j false = false := by
  have := (mem_ready.1 h).1
  rw [Array.getD_eq_getD_getElem?] at this ⊢
  cases hl : l[j]? with
  | none => rw [hl] at this; simp at this
  | some b => rw [hl] at this; simpa using this

/-- a quiet operation may be taken first -/
theorem Node.first {i : Nat} {oi : Oper} {v : Value} {r : World → Prop} {R : Reads} (hi : ops[i]? = some oi) (hm : mt oi = false) (hsel : ∀ (j : Nat) (o : Oper) cs b, ops[j]? = some o → o.op ≠ .select cs b) :
    ∀ (n : Nat) (l : Array Bool) (a : Act) (w : World),
      (∀ j oj, ops[j]? = some oj → j ≠ i → l.getD j true = false → (∀ e ∈ oj.after, Region.binds .any e = true → e.on ≠ i) → oi.apart ops oj = true) →
      Closed ops l → i ∈ Region.ready .any ops l → Yld P ops oi v a w → (∀ w', r w' → Yld P ops oi v a w') →
      Node P ops mt Q ((i, r) :: R) n (l.setIfInBounds i true) (a.put oi.dst v) w → Node P ops mt Q R (n + 1) l a w := by
  intro n
  induction n with
  | zero =>
    intro l a w _ _ hr hy _ H
    refine ⟨fun h => (by rw [h] at hr; cases hr), fun j hj => ?_⟩
    by_cases hji : j = i
    · subst hji; exact ⟨oi, hi, .inr ⟨hm, v, hy, H.mono fun r hr => List.mem_cons_of_mem _ hr⟩⟩
    · have := ready_mono hj hji
      rw [H.1] at this
      cases this
  | succ n ih =>
    intro l a w hfree hcl hr hy hrr H
    refine ⟨fun h => (by rw [h] at hr; cases hr), fun j hj => ?_⟩
    by_cases hji : j = i
    · subst hji; exact ⟨oi, hi, .inr ⟨hm, v, hy, H.mono fun r hr => List.mem_cons_of_mem _ hr⟩⟩
    · obtain ⟨oj, hoj, h1⟩ := H.2 j (ready_mono hj hji)
      obtain ⟨hjun, oj', hoj', hall⟩ := mem_ready.1 hj
      rw [hoj] at hoj'; injection hoj' with e; subst e
      have hnot : ∀ e ∈ oj.after, Region.binds .any e = true → e.on ≠ i := fun e he hb heq => by
        have h1 := hall e he hb
        rw [heq, unlisted hr] at h1
        cases h1
      have hap := hfree j oj hoj hji hjun hnot
      obtain ⟨a1, a2, a3⟩ := Oper.apart_spec hap
      have hsi := fun cs b => hsel i oi cs b hi
      have hsj := fun cs b => hsel j oj cs b hoj
      have hnw : ¬ Waits ops j i := fun hw => by have := hcl.ready hw hj; rw [unlisted hr] at this; cases this
      have hfree' : ∀ k ok, ops[k]? = some ok → k ≠ i → (l.setIfInBounds j true).getD k true = false →
          (∀ e ∈ ok.after, Region.binds .any e = true → e.on ≠ i) → oi.apart ops ok = true := fun k ok hk hki hun hno => by
        refine hfree k ok hk hki ?_ hno
        by_cases hjk : j = k
        · subst hjk; exact hjun
        · rw [getD_set_ne true hjk] at hun; exact hun
      have step : ∀ u w', Yld P ops oi v a w' → Node P ops mt Q ((i, r) :: R) n ((l.setIfInBounds i true).setIfInBounds j true) ((a.put oi.dst v).put oj.dst u) w' →
          Node P ops mt Q R (n + 1) (l.setIfInBounds j true) (a.put oj.dst u) w' := fun u w' hy' h => by
        refine ih _ _ _ hfree' (hcl.set hj) (ready_mono hr (Ne.symm hji)) ((Yld.keep hsi a3).2 hy') (fun w'' h => (Yld.keep hsi a3).2 (hrr w'' h)) ?_
        rw [Array.setIfInBounds_comm _ _ hji, ← Act.put_comm a v u a2]
        exact h
      have hwj := wanted_put (ops := ops) oj a oi.dst v a1
      have hej := execOp_put (ops := ops) oj hsj a oi.dst v a1
      refine ⟨oj, hoj, ?_⟩
      rcases h1 with ⟨hmj, ⟨hw, h⟩ | ⟨hw, h⟩⟩ | ⟨hmj, u, hu, h⟩
      · rw [hwj] at hw
        refine .inl ⟨hmj, .inl ⟨hw, ?_⟩⟩
        have h' : OpRuns P oj a w fun u w' => (∀ r' ∈ (i, r) :: R, ¬ Waits ops j r'.1 → r'.2 w') ∧ Node P ops mt Q ((i, r) :: R) n ((l.setIfInBounds i true).setIfInBounds j true) ((a.put oi.dst v).put oj.dst u) w' := by
          unfold OpRuns at h ⊢
          rw [hej] at h
          exact h
        exact h'.mono fun u w' ⟨h1, h2⟩ => ⟨fun r' hr' => h1 r' (List.mem_cons_of_mem _ hr'), step u w' (hrr w' (h1 _ List.mem_cons_self hnw)) h2⟩
      · rw [hwj] at hw
        exact .inl ⟨hmj, .inr ⟨hw, step _ w hy h⟩⟩
      · exact .inr ⟨hmj, u, (Yld.keep hsj a1).1 hu, step u w hy h⟩

end
end Go.Proofs.Ytdbedlomiedncaa.Vc
