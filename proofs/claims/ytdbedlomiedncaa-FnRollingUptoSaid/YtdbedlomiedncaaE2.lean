/- The order of keys; a report with rising keys, merged into nothing. -/
import Derived.Test.YtdbedlomiedncaaE0
namespace Go.Proofs.Ytdbedlomiedncaa.Vc
open Go

theorem u8_cases (a b : UInt8) : (a < b ∧ ¬ b < a ∧ a ≠ b) ∨ (a = b ∧ ¬ a < b) ∨ (b < a ∧ ¬ a < b ∧ a ≠ b) := by
  rw [UInt8.lt_iff_toNat_lt, UInt8.lt_iff_toNat_lt]
  rcases Nat.lt_trichotomy a.toNat b.toNat with h | h | h
  · exact .inl ⟨h, by omega, fun e => by subst e; omega⟩
  · exact .inr (.inl ⟨UInt8.toNat_inj.1 h, by omega⟩)
  · exact .inr (.inr ⟨h, by omega, fun e => by subst e; omega⟩)

theorem gtr_eq : ∀ a b : List UInt8, gtr a b = isLss b a
  | [], [] => rfl
  | [], b :: y => rfl
  | a :: x, [] => rfl
  | a :: x, b :: y => by
    have ih := gtr_eq x y
    unfold gtr isLss at *
    simp only [Op.bytesLess]
    rcases u8_cases a b with ⟨h1, h2, h3⟩ | ⟨h1, h2⟩ | ⟨h1, h2, h3⟩
    · simp [h1, h2, Ne.symm h3]
    · subst h1; simp [h2, ← ih]
    · simp [h1, h2, h3]

theorem lss_irrefl : ∀ a : List UInt8, isLss a a = false
  | [] => rfl
  | a :: x => by
    have ih := lss_irrefl x
    unfold isLss at *
    simp only [Op.bytesLess, ih]
    rcases u8_cases a a with ⟨_, _, h⟩ | ⟨_, h⟩ | ⟨_, _, h⟩
    · exact absurd rfl h
    · simp [h]
    · exact absurd rfl h

theorem lss_trans : ∀ {a b c : List UInt8}, isLss a b = true → isLss b c = true → isLss a c = true
  | [], [], _, h, _ => by cases h
  | [], _ :: _, [], _, h => by cases h
  | [], _ :: _, _ :: _, _, _ => rfl
  | _ :: _, [], _, h, _ => by cases h
  | _ :: _, _ :: _, [], _, h => by cases h
  | a :: x, b :: y, c :: z, h, h' => by
    have ih := @lss_trans x y z
    unfold isLss at *
    simp only [Op.bytesLess, Bool.or_eq_true, Bool.and_eq_true, decide_eq_true_eq, beq_iff_eq] at *
    rcases h with h | ⟨rfl, h⟩
    · rcases h' with h' | ⟨rfl, h'⟩
      · exact .inl (UInt8.lt_trans h h')
      · exact .inl h
    · rcases h' with h' | ⟨rfl, h'⟩
      · exact .inl h'
      · exact .inr ⟨rfl, ih h h'⟩

theorem rise_eq (k l : List UInt8) : rise k l = isLss k l := gtr_eq l k

/-- keys that rise -/
def Rises (l : List R) : Prop := l.Pairwise fun x y => isLss x.key y.key = true

theorem rises_of {l : List R} (h : RepUp l) : Rises l := by
  unfold Rises
  rw [List.pairwise_iff_getElem]
  intro i j hi hj hij
  induction j with
  | zero => omega
  | succ j ih =>
    have hj' := (h (j + 1) hj).2.2 (by omega)
    rw [rise_eq] at hj'
    simp only [Nat.add_sub_cancel] at hj'
    by_cases e : i = j
    · subst e; exact hj'
    · exact lss_trans (ih (by omega) (by omega)) hj'

theorem lss_ne {a b : List UInt8} (h : isLss a b = true) : a ≠ b := fun e => by subst e; rw [lss_irrefl] at h; cases h
theorem lss_asymm {a b : List UInt8} (h : isLss a b = true) : isLss b a = false := by
  cases h' : isLss b a
  · rfl
  · have := lss_trans h h'
    rw [lss_irrefl] at this; cases this

/-- a row behind all others -/
theorem mergeOne_last {L : List R} {r : R} (h : ∀ x ∈ L, isLss x.key r.key = true) : mergeOne L r = L ++ [r] := by
  have h1 : ¬ L.findIdx (fun x => x.key == r.key) < L.length := fun hi => by
    have := List.findIdx_getElem (w := hi)
    exact lss_ne (h _ (List.getElem_mem hi)) (by simpa using this)
  have h2 : insAt L r.key = L.length := by
    unfold insAt
    rw [List.findIdx_eq_length]
    intro x hx
    rw [gtr_eq]; exact lss_asymm (h x hx)
  unfold mergeOne
  rw [dif_neg h1]
  unfold ins
  rw [h2, List.take_length, List.drop_length]

theorem mergeRep_rises {l : List R} (h : Rises l) : mergeRep [] l = l := by
  have key : ∀ (l L : List R), (L ++ l).Pairwise (fun x y => isLss x.key y.key = true) → mergeRep L l = L ++ l := by
    intro l
    induction l with
    | nil => intro L _; simp [mergeRep]
    | cons r l ih =>
      intro L hp
      have hr : ∀ x ∈ L, isLss x.key r.key = true := fun x hx => (List.pairwise_append.1 hp).2.2 x hx r (by simp)
      show mergeRep (mergeOne L r) l = _
      rw [mergeOne_last hr, ih _ (by simpa using hp)]; simp
  exact key l [] h

theorem repOk_up {l : List R} (h : repOk l = true) : RepUp l ∧ l.length ≤ 4 := by
  simp only [repOk, decide_eq_true_eq] at h
  exact ⟨h.1, by omega⟩

end Go.Proofs.Ytdbedlomiedncaa.Vc
