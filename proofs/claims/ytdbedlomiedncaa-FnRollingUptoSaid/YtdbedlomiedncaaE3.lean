/- A counter's sum in the last reports merged. -/
import Derived.Test.YtdbedlomiedncaaE2
import Derived.Test.YtdbedlomiedncaaD6
namespace Go.Proofs.Ytdbedlomiedncaa.Vc
open Go

theorem keyOk_ne {k : List UInt8} (h : keyOk k = true) : k ≠ [] := by
  intro e; subst e; revert h; decide

theorem ok_key {r : R} (h : r.ok = true) : r.key ≠ [] := by
  simp only [R.ok, Bool.and_eq_true] at h
  exact keyOk_ne h.1

/-- a row's rank is within bounds -/
theorem ok_rank {r : R} (h : r.ok = true) : 0 ≤ r.rank ∧ r.rank ≤ 281474976710655 := by
  simp only [R.ok, Bool.and_eq_true] at h
  obtain ⟨_, h⟩ := h
  unfold R.rank
  split at h
  · rename_i e; rw [if_pos e]; simp [inB] at h; omega
  · rename_i e1; rw [if_neg e1]
    split at h
    · rename_i e; rw [if_pos e]; simp [inB] at h; omega
    · rename_i e2; rw [if_neg e2]
      split at h
      · rename_i e; rw [if_pos e]
        simp only [Bool.and_eq_true] at h
        obtain ⟨_, h⟩ := h
        unfold R.timerOk at h
        split at h
        · simp at h; omega
        · simp only [inB, Bool.and_eq_true, decide_eq_true_eq, Bool.or_eq_true, beq_iff_eq] at h
          obtain ⟨⟨⟨⟨⟨⟨n1, n2⟩, m1, m2⟩, m3⟩, t1, t2⟩, _⟩, _⟩ := h
          have b1 : 0 ≤ r.n * r.min := Int.mul_nonneg (by omega) m1
          have b2 : r.n * r.min ≤ 3 * 65535 := Int.le_trans (Int.mul_le_mul_of_nonneg_right n2 m1) (by omega)
          have b3 : 0 ≤ r.n * r.max := Int.mul_nonneg (by omega) (by omega)
          have b4 : r.n * r.max ≤ 3 * 65535 := Int.le_trans (Int.mul_le_mul_of_nonneg_right n2 (by omega)) (by omega)
          rw [wrap_id (by omega) (by omega)] at t1 t2
          omega
      · cases h

theorem findRow_mem {l : List R} {k : List UInt8} (h : (findRow l k).2 = true) : (findRow l k).1 ∈ l ∧ (findRow l k).1.key = k := by
  rw [findRow_def] at *
  cases e : l.find? (fun r => r.key == k) with
  | none => rw [e] at h; cases h
  | some r =>
    simp only
    exact ⟨List.mem_of_find?_eq_some e, by simpa using List.find?_some e⟩

theorem findRow_no {l : List R} {k : List UInt8} (h : (findRow l k).2 = false) : (findRow l k).1 = R.zero ∧ ∀ r ∈ l, r.key ≠ k := by
  rw [findRow_def] at *
  cases e : l.find? (fun r => r.key == k) with
  | some r => rw [e] at h; cases h
  | none =>
    rw [List.find?_eq_none] at e
    exact ⟨rfl, fun r hr => by simpa using e r hr⟩

theorem rank_find {l : List R} (h : repOk l = true) (k : List UInt8) : 0 ≤ (findRow l k).1.rank ∧ (findRow l k).1.rank ≤ 281474976710656 := by
  cases e : (findRow l k).2 with
  | true =>
    obtain ⟨h1, _⟩ := findRow_mem e
    obtain ⟨i, hi, hx⟩ := List.mem_iff_getElem.1 h1
    have := ok_rank ((repOk_up h).1 i hi).1
    rw [hx] at this; omega
  | false =>
    rw [(findRow_no e).1]; unfold R.rank R.zero; decide

/-- one report's part of a key's total: its one row of that key -/
theorem totL_one {l : List R} (h : repOk l = true) (k : List UInt8) (acc : R) : totL k acc l = if (findRow l k).2 = true then acc.merge (findRow l k).1 else acc := by
  have hr := rises_of (repOk_up h).1
  clear h
  induction l generalizing acc with
  | nil => rfl
  | cons r l ih =>
    have hr2 : Rises l := (List.pairwise_cons.1 hr).2
    have hlt := (List.pairwise_cons.1 hr).1
    show totL k (if (r.key == k) = true then acc.merge r else acc) l = _
    by_cases e : (r.key == k) = true
    · have e' : r.key = k := by simpa using e
      have hno : (findRow l k).2 = false := by
        cases e2 : (findRow l k).2 with
        | false => rfl
        | true =>
          obtain ⟨h1, h2⟩ := findRow_mem e2
          exact absurd (e'.trans h2.symm) (lss_ne (hlt _ h1))
      have hf : findRow (r :: l) k = (r, true) := by rw [findRow_def, List.find?_cons, e]
      rw [ih _ hr2, hno, hf, if_pos e]
      rfl
    · have hf : findRow (r :: l) k = findRow l k := by
        rw [findRow_def, findRow_def, List.find?_cons]
        simp [e]
      rw [ih _ hr2, hf, if_neg e]

theorem merge_count {a b : R} (ha : a.key = b.key) (hk : a.kind = 1) (hb : b.kind = 1) (hz : a.isZero = false) : (a.merge b).kind = 1 ∧ (a.merge b).key = a.key ∧ (a.merge b).sum = (a.sum + b.sum) % 281474976710656 := by
  unfold R.merge
  rw [if_neg (by simp [hz]), if_neg (by simp [ha]), if_neg (by simp [hk, hb])]
  exact ⟨hk, rfl, rfl⟩

/-- a counter's total over well formed reports is the sum of its ranks -/
theorem tot_sum {k : List UInt8} (hk : k ≠ []) : ∀ (rs : List (List R)), (∀ l ∈ rs, repOk l = true) → (∀ l ∈ rs, (findRow l k).2 = true → (findRow l k).1.kind = 1) →
    ∀ acc : R, (acc = R.zero ∨ (acc.key = k ∧ acc.kind = 1)) → 0 ≤ acc.sum → acc.sum ≤ 281474976710655 →
    ((rs.foldl (totL k) acc) = R.zero ∨ ((rs.foldl (totL k) acc).key = k ∧ (rs.foldl (totL k) acc).kind = 1)) ∧ 0 ≤ (rs.foldl (totL k) acc).sum ∧ (rs.foldl (totL k) acc).sum ≤ 281474976710655 ∧ (rs.foldl (totL k) acc).sum = (acc.sum + (series rs k).sum) % 281474976710656 := by
  intro rs
  induction rs with
  | nil => intro _ _ acc h h0 h1; exact ⟨h, h0, h1, by simp [series]; omega⟩
  | cons l rs ih =>
    intro hok hkind acc hacc h0 h1
    have hl := hok l (by simp)
    have hser : (series (l :: rs) k).sum = (findRow l k).1.rank + (series rs k).sum := by simp [series]
    have ih' := ih (fun z hz => hok z (by simp [hz])) (fun z hz => hkind z (by simp [hz]))
    rw [List.foldl_cons, totL_one hl, hser]
    cases e : (findRow l k).2 with
    | false =>
      have hz := (findRow_no e).1
      have hr : (findRow l k).1.rank = 0 := by rw [hz]; rfl
      rw [hr]
      simp only [Bool.false_eq_true, if_false, Int.zero_add]
      exact ih' acc hacc h0 h1
    | true =>
      obtain ⟨hm, hkey⟩ := findRow_mem e
      have hki := hkind l (by simp) e
      have hrk : (findRow l k).1.rank = (findRow l k).1.sum := by unfold R.rank; rw [if_pos hki]
      obtain ⟨i, hi, hx⟩ := List.mem_iff_getElem.1 hm
      have hrok := ((repOk_up hl).1 i hi).1
      rw [hx] at hrok
      have hrb := ok_rank hrok
      rw [hrk] at hrb ⊢
      generalize (findRow l k).1 = r at *
      simp only [if_true]
      rcases hacc with rfl | ⟨ha1, ha2⟩
      · have hmz : R.zero.merge r = r := by unfold R.merge; rw [if_pos ((R.zero_iff _).2 rfl)]
        rw [hmz]
        have := ih' r (.inr ⟨hkey, hki⟩) hrb.1 hrb.2
        refine ⟨this.1, this.2.1, this.2.2.1, ?_⟩
        rw [this.2.2.2]
        show _ = ((0 : Int) + _) % _
        rw [Int.zero_add]
      · have hz : acc.isZero = false := by
          cases h : acc.isZero with
          | false => rfl
          | true =>
            rw [R.zero_iff] at h
            rw [h] at ha1; exact absurd ha1.symm hk
        obtain ⟨m1, m2, m3⟩ := merge_count (ha1.trans hkey.symm) ha2 hki hz
        have := ih' (acc.merge r) (.inr ⟨m2.trans ha1, m1⟩) (by rw [m3]; omega) (by rw [m3]; omega)
        refine ⟨this.1, this.2.1, this.2.2.1, ?_⟩
        rw [this.2.2.2, m3]
        omega

/-- the row of a counter in the last reports merged -/
theorem overall_counter {rs : List (List R)} (hok : ∀ l ∈ rs, repOk l = true) {i : Nat} (hi : i < (overall rs).length) (hkind : ∀ l ∈ rs, (findRow l (overall rs)[i].key).2 = true → (findRow l (overall rs)[i].key).1.kind = 1) :
    (overall rs)[i].sum = (series rs (overall rs)[i].key).sum % 281474976710656 := by
  obtain ⟨hnd, hmem⟩ := overall_keys rs
  generalize hr : (overall rs)[i] = r at *
  have hrm : r ∈ overall rs := by rw [← hr]; exact List.getElem_mem hi
  have hk : r.key ≠ [] := by
    obtain ⟨l, hl, hkl⟩ := (hmem r.key).1 (List.mem_map_of_mem hrm)
    obtain ⟨x, hx, hxe⟩ := List.mem_map.1 hkl
    obtain ⟨j, hj, rfl⟩ := List.mem_iff_getElem.1 hx
    rw [← hxe]
    exact ok_key ((repOk_up (hok l hl)).1 j hj).1
  have hfind : (overall rs).find? (fun x => x.key == r.key) = some r := by
    rw [List.find?_eq_some_iff_getElem]
    refine ⟨by simp, i, hi, hr, fun j hj => ?_⟩
    have hji : j < (overall rs).length := by omega
    have : (overall rs)[j].key ≠ r.key := fun e => by
      have h1 := (List.pairwise_iff_getElem.1 hnd) j i (by simpa using hji) (by simpa using hi) hj
      simp only [keysOf, List.getElem_map] at h1
      exact h1 (by rw [e, hr])
    simpa using this
  rcases find_overall hk rs with ⟨h, _⟩ | ⟨h, _⟩
  · rw [hfind] at h; cases h
  · rw [hfind] at h; injection h with h
    have := tot_sum hk rs hok hkind R.zero (.inl rfl) (by decide) (by decide)
    have e := this.2.2.2
    rw [congrArg R.sum h]
    show (rs.foldl (totL r.key) R.zero).sum = _
    rw [e]
    show ((0 : Int) + _) % _ = _
    rw [Int.zero_add]

end Go.Proofs.Ytdbedlomiedncaa.Vc
