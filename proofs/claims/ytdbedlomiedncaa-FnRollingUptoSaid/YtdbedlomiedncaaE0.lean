/- A key's total; how many rows a merged report has. -/
import Derived.Test.YtdbedlomiedncaaC3
namespace Go.Proofs.Ytdbedlomiedncaa.Vc
open Go

def totL (k : List UInt8) (acc : R) (l : List R) : R := l.foldl (fun acc r => if (r.key == k) = true then acc.merge r else acc) acc
def tot (rs : List (List R)) (k : List UInt8) : R := rs.foldl (totL k) R.zero

theorem totL_take {k acc} {l : List R} {i : Nat} (h : i < l.length) : totL k acc (l.take (i + 1)) = if (l[i].key == k) = true then (totL k acc (l.take i)).merge l[i] else totL k acc (l.take i) := by
  unfold totL
  rw [List.take_succ_eq_append_getElem h, List.foldl_append]; rfl

theorem tot_take {rs : List (List R)} {k : List UInt8} {i : Nat} (h : i < rs.length) : tot (rs.take (i + 1)) k = totL k (tot (rs.take i) k) rs[i] := by
  unfold tot
  rw [List.take_succ_eq_append_getElem h, List.foldl_append]; rfl

theorem R.zero_sb : R.zero.sb := by unfold R.sb R.zero; decide

theorem totL_sb {k : List UInt8} {acc : R} {l : List R} (ha : acc.sb) (hl : SB l) : (totL k acc l).sb := by
  induction l generalizing acc with
  | nil => exact ha
  | cons r l ih =>
    unfold totL
    rw [List.foldl_cons]
    refine ih ?_ fun z hz => hl z (by simp [hz])
    split
    · exact merge_sb ha (hl r (by simp))
    · exact ha

theorem tot_sb {rs : List (List R)} {k : List UInt8} (h : ∀ l ∈ rs, SB l) : (tot rs k).sb := by
  unfold tot
  have key : ∀ (rs : List (List R)) (acc : R), acc.sb → (∀ l ∈ rs, SB l) → (rs.foldl (totL k) acc).sb := by
    intro rs
    induction rs with
    | nil => intro acc ha _; exact ha
    | cons l rs ih => intro acc ha h; exact ih _ (totL_sb ha (h l (by simp))) fun z hz => h z (by simp [hz])
  exact key rs _ R.zero_sb h

/-! ### the row of a key in a merged report -/

theorem findRow_def (x : List R) (k : List UInt8) : findRow x k = match x.find? (fun r => r.key == k) with | some r => (r, true) | none => (R.zero, false) := rfl

theorem find_mid {x y : List R} {r : R} {k : List UInt8} : (x ++ r :: y).find? (fun r => r.key == k) = (x.find? (fun r => r.key == k)).or (if (r.key == k) = true then some r else y.find? (fun r => r.key == k)) := by
  rw [List.find?_append, List.find?_cons]
  congr 1
  cases r.key == k <;> rfl

theorem set_mid {L : List R} {j : Nat} (h : j < L.length) (x : R) : L.set j x = L.take j ++ x :: L.drop (j + 1) := List.set_eq_take_append_cons_drop.trans (if_pos h)

theorem mid {L : List R} {j : Nat} (h : j < L.length) : L = L.take j ++ L[j] :: L.drop (j + 1) := by
  conv => lhs; rw [← List.take_append_drop j L, List.drop_eq_getElem_cons h]

/-- where the row is merged -/
theorem mergeOne_cases (L : List R) (r : R) : (∃ (j : Nat) (h : j < L.length), L[j].key = r.key ∧ (L.take j).find? (fun x => x.key == r.key) = none ∧ mergeOne L r = L.take j ++ L[j].merge r :: L.drop (j + 1)) ∨ (L.find? (fun x => x.key == r.key) = none ∧ mergeOne L r = ins L r) := by
  unfold mergeOne
  split
  · rename_i h
    left
    refine ⟨_, h, ?_, ?_, set_mid h _⟩
    · have := List.findIdx_getElem (w := h); simpa using this
    · rw [List.find?_eq_none]
      intro x hx
      obtain ⟨i, hi, rfl⟩ := List.mem_iff_getElem.1 hx
      rw [List.length_take] at hi
      rw [List.getElem_take]
      have := List.not_of_lt_findIdx (p := fun x : R => x.key == r.key) (xs := L) (i := i) (by omega)
      simpa using this
  · rename_i h
    right
    refine ⟨?_, rfl⟩
    rw [List.find?_eq_none]
    intro x hx hp
    exact h (List.findIdx_lt_length_of_exists ⟨x, hx, hp⟩)

theorem key_at {k : List UInt8} (hk : k ≠ []) (L : List R) (acc : R) (r : R)
    (h : (L.find? (fun x => x.key == k) = none ∧ acc = R.zero) ∨ (L.find? (fun x => x.key == k) = some acc ∧ acc.key = k)) :
    ((mergeOne L r).find? (fun x => x.key == k) = none ∧ (if (r.key == k) = true then acc.merge r else acc) = R.zero) ∨ ((mergeOne L r).find? (fun x => x.key == k) = some (if (r.key == k) = true then acc.merge r else acc) ∧ (if (r.key == k) = true then acc.merge r else acc).key = k) := by
  by_cases e : (r.key == k) = true
  · have e' : r.key = k := by simpa using e
    simp only [e, if_true]
    rcases mergeOne_cases L r with ⟨j, hj, hkey, hnone, hm⟩ | ⟨hnone, hm⟩
    · rw [e'] at hnone hkey
      have hL : L.find? (fun x => x.key == k) = some L[j] := by
        conv => lhs; rw [mid hj, find_mid, hnone]
        simp [hkey]
      rcases h with ⟨h, _⟩ | ⟨h, h2⟩
      · rw [hL] at h; cases h
      · rw [hL] at h; injection h with h
        right
        rw [hm, find_mid, hnone, h]
        have : (acc.merge r).key = k := by rw [merge_key (by rw [h2, e'])]; exact h2
        simp [this]
    · rw [e'] at hnone
      rcases h with ⟨h, h2⟩ | ⟨h, _⟩
      · right
        have hz : acc.merge r = r := by subst h2; unfold R.merge; rw [if_pos ((R.zero_iff _).2 rfl)]
        rw [hz, hm]
        refine ⟨?_, e'⟩
        unfold ins
        rw [find_mid]
        have : (L.take (insAt L r.key)).find? (fun x => x.key == k) = none := by
          rw [List.find?_eq_none] at hnone ⊢
          intro x hx; exact hnone x (List.mem_of_mem_take hx)
        rw [this]; simp [e']
      · rw [hnone] at h; cases h
  · have e' : r.key ≠ k := by simpa using e
    simp only [e, if_false, Bool.false_eq_true]
    have same : (mergeOne L r).find? (fun x => x.key == k) = L.find? (fun x => x.key == k) := by
      rcases mergeOne_cases L r with ⟨j, hj, hkey, hnone, hm⟩ | ⟨hnone, hm⟩
      · rw [hm, find_mid]
        conv => rhs; rw [mid hj, find_mid]
        have : (L[j].merge r).key ≠ k := by rw [merge_key hkey, hkey]; exact e'
        simp [this, hkey, e']
      · rw [hm]; unfold ins
        rw [find_mid]
        conv => rhs; rw [← List.take_append_drop (insAt L r.key) L, List.find?_append]
        simp [e']
    rw [same]; exact h

/-- the row of a key in all reports merged is the key's total -/
theorem find_overall {k : List UInt8} (hk : k ≠ []) (rs : List (List R)) : ((overall rs).find? (fun x => x.key == k) = none ∧ tot rs k = R.zero) ∨ ((overall rs).find? (fun x => x.key == k) = some (tot rs k) ∧ (tot rs k).key = k) := by
  have one : ∀ (l : List R) (L : List R) (acc : R), ((L.find? (fun x => x.key == k) = none ∧ acc = R.zero) ∨ (L.find? (fun x => x.key == k) = some acc ∧ acc.key = k)) →
      (((mergeRep L l).find? (fun x => x.key == k) = none ∧ totL k acc l = R.zero) ∨ ((mergeRep L l).find? (fun x => x.key == k) = some (totL k acc l) ∧ (totL k acc l).key = k)) := by
    intro l
    induction l with
    | nil => intro L acc h; exact h
    | cons r l ih => intro L acc h; exact ih _ _ (key_at hk L acc r h)
  have all : ∀ (rs : List (List R)) (L : List R) (acc : R), ((L.find? (fun x => x.key == k) = none ∧ acc = R.zero) ∨ (L.find? (fun x => x.key == k) = some acc ∧ acc.key = k)) →
      (((rs.foldl mergeRep L).find? (fun x => x.key == k) = none ∧ rs.foldl (totL k) acc = R.zero) ∨ ((rs.foldl mergeRep L).find? (fun x => x.key == k) = some (rs.foldl (totL k) acc) ∧ (rs.foldl (totL k) acc).key = k)) := by
    intro rs
    induction rs with
    | nil => intro L acc h; exact h
    | cons l rs ih => intro L acc h; exact ih _ _ (one l L acc h)
  exact all rs [] R.zero (.inl ⟨rfl, rfl⟩)

theorem findRow_overall {k : List UInt8} (hk : k ≠ []) (rs : List (List R)) : (findRow (overall rs) k = (R.zero, false) ∧ tot rs k = R.zero) ∨ findRow (overall rs) k = (tot rs k, true) := by
  rcases find_overall hk rs with ⟨h, h2⟩ | ⟨h, h2⟩
  · left; exact ⟨by rw [findRow_def, h], h2⟩
  · right; rw [findRow_def, h]

/-! ### how many rows -/

abbrev keysOf (L : List R) : List (List UInt8) := L.map R.key

theorem mergeOne_keys (L : List R) (r : R) : (keysOf (mergeOne L r) = keysOf L ∧ r.key ∈ keysOf L) ∨ (r.key ∉ keysOf L ∧ (keysOf (mergeOne L r)).Perm (r.key :: keysOf L)) := by
  rcases mergeOne_cases L r with ⟨j, hj, hkey, _, hm⟩ | ⟨hnone, hm⟩
  · left
    constructor
    · rw [hm]
      have e : keysOf L = keysOf (L.take j) ++ L[j].key :: keysOf (L.drop (j + 1)) := by
        conv => lhs; rw [mid hj]
        rw [keysOf, List.map_append, List.map_cons]
      rw [e, keysOf, List.map_append, List.map_cons, merge_key hkey]
    · rw [← hkey]; exact List.mem_map_of_mem (List.getElem_mem hj)
  · right
    rw [List.find?_eq_none] at hnone
    refine ⟨fun h => ?_, ?_⟩
    · obtain ⟨x, hx, e⟩ := List.mem_map.1 h
      exact hnone x hx (by simpa using e)
    · rw [hm]; unfold ins keysOf
      rw [List.map_append, List.map_cons]
      refine List.perm_middle.trans ?_
      rw [← List.map_append, List.take_append_drop]

theorem mergeRep_keys (l : List R) : ∀ L : List R, (keysOf L).Nodup → (keysOf (mergeRep L l)).Nodup ∧ ∀ k, k ∈ keysOf (mergeRep L l) ↔ k ∈ keysOf L ∨ k ∈ keysOf l := by
  induction l with
  | nil => intro L h; exact ⟨h, fun k => by simp [mergeRep]⟩
  | cons r l ih =>
    intro L h
    have step : (keysOf (mergeOne L r)).Nodup ∧ ∀ k, k ∈ keysOf (mergeOne L r) ↔ k ∈ keysOf L ∨ k = r.key := by
      rcases mergeOne_keys L r with ⟨e, hm⟩ | ⟨hn, hp⟩
      · rw [e]; refine ⟨h, fun k => ⟨.inl, fun hk => ?_⟩⟩
        rcases hk with hk | hk
        · exact hk
        · rw [hk]; exact hm
      · refine ⟨hp.nodup_iff.2 (List.nodup_cons.2 ⟨hn, h⟩), fun k => ?_⟩
        rw [hp.mem_iff, List.mem_cons]; exact or_comm
    obtain ⟨h1, h2⟩ := ih _ step.1
    refine ⟨h1, fun k => ?_⟩
    show k ∈ keysOf (mergeRep (mergeOne L r) l) ↔ _
    rw [h2, step.2]
    simp only [keysOf, List.map_cons, List.mem_cons, or_assoc]

theorem overall_keys (rs : List (List R)) : (keysOf (overall rs)).Nodup ∧ ∀ k, k ∈ keysOf (overall rs) ↔ ∃ l ∈ rs, k ∈ keysOf l := by
  have key : ∀ (rs : List (List R)) (L : List R), (keysOf L).Nodup → (keysOf (rs.foldl mergeRep L)).Nodup ∧ ∀ k, k ∈ keysOf (rs.foldl mergeRep L) ↔ k ∈ keysOf L ∨ ∃ l ∈ rs, k ∈ keysOf l := by
    intro rs
    induction rs with
    | nil => intro L h; exact ⟨h, fun k => by simp⟩
    | cons l rs ih =>
      intro L h
      obtain ⟨h1, h2⟩ := mergeRep_keys l L h
      obtain ⟨h3, h4⟩ := ih _ h1
      refine ⟨h3, fun k => ?_⟩
      rw [List.foldl_cons, h4, h2]
      simp only [List.mem_cons, exists_eq_or_imp, or_assoc]
  obtain ⟨h1, h2⟩ := key rs [] (by simp)
  exact ⟨h1, fun k => by rw [overall, h2]; simp⟩

/-- merging may be split anywhere: as many rows -/
theorem overall_split (rs : List (List R)) (n : Nat) : (mergeRep (overall (rs.take n)) (overall (rs.drop n))).length = (overall rs).length := by
  obtain ⟨h1, h2⟩ := overall_keys rs
  obtain ⟨a1, a2⟩ := overall_keys (rs.take n)
  obtain ⟨_, b2⟩ := overall_keys (rs.drop n)
  obtain ⟨c1, c2⟩ := mergeRep_keys (overall (rs.drop n)) _ a1
  have p : (keysOf (mergeRep (overall (rs.take n)) (overall (rs.drop n)))).Perm (keysOf (overall rs)) := by
    rw [List.perm_ext_iff_of_nodup c1 h1]
    intro k
    rw [c2, a2, b2, h2]
    conv => rhs; rw [← List.take_append_drop n rs]
    simp only [List.mem_append]
    constructor
    · rintro (⟨l, h, h'⟩ | ⟨l, h, h'⟩)
      · exact ⟨l, .inl h, h'⟩
      · exact ⟨l, .inr h, h'⟩
    · rintro ⟨l, h | h, h'⟩
      · exact .inl ⟨l, h, h'⟩
      · exact .inr ⟨l, h, h'⟩
  have := p.length_eq
  simpa [keysOf] using this

end Go.Proofs.Ytdbedlomiedncaa.Vc
