/- All reports merged; the last ones of a store. -/
import Derived.Test.YtdbedlomiedncaaC2
namespace Go.Proofs.Ytdbedlomiedncaa.Vc
open Go

theorem ok_sb {r : R} (h : r.ok = true) : r.sb := by
  simp only [R.ok, Bool.and_eq_true] at h
  obtain ⟨_, h⟩ := h
  unfold R.sb
  split at h
  · simp [inB] at h; omega
  · split at h
    · simp at h; omega
    · split at h
      · simp at h; omega
      · cases h

theorem repOk_of {x : List R} (h : repOk x = true) : SB x ∧ x.length ≤ 4 := by
  simp only [repOk, decide_eq_true_eq] at h
  obtain ⟨h1, h2⟩ := h
  refine ⟨fun r hr => ?_, by omega⟩
  obtain ⟨i, hi, rfl⟩ := List.mem_iff_getElem.1 hr
  exact ok_sb (h1 i hi).1

theorem overall_take {rs : List (List R)} {i : Nat} (h : i < rs.length) : overall (rs.take (i + 1)) = mergeRep (overall (rs.take i)) rs[i] := by
  unfold overall
  rw [List.take_succ_eq_append_getElem h, List.foldl_append]; rfl

theorem foldl_rep_length (rs : List (List R)) : ∀ x, (rs.foldl mergeRep x).length ≤ x.length + (rs.map List.length).sum := by
  induction rs with
  | nil => intro x; simp
  | cons y rs ih =>
    intro x
    have := ih (mergeRep x y)
    have := mergeRep_length x y
    simp; omega

theorem foldl_rep_sb (rs : List (List R)) : ∀ x, SB x → (∀ y ∈ rs, SB y) → SB (rs.foldl mergeRep x) := by
  induction rs with
  | nil => intro x hx _; exact hx
  | cons y rs ih => intro x hx h; exact ih _ (mergeRep_sb hx (h y (by simp))) fun z hz => h z (by simp [hz])

theorem overall_length (rs : List (List R)) : (overall rs).length ≤ (rs.map List.length).sum := by
  have := foldl_rep_length rs []
  simpa [overall] using this

theorem sum_take {rs : List (List R)} {i : Nat} (h : i < rs.length) : ((rs.take i).map List.length).sum + rs[i].length ≤ (rs.map List.length).sum := by
  have : ((rs.take (i + 1)).map List.length).sum ≤ (rs.map List.length).sum := by
    conv => rhs; rw [← List.take_append_drop (i + 1) rs, List.map_append, List.sum_append]
    omega
  rw [List.take_succ_eq_append_getElem h, List.map_append, List.sum_append] at this
  simpa using this

set_option maxRecDepth 100000 in
theorem implOverall_ok (H : Hp) (a : Addr) (o : Nat) (rs : List (List R)) (hx : SlRR H a o rs) (hl : rs.length ≤ 1048576) (hs : (rs.map List.length).sum ≤ 1048576) (hsb : ∀ y ∈ rs, SB y) :
    AC Try.prog 32 [.slice a 1 o rs.length] H (MadeR H (overall rs)) := by
  refine AC.post ?_
  refine AC_of_vc (T := tab) (D := D32) (esc := []) tab_ok mixed Try.func32 rfl rfl rfl ?_
  conv => whnf
  refine New.intro fun c0 hc0 => ?_
  conv => whnf
  refine LoopVC.intro (fun z : Nat × Addr => (⟨Try.f32.ntmps, [(9, .int .i64 z.1), (8, .int .i64 rs.length), (7, .slice a 1 o rs.length), (3, .slice z.2 10 0 (overall (rs.take z.1)).length)], [], H.set z.2 ⟨10, false, (overall (rs.take z.1)).map R.av⟩⟩ : St))
    (fun z => z.1 ≤ rs.length ∧ H.get z.2 = none) (fun z => rs.length - z.1) (fun z hi K hK => ?_) (0, c0) ⟨by omega, hc0⟩ ⟨rfl, by repeat' (first | exact trivial | exact .inl rfl | apply And.intro), by repeat' (first | exact trivial | exact ⟨_, rfl, cle.refl _⟩ | apply And.intro), HSub.refl _⟩
  obtain ⟨i, c⟩ := z
  obtain ⟨hi1, hc⟩ := hi
  simp only at hi1 hc ⊢
  conv => whnf
  refine Br.dec (fun h => ?_) (fun h => ?_) <;> conv => whnf
  · have h : i < rs.length := by omega
    have hl1 := overall_length (rs.take i)
    have hl2 := sum_take h
    have hsb1 : SB (overall (rs.take i)) := foldl_rep_sb _ [] (by simp [SB]) fun y hy => hsb y (List.mem_of_mem_take hy)
    refine Idx.nat h ?_
    conv => whnf
    refine (hx.set hc).ld h fun b p hb => ?_
    conv => whnf
    refine AC.mono (implMergeReport_ok _ c b 0 p _ rs[i] SlR.new hb hsb1 (hsb _ (List.getElem_mem h)) (by omega)) ?_
    rintro v h' ⟨c', hc', rfl, rfl⟩
    conv => whnf
    simp (disch := omega) only [wrap_id]
    have hs := fun s' => hK (i + 1, c') s' ⟨‹i < rs.length›, (Hp.none_set hc').1⟩ (by simp only; omega)
    simp only [overall_take h] at hs
    refine hs _ ⟨rfl, by repeat' (first | exact trivial | exact .inl rfl | apply And.intro), by repeat' (first | exact trivial | exact ⟨_, rfl, cle.refl _⟩ | apply And.intro), HSub.of_le (le_dirty (Hp.set_get _ _ _) fun b hb hb' => ?_)⟩
    have : b ≠ c := fun e => hb' (by rw [e]; exact hc)
    rw [Hp.set_other _ _ hb, Hp.set_other _ _ this]
  · have e : i = rs.length := by omega
    subst e
    rw [List.take_length]
    exact .done ⟨c, hc, rfl, rfl⟩

set_option maxRecDepth 100000 in
theorem specOverall_ok (H : Hp) (a : Addr) (o : Nat) (rs : List (List R)) (hx : SlRR H a o rs) (hl : rs.length ≤ 1048576) (hs : (rs.map List.length).sum ≤ 1048576) (hsb : ∀ y ∈ rs, SB y) :
    AC Try.prog 40 [.slice a 1 o rs.length] H (MadeR H (overall rs)) := by
  refine AC.post ?_
  refine AC_of_vc (T := tab) (D := D40) (esc := []) tab_ok mixed Try.func40 rfl rfl rfl ?_
  conv => whnf
  refine New.intro fun c0 hc0 => ?_
  conv => whnf
  refine LoopVC.intro (fun z : Nat × Addr => (⟨Try.f40.ntmps, [(4, .int .i64 z.1), (0, .slice a 1 o rs.length), (3, .slice z.2 10 0 (overall (rs.take z.1)).length)], [], H.set z.2 ⟨10, false, (overall (rs.take z.1)).map R.av⟩⟩ : St))
    (fun z => z.1 ≤ rs.length ∧ H.get z.2 = none) (fun z => rs.length - z.1) (fun z hi K hK => ?_) (0, c0) ⟨by omega, hc0⟩ ⟨rfl, by repeat' (first | exact trivial | exact .inl rfl | apply And.intro), by repeat' (first | exact trivial | exact ⟨_, rfl, cle.refl _⟩ | apply And.intro), HSub.refl _⟩
  obtain ⟨i, c⟩ := z
  obtain ⟨hi1, hc⟩ := hi
  simp only at hi1 hc ⊢
  conv => whnf
  refine Br.dec (fun h => ?_) (fun h => ?_) <;> conv => whnf
  · have h : i < rs.length := by omega
    have hl1 := overall_length (rs.take i)
    have hl2 := sum_take h
    have hsb1 : SB (overall (rs.take i)) := foldl_rep_sb _ [] (by simp [SB]) fun y hy => hsb y (List.mem_of_mem_take hy)
    refine Idx.nat h ?_
    conv => whnf
    refine (hx.set hc).ld h fun b p hb => ?_
    conv => whnf
    refine AC.mono (specMergeReport_ok _ c b 0 p _ rs[i] SlR.new hb hsb1 (hsb _ (List.getElem_mem h)) (by omega)) ?_
    rintro v h' ⟨c', hc', rfl, rfl⟩
    conv => whnf
    simp (disch := omega) only [wrap_id]
    have hs := fun s' => hK (i + 1, c') s' ⟨‹i < rs.length›, (Hp.none_set hc').1⟩ (by simp only; omega)
    simp only [overall_take h] at hs
    refine hs _ ⟨rfl, by repeat' (first | exact trivial | exact .inl rfl | apply And.intro), by repeat' (first | exact trivial | exact ⟨_, rfl, cle.refl _⟩ | apply And.intro), HSub.of_le (le_dirty (Hp.set_get _ _ _) fun b hb hb' => ?_)⟩
    have : b ≠ c := fun e => hb' (by rw [e]; exact hc)
    rw [Hp.set_other _ _ hb, Hp.set_other _ _ this]
  · have e : i = rs.length := by omega
    subst e
    rw [List.take_length]
    exact .done ⟨c, hc, rfl, rfl⟩

/-- the last n reports merged -/
noncomputable def lastOf (c f : Int) (xs : List (List R)) (n : Int) : List R := if storeOk c f xs = true ∧ 0 ≤ n ∧ n ≤ xs.length then overall (xs.drop (xs.length - n.toNat)) else []

theorem storeOk_of {c f : Int} {xs : List (List R)} (h : storeOk c f xs = true) : xs.length ≤ 5 ∧ ∀ y ∈ xs, SB y ∧ y.length ≤ 4 := by
  simp [storeOk, inB] at h
  refine ⟨by omega, fun y hy => repOk_of (h.2 y hy)⟩

theorem SlRR.drop {H : Hp} {a : Addr} {o : Nat} {xs : List (List R)} (h : SlRR H a o xs) (k : Nat) (hk : k ≤ xs.length) : SlRR H a (o + k) (xs.drop k) := by
  obtain ⟨q, ⟨r, g1, g2, g3, g4⟩, h2, h3⟩ := h
  refine ⟨q.drop k, ⟨r, g1, g2, ?_, ?_⟩, by simp [h2], fun i hi hi' => ?_⟩
  · have e : (List.map srow (List.drop k q)).length = (List.map srow q).length - k := by simp
    rw [e, List.map_drop]
    conv => rhs; rw [← g3, List.drop_take, List.drop_drop]
  · simp at g4 ⊢; omega
  · rw [List.getElem_drop, List.getElem_drop]; exact h3 _ _ _

theorem sum_le4 {ys : List (List R)} (h : ∀ y ∈ ys, SB y ∧ y.length ≤ 4) : (ys.map List.length).sum ≤ 4 * ys.length := by
  induction ys with
  | nil => simp
  | cons y ys ih =>
    have h1 := (h y (by simp)).2
    have h2 := ih fun z hz => h z (by simp [hz])
    simp; omega

set_option maxRecDepth 100000 in
theorem implLast_ok (H : Hp) (c f : Int) (a : Addr) (o : Nat) (xs : List (List R)) (n : Int) (hx : SlRR H a o xs) (hk : KSS xs) :
    AC Try.prog 48 [stAV c f a o xs.length, .int .i64 n] H (MadeR H (lastOf c f xs n)) := by
  refine AC_of_vc (T := tab) (D := D48) (esc := []) tab_ok mixed Try.func48 rfl rfl rfl ?_
  conv => whnf
  refine AC.use1 (implStoreOk_ok H c f a o xs hx hk) ?_
  conv => whnf
  repeat' (first
    | (refine Br.no rfl ?_; conv => whnf)
    | (refine Br.yes rfl ?_; conv => whnf)
    | (refine AC.use1 (within_ok _ _ _ _) ?_; conv => whnf)
    | (refine Two.intro ?_ ?_ <;> conv => whnf)
    | (refine Drawn.intro (by kernel_rfl) ?_; conv => whnf)
    | (refine Br.dec (fun _ => ?_) (fun _ => ?_) <;> conv => whnf)
    | (refine Br.neg (fun _ => ?_) (fun _ => ?_) <;> conv => whnf)
    | (refine Br.both (fun _ => ?_) (fun _ => ?_) <;> conv => whnf))
  · refine New.intro fun d hd => ?_
    conv => whnf
    have e : lastOf c f xs n = [] := by simp [lastOf, *]
    rw [e]; exact ⟨d, hd, rfl, rfl⟩
  · have h2 : ¬ (0 ≤ n ∧ n ≤ (xs.length : Int)) := by have := ‹(_ && _) = false›; simp at this; omega
    refine New.intro fun d hd => ?_
    conv => whnf
    have e : lastOf c f xs n = [] := by unfold lastOf; rw [if_neg fun h => h2 h.2]
    rw [e]; exact ⟨d, hd, rfl, rfl⟩
  · have h2 : 0 ≤ n ∧ n ≤ (xs.length : Int) := by have := ‹(_ && _) = true›; simp only [Bool.and_eq_true, decide_eq_true_eq] at this; exact this
    have hk1 := hk.1
    obtain ⟨g1, g2⟩ := storeOk_of ‹storeOk c f xs = true›
    refine Cut.as (xs.length - n.toNat) xs.length (by simp (disch := omega) only [wrap_id] <;> omega) rfl (by omega) (Nat.le_refl _) ?_
    conv => whnf
    have hd := hx.drop (xs.length - n.toNat) (by omega)
    have hdl : (xs.drop (xs.length - n.toNat)).length = xs.length - (xs.length - n.toNat) := List.length_drop
    have hsub : ∀ y ∈ xs.drop (xs.length - n.toNat), SB y ∧ y.length ≤ 4 := fun y hy => g2 y (List.mem_of_mem_drop hy)
    have hlast : lastOf c f xs n = overall (xs.drop (xs.length - n.toNat)) := by unfold lastOf; rw [if_pos ⟨‹storeOk c f xs = true›, h2.1, h2.2⟩]
    have hsum := sum_le4 hsub
    rw [hlast]
    have := implOverall_ok H a (o + (xs.length - n.toNat)) _ hd (by omega) (by omega) fun y hy => (hsub y hy).1
    rw [hdl] at this
    refine AC.mono this ?_
    rintro v h ⟨e, he, rfl, rfl⟩
    conv => whnf
    exact ⟨e, he, rfl, rfl⟩

set_option maxRecDepth 100000 in
theorem specLast_ok (H : Hp) (c f : Int) (a : Addr) (o : Nat) (xs : List (List R)) (n : Int) (hx : SlRR H a o xs) (hk : KSS xs) :
    AC Try.prog 54 [stAV c f a o xs.length, .int .i64 n] H (MadeR H (lastOf c f xs n)) := by
  refine AC_of_vc (T := tab) (D := D54) (esc := []) tab_ok mixed Try.func54 rfl rfl rfl ?_
  conv => whnf
  refine AC.use1 (specStoreOk_ok H c f a o xs hx hk) ?_
  conv => whnf
  repeat' (first
    | (refine Br.no rfl ?_; conv => whnf)
    | (refine Br.yes rfl ?_; conv => whnf)
    | (refine AC.use1 (l1In_ok _ _ _ _) ?_; conv => whnf)
    | (refine Two.intro ?_ ?_ <;> conv => whnf)
    | (refine Drawn.intro (by kernel_rfl) ?_; conv => whnf)
    | (refine Br.dec (fun _ => ?_) (fun _ => ?_) <;> conv => whnf)
    | (refine Br.neg (fun _ => ?_) (fun _ => ?_) <;> conv => whnf)
    | (refine Br.both (fun _ => ?_) (fun _ => ?_) <;> conv => whnf))
  · refine New.intro fun d hd => ?_
    conv => whnf
    have e : lastOf c f xs n = [] := by simp [lastOf, *]
    rw [e]; exact ⟨d, hd, rfl, rfl⟩
  · have h2 : ¬ (0 ≤ n ∧ n ≤ (xs.length : Int)) := by have := ‹(_ && _) = false›; simp at this; omega
    refine New.intro fun d hd => ?_
    conv => whnf
    have e : lastOf c f xs n = [] := by unfold lastOf; rw [if_neg fun h => h2 h.2]
    rw [e]; exact ⟨d, hd, rfl, rfl⟩
  · have h2 : 0 ≤ n ∧ n ≤ (xs.length : Int) := by have := ‹(_ && _) = true›; simp only [Bool.and_eq_true, decide_eq_true_eq] at this; exact this
    have hk1 := hk.1
    obtain ⟨g1, g2⟩ := storeOk_of ‹storeOk c f xs = true›
    refine Cut.as (xs.length - n.toNat) xs.length (by simp (disch := omega) only [wrap_id] <;> omega) rfl (by omega) (Nat.le_refl _) ?_
    conv => whnf
    have hd := hx.drop (xs.length - n.toNat) (by omega)
    have hdl : (xs.drop (xs.length - n.toNat)).length = xs.length - (xs.length - n.toNat) := List.length_drop
    have hsub : ∀ y ∈ xs.drop (xs.length - n.toNat), SB y ∧ y.length ≤ 4 := fun y hy => g2 y (List.mem_of_mem_drop hy)
    have hlast : lastOf c f xs n = overall (xs.drop (xs.length - n.toNat)) := by unfold lastOf; rw [if_pos ⟨‹storeOk c f xs = true›, h2.1, h2.2⟩]
    have hsum := sum_le4 hsub
    rw [hlast]
    have := specOverall_ok H a (o + (xs.length - n.toNat)) _ hd (by omega) (by omega) fun y hy => (hsub y hy).1
    rw [hdl] at this
    refine AC.mono this ?_
    rintro v h ⟨e, he, rfl, rfl⟩
    conv => whnf
    exact ⟨e, he, rfl, rfl⟩

end Go.Proofs.Ytdbedlomiedncaa.Vc
