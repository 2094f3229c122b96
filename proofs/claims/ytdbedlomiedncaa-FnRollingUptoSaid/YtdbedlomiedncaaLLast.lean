/- The law FnExactLast answers true, for every store and every number. -/
import Derived.Test.YtdbedlomiedncaaC3
namespace Go.Proofs.Ytdbedlomiedncaa.Vc
open Go

theorem lastOf_length {c f : Int} {xs : List (List R)} {n : Int} : (lastOf c f xs n).length ≤ 20 := by
  unfold lastOf
  split
  · rename_i h
    obtain ⟨g1, g2⟩ := storeOk_of h.1
    have h1 := overall_length (xs.drop (xs.length - n.toNat))
    have h2 := sum_le4 (ys := xs.drop (xs.length - n.toNat)) fun y hy => g2 y (List.mem_of_mem_drop hy)
    rw [List.length_drop] at h2
    omega
  · simp

theorem heldRowS' {H : Hp} {a : Addr} {n : Nat} {k : Int} (ha : H.get a = some ⟨10, false, (mkRows k n).map R.av⟩) (hl : n ≤ 1048576) (hk : 0 ≤ k ∧ k ≤ 1073741824) :
    AC Try.prog 16 [.slice a 10 0 n, .int .i64 k] H fun v h => v = .int .i64 (k + 10 * n) ∧ h = H := by
  have := heldRowS_ok H a 0 _ (mkRows k n) k ha rfl (by rw [List.drop_zero, List.take_of_length_le (by simp)]) (by rw [mkRows_length]; exact hl) hk
  rw [mkRows_length] at this
  refine AC.mono this ?_
  rintro v h ⟨⟨q, e, hq⟩, e2⟩
  rw [e, hq rfl]; exact ⟨rfl, e2⟩

set_option maxRecDepth 100000 in
theorem exactLast_ok (H : Hp) (c f : Int) (a : Addr) (o : Nat) (xs : List (List R)) (n : Int) (hx : SlRR H a o xs) (hk : KSS xs) :
    AC Try.prog 9 [stAV c f a o xs.length, .int .i64 n] H fun v _ => v = .bool true := by
  refine AC_of_vc (T := tab) (D := D9) (esc := []) tab_ok mixed Try.func9 rfl rfl rfl ?_
  conv => whnf
  refine AC.use0 (szStore_ok H c f a o xs 1048576 hx hk (by omega)) ?_
  rintro v ⟨k, rfl, hk1, hk2⟩
  conv => whnf
  refine Br.dec (fun g1 => ?_) (fun g1 => ?_) <;> conv => whnf
  have hk2 := hk2 (by omega)
  have hsz : ∀ ys : List (List R), (ys.map List.length).sum ≤ (ys.map szR).sum := fun ys => by
    induction ys with
    | nil => simp
    | cons y ys ih => simp only [List.map_cons, List.sum_cons, szR]; omega
  have hsum := hsz xs
  -- the reference's answer
  refine AC.mono (toStore_ok H c f a o xs hx hk) ?_
  rintro v h1 ⟨b1, N1, rfl, hO1, hN1, hD1, l1⟩
  conv => whnf
  refine AC.mono (specLast_ok h1 c f b1 0 xs n (hO1.sl hN1) hk) ?_
  have hzl := lastOf_length (c := c) (f := f) (xs := xs) (n := n)
  have hmade := fun (H : Hp) a o hx => implLast_ok H c f a o xs n hx hk
  generalize lastOf c f xs n = z at hzl hmade ⊢
  rintro v h2 ⟨c2, hc2, rfl, hh2⟩
  conv => whnf
  have l2 : h1.le h2 := by rw [hh2]; exact Hp.le_set _ hc2
  have g2 : h2.get c2 = some ⟨10, false, z.map R.av⟩ := by rw [hh2, Hp.set_get]
  -- the program's
  refine AC.mono (toStore_ok h2 c f a o xs (hx.le (Hp.le_trans l1 l2)) hk) ?_
  rintro v h3 ⟨b3, N3, rfl, hO3, hN3, hD3, l3⟩
  conv => whnf
  refine AC.mono (hmade h3 b3 0 (hO3.sl hN3)) ?_
  rintro v h4 ⟨c4, hc4, rfl, hh4⟩
  conv => whnf
  have l4 : h3.le h4 := by rw [hh4]; exact Hp.le_set _ hc4
  have g4 : h4.get c4 = some ⟨10, false, z.map R.av⟩ := by rw [hh4, Hp.set_get]
  have s2 : ∀ h : Hp, h.get c2 = some ⟨10, false, z.map R.av⟩ → SlR h c2 0 z := fun h e => ⟨_, e, rfl, by rw [List.drop_zero, List.take_of_length_le (Nat.le_refl _)], by simp⟩
  have s4 : ∀ h : Hp, h.get c4 = some ⟨10, false, z.map R.av⟩ → SlR h c4 0 z := fun h e => ⟨_, e, rfl, by rw [List.drop_zero, List.take_of_length_le (Nat.le_refl _)], by simp⟩
  have g24 := l4 _ _ (l3 _ _ g2)
  refine AC.use1 (eqRowS_same (s4 h4 g4) (s2 h4 g24) (by omega)) ?_
  conv => whnf
  refine Br.no rfl ?_
  conv => whnf
  -- the arguments as they were
  have lH4 := Hp.le_trans l1 (Hp.le_trans l2 (Hp.le_trans l3 l4))
  refine Drawn.intro (by kernel_rfl) ?_
  conv => whnf
  refine AC.mono (toStore_ok h4 c f a o xs (hx.le lH4) hk) ?_
  rintro v h5 ⟨b5, N5, rfl, hO5, hN5, hD5, l5⟩
  conv => whnf
  have n3 : N3.le h5 := Hp.le_trans hN3 (Hp.le_trans l4 l5)
  refine AC.use1 (eqStore_same h5 c f b3 b5 0 0 xs (hO3.sl n3) (hO5.sl hN5) hk) ?_
  conv => whnf
  refine Br.no rfl ?_
  conv => whnf
  -- marks on the arguments
  refine AC.mono (markStore_ok h5 N3 c f b3 0 xs 1 hO3 n3 hk ⟨by omega, by omega⟩) ?_
  rintro v h6 ⟨rfl, N3', hO3', hN3', hout⟩
  conv => whnf
  have e2 : N3.get c2 = none := by
    rcases hD3 c2 with h | h
    · exact h
    · rw [h] at g2; cases g2
  have e4 : N3.get c4 = none := Hp.le_none hN3 hc4
  have g2' : h6.get c2 = some ⟨10, false, z.map R.av⟩ := by rw [(hout c2 e2).2]; exact l5 _ _ g24
  have g4' : h6.get c4 = some ⟨10, false, z.map R.av⟩ := by rw [(hout c4 e4).2]; exact l5 _ _ g4
  have lH6 : H.le h6 := fun x r e => by
    have e' := l2 _ _ (l1 _ _ e)
    have : N3.get x = none := by
      rcases hD3 x with h | h
      · exact h
      · rw [h] at e'; cases e'
    rw [(hout x this).2]; exact l5 _ _ (lH4 _ _ e)
  refine Br.dec (fun g => ?_) (fun g => ?_) <;> conv => whnf
  · exfalso; omega
  refine AC.use1 (eqRowS_same (s4 h6 g4') (s2 h6 g2') (by omega)) ?_
  conv => whnf
  repeat' (first
    | (refine Br.no rfl ?_; conv => whnf)
    | (refine Br.yes rfl ?_; conv => whnf)
    | (refine Two.intro ?_ ?_ <;> conv => whnf)
    | (refine Drawn.intro (by kernel_rfl) ?_; conv => whnf)
    | (refine Br.dec (fun _ => ?_) (fun _ => ?_) <;> conv => whnf)
    | (refine Br.neg (fun _ => ?_) (fun _ => ?_) <;> conv => whnf)
    | (refine Br.both (fun _ => ?_) (fun _ => ?_) <;> conv => whnf))
  -- marks on the answer
  refine AC.mono (markRowS' (o := 0) (x := z) g4' (by rw [List.drop_zero, List.take_of_length_le (by simp)]) (by omega) ⟨by omega, by omega⟩) ?_
  rintro v h7 ⟨rfl, hh7⟩
  conv => whnf
  have g7 : h7.get c4 = some ⟨10, false, (mkRows 1 z.length).map R.av⟩ := by
    rw [hh7, Hp.set_get, List.take_zero, List.nil_append, List.drop_of_length_le (by simp), List.append_nil]
  have hc24 : c2 ≠ c4 := fun e => by have := l3 _ _ g2; rw [e, hc4] at this; cases this
  have g27 : h7.get c2 = some ⟨10, false, z.map R.av⟩ := by rw [hh7, Hp.set_other _ _ hc24]; exact g2'
  have lH7 : H.le h7 := fun x r e => by
    have : x ≠ c4 := fun e' => by
      have := l3 _ _ (l2 _ _ (l1 _ _ e))
      rw [e', hc4] at this; cases this
    rw [hh7, Hp.set_other _ _ this]; exact lH6 _ _ e
  refine AC.use1 (heldRowS' g7 (by omega) ⟨by omega, by omega⟩) ?_
  conv => whnf
  refine Br.dec (fun g => ?_) (fun g => ?_) <;> conv => whnf
  · exfalso; omega
  refine Br.neg (fun g => ?_) (fun _ => ?_) <;> conv => whnf
  · exfalso; simp at g
  -- once more
  refine AC.mono (toStore_ok h7 c f a o xs (hx.le lH7) hk) ?_
  rintro v h8 ⟨b8, N8, rfl, hO8, hN8, hD8, l8⟩
  conv => whnf
  refine AC.mono (hmade h8 b8 0 (hO8.sl hN8)) ?_
  rintro v h9 ⟨c9, hc9, rfl, hh9⟩
  conv => whnf
  have l9 : h8.le h9 := by rw [hh9]; exact Hp.le_set _ hc9
  have g9 : h9.get c9 = some ⟨10, false, z.map R.av⟩ := by rw [hh9, Hp.set_get]
  have g29 := l9 _ _ (l8 _ _ g27)
  refine AC.use1 (eqRowS_same ⟨_, g9, rfl, by rw [List.drop_zero, List.take_of_length_le (Nat.le_refl _)], by simp⟩ (s2 h9 g29) (by omega)) ?_
  conv => whnf
  refine Br.no rfl ?_
  conv => whnf
  refine AC.use1 (heldRowS' (l9 _ _ (l8 _ _ g7)) (by omega) ⟨by omega, by omega⟩) ?_
  conv => whnf
  refine Br.dec (fun g => ?_) (fun g => ?_) <;> conv => whnf
  · exfalso; omega
  refine Br.neg (fun g => ?_) (fun _ => ?_) <;> conv => whnf
  · exfalso; simp at g

end Go.Proofs.Ytdbedlomiedncaa.Vc
