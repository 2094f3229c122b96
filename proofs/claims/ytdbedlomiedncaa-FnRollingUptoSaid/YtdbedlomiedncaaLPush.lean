/- The law FnExactPush answers true, for every store and every report. -/
import Derived.Test.YtdbedlomiedncaaB8
namespace Go.Proofs.Ytdbedlomiedncaa.Vc
open Go

theorem SlR.new {H : Hp} {e : Addr} {x : List R} : SlR (H.set e ⟨10, false, x.map R.av⟩) e 0 x :=
  ⟨_, Hp.set_get _ _ _, rfl, by rw [List.drop_zero, List.take_of_length_le (Nat.le_refl _)], by simp⟩

theorem keepOut {N M H h : Hp} (hM : M.le H) (hd : ∀ a r, M.get a = some r → N.get a = none) (hout : ∀ b, N.get b = none → h.get b = H.get b) : M.le h := fun a r e => by
  rw [hout a (hd a r e)]; exact hM a r e

theorem eqStore_same (H : Hp) (c f : Int) (a b : Addr) (o p : Nat) (xs : List (List R)) (hx : SlRR H a o xs) (hy : SlRR H b p xs) (hk : KSS xs) :
    AC Try.prog 21 [stAV c f a o xs.length, stAV c f b p xs.length] H fun v h => v = .bool true ∧ h = H :=
  AC.mono (eqStore_ok H c f c f a b o p xs xs hx hy hk) fun v h ⟨h1, h2⟩ => ⟨by rw [h1]; simp, h2⟩

theorem eqRowS_same {H : Hp} {a b : Addr} {o p : Nat} {x : List R} (hx : SlR H a o x) (hy : SlR H b p x) (hl : x.length ≤ 4611686018427387904) :
    AC Try.prog 14 [.slice a 10 o x.length, .slice b 10 p x.length] H fun v h => v = .bool true ∧ h = H :=
  AC.mono (eqRowS' hx hy hl) fun v h ⟨h1, h2⟩ => ⟨by rw [h1]; simp, h2⟩

theorem pushed_KSS {c f : Int} {xs : List (List R)} {l : List R} (hk : KSS xs) (hkl : KS l) (hll : l.length ≤ 1048576) : KSS (pushed c f xs l).2 := by
  unfold pushed
  split
  · rename_i hok
    have hcf : (xs.length : Int) ≤ 5 := by
      have := hok.1; simp [storeOk, inB] at this; omega
    have hall : ∀ x ∈ xs ++ [l], KS x ∧ x.length ≤ 1048576 := fun x hx => by
      rcases List.mem_append.1 hx with h | h
      · exact hk.2 x h
      · simp at h; subst h; exact ⟨hkl, hll⟩
    split
    · exact ⟨by simp; omega, fun x hx => hall x (List.mem_of_mem_tail hx)⟩
    · exact ⟨by simp; omega, hall⟩
  · exact hk

/-- how many marks a store may take -/
theorem pushed_sum {c f : Int} {xs : List (List R)} {l : List R} : ((pushed c f xs l).2.map List.length).sum ≤ (xs.map List.length).sum + l.length := by
  unfold pushed
  split
  · have key : ∀ ys : List (List R), (ys.tail.map List.length).sum ≤ (ys.map List.length).sum := fun ys => by
      cases ys <;> simp
    split
    · refine Nat.le_trans (key _) ?_
      simp
    · simp
  · exact Nat.le_add_right _ _

set_option maxRecDepth 100000 in
theorem exactPush_ok (H : Hp) (c f : Int) (a b : Addr) (o p : Nat) (xs : List (List R)) (l : List R) (hx : SlRR H a o xs) (hk : KSS xs) (hy : SlR H b p l) (hkl : KS l) (hll : l.length ≤ 1048576) :
    AC Try.prog 4 [stAV c f a o xs.length, .slice b 10 p l.length] H fun v _ => v = .bool true := by
  refine AC_of_vc (T := tab) (D := D4) (esc := []) tab_ok mixed Try.func4 rfl rfl rfl ?_
  conv => whnf
  refine AC.use0 (szStore_ok H c f a o xs 1048576 hx hk (by omega)) ?_
  rintro v ⟨k, rfl, hk1, hk2⟩
  conv => whnf
  refine Br.dec (fun g1 => ?_) (fun g1 => ?_) <;> conv => whnf
  have hk2 := hk2 (by omega)
  obtain ⟨rb, q1, q2, q3, _⟩ := id hy
  refine AC.use0 (szRowS_ok H b p rb l k q1 q2 (by simpa using q3) hll hkl ⟨by omega, hk1⟩) ?_
  rintro v ⟨k', rfl, hk3⟩
  conv => whnf
  refine Br.dec (fun g2 => ?_) (fun g2 => ?_) <;> conv => whnf
  have hk3 := hk3 (by omega)
  have hsz : ∀ ys : List (List R), (ys.map List.length).sum ≤ (ys.map szR).sum := fun ys => by
    induction ys with
    | nil => simp
    | cons y ys ih => simp only [List.map_cons, List.sum_cons, szR]; omega
  have hsum := hsz xs
  have hps := pushed_sum (c := c) (f := f) (xs := xs) (l := l)
  have hpk := pushed_KSS (c := c) (f := f) hk hkl hll
  -- the reference's answer
  refine AC.mono (toStore_ok H c f a o xs hx hk) ?_
  rintro v h1 ⟨b1, N1, rfl, hO1, hN1, hD1, l1⟩
  conv => whnf
  refine AC.mono (toRowS' (hy.le l1) hll) ?_
  rintro v h2 ⟨e2, he2, rfl, rfl⟩
  conv => whnf
  have l2 := Hp.le_set ⟨10, false, l.map R.av⟩ he2
  refine AC.mono (specPush_ok _ c f b1 e2 0 0 xs l (hO1.sl (Hp.le_trans hN1 l2)) hk SlR.new hkl hll) ?_
  generalize hps1 : (pushed c f xs l).1 = f' at hps ⊢
  generalize hps2 : (pushed c f xs l).2 = ys at hps hpk ⊢
  rintro v h3 ⟨a3, o3, N3, rfl, hO3, hN3, hD3, l3⟩
  conv => whnf
  -- the program's arguments and its answer
  have lH3 := Hp.le_trans (Hp.le_trans l1 l2) l3
  refine AC.mono (toStore_ok h3 c f a o xs (hx.le lH3) hk) ?_
  rintro v h4 ⟨b4, N4, rfl, hO4, hN4, hD4, l4⟩
  conv => whnf
  refine AC.mono (toRowS' (hy.le (Hp.le_trans lH3 l4)) hll) ?_
  rintro v h5 ⟨e5, he5, rfl, rfl⟩
  conv => whnf
  have l5 := Hp.le_set ⟨10, false, l.map R.av⟩ he5
  refine AC.mono (implPush_ok _ c f b4 e5 0 0 xs l (hO4.sl (Hp.le_trans hN4 l5)) hk SlR.new hkl hll) ?_
  rw [hps1, hps2]
  rintro v h6 ⟨a6, o6, N6, rfl, hO6, hN6, hD6, l6⟩
  conv => whnf
  have n3 : N3.le h6 := Hp.le_trans hN3 (Hp.le_trans l4 (Hp.le_trans l5 l6))
  refine AC.use1 (eqStore_same h6 c f' a6 a3 o6 o3 ys (hO6.sl hN6) (hO3.sl n3) hpk) ?_
  conv => whnf
  refine Br.no rfl ?_
  conv => whnf
  -- the arguments as they were
  have lH6 := Hp.le_trans lH3 (Hp.le_trans l4 (Hp.le_trans l5 l6))
  have n4 : N4.le h6 := Hp.le_trans hN4 (Hp.le_trans l5 l6)
  refine Drawn.intro (by kernel_rfl) ?_
  conv => whnf
  refine AC.mono (toStore_ok h6 c f a o xs (hx.le lH6) hk) ?_
  rintro v h7 ⟨b7, N7, rfl, hO7, hN7, hD7, l7⟩
  conv => whnf
  refine AC.use1 (eqStore_same h7 c f b4 b7 0 0 xs (hO4.sl (Hp.le_trans n4 l7)) (hO7.sl hN7) hk) ?_
  conv => whnf
  refine Br.no rfl ?_
  conv => whnf
  refine AC.mono (toRowS' (hy.le (Hp.le_trans lH6 l7)) hll) ?_
  rintro v h8 ⟨e8, he8, rfl, rfl⟩
  conv => whnf
  have l8 := Hp.le_set ⟨10, false, l.map R.av⟩ he8
  have s5 : SlR (h7.set e8 ⟨10, false, l.map R.av⟩) e5 0 l := SlR.new.le (Hp.le_trans l6 (Hp.le_trans l7 l8))
  refine AC.use1 (eqRowS_same s5 SlR.new (by omega)) ?_
  conv => whnf
  refine Br.no rfl ?_
  conv => whnf
  -- marks on the arguments
  generalize hh9 : h7.set e8 ⟨10, false, l.map R.av⟩ = h9 at l8 s5 ⊢
  have l9 := Hp.le_trans l7 l8
  refine AC.mono (markStore_ok h9 N4 c f b4 0 xs 1 hO4 (Hp.le_trans n4 l9) hk ⟨by omega, by omega⟩) ?_
  rintro v h10 ⟨rfl, N4', hO4', hN4', hout4⟩
  conv => whnf
  have e5N4 : N4.get e5 = none := Hp.le_none hN4 he5
  have g5 : h10.get e5 = some ⟨10, false, l.map R.av⟩ := by
    rw [(hout4 e5 e5N4).2]
    exact (Hp.le_trans l6 l9) _ _ (Hp.set_get _ _ _)
  refine AC.mono (markRowS' (o := 0) (x := l) g5 (by rw [List.drop_zero, List.take_of_length_le (by simp)]) hll ⟨by omega, by omega⟩) ?_
  rintro v h11 ⟨rfl, hh11⟩
  conv => whnf
  have out11 : ∀ M : Hp, M.le h9 → (∀ x r, M.get x = some r → N4.get x = none ∧ x ≠ e5) → M.le h11 := fun M hM hd x r e => by
    obtain ⟨d1, d2⟩ := hd x r e
    rw [hh11, Hp.set_other _ _ d2, (hout4 x d1).2]; exact hM x r e
  have lH11 : H.le h11 := out11 H (Hp.le_trans lH6 l9) fun x r e => by
    have e' := lH3 _ _ e
    refine ⟨?_, fun e1 => ?_⟩
    · rcases hD4 x with h | h
      · exact h
      · rw [h] at e'; cases e'
    · subst e1; rw [Hp.le_none l4 he5] at e'; cases e'
  have n3' : N3.le h11 := out11 N3 (Hp.le_trans n3 l9) fun x r e => by
    have e' := hN3 _ _ e
    refine ⟨?_, fun e1 => ?_⟩
    · rcases hD4 x with h | h
      · exact h
      · rw [h] at e'; cases e'
    · subst e1; rw [Hp.le_none l4 he5] at e'; cases e'
  have n6' : N6.le h11 := out11 N6 (Hp.le_trans hN6 l9) fun x r e => by
    have e' := hD6.none e
    refine ⟨Hp.le_none (Hp.le_trans hN4 l5) e', fun e1 => ?_⟩
    subst e1; rw [Hp.set_get] at e'; cases e'
  refine Br.dec (fun g => ?_) (fun g => ?_) <;> conv => whnf
  · exfalso; omega
  refine AC.use1 (eqStore_same h11 c f' a6 a3 o6 o3 ys (hO6.sl n6') (hO3.sl n3') hpk) ?_
  conv => whnf
  repeat' (first
    | (refine Br.no rfl ?_; conv => whnf)
    | (refine Br.yes rfl ?_; conv => whnf)
    | (refine Two.intro ?_ ?_ <;> conv => whnf)
    | (refine Drawn.intro (by kernel_rfl) ?_; conv => whnf)
    | (refine Br.dec (fun _ => ?_) (fun _ => ?_) <;> conv => whnf)
    | (refine Br.neg (fun _ => ?_) (fun _ => ?_) <;> conv => whnf)
    | (refine Br.both (fun _ => ?_) (fun _ => ?_) <;> conv => whnf))
  -- marks on the answer
  refine AC.mono (markStore_ok h11 N6 c f' a6 o6 ys 1 hO6 n6' hpk ⟨by omega, by omega⟩) ?_
  rintro v h12 ⟨rfl, N6', hO6', hN6', hout6⟩
  conv => whnf
  have held := fun (h : Hp) (l : N6'.le h) => heldStore_ok h c f' a6 o6 (ys.map List.length) 1 (hO6'.sl l) (fun n hn => by
    obtain ⟨y, hy, rfl⟩ := List.mem_map.1 hn; exact (hpk.2 y hy).2) (by rw [List.length_map]; exact hpk.1) ⟨by omega, by omega⟩
  rw [List.length_map] at held
  have out12 : ∀ M : Hp, M.le h11 → M.le (h4.set e5 ⟨10, false, l.map R.av⟩) → M.le h12 := fun M hM hd x r e => by
    have : N6.get x = none := by
      rcases hD6 x with h | h
      · exact h
      · rw [hd _ _ e] at h; cases h
    rw [(hout6 x this).2]; exact hM x r e
  have lH12 := out12 H lH11 (Hp.le_trans lH3 (Hp.le_trans l4 l5))
  have n3'' := out12 N3 n3' (Hp.le_trans hN3 (Hp.le_trans l4 l5))
  refine AC.use1 (held h12 hN6') ?_
  conv => whnf
  refine Br.dec (fun g => ?_) (fun g => ?_) <;> conv => whnf
  · exfalso; omega
  refine Br.neg (fun g => ?_) (fun _ => ?_) <;> conv => whnf
  · exfalso; simp at g
  -- once more
  refine AC.mono (toStore_ok h12 c f a o xs (hx.le lH12) hk) ?_
  rintro v h13 ⟨b13, N13, rfl, hO13, hN13, hD13, l13⟩
  conv => whnf
  refine AC.mono (toRowS' (hy.le (Hp.le_trans lH12 l13)) hll) ?_
  rintro v h14 ⟨e14, he14, rfl, rfl⟩
  conv => whnf
  have l14 := Hp.le_set ⟨10, false, l.map R.av⟩ he14
  refine AC.mono (implPush_ok _ c f b13 e14 0 0 xs l (hO13.sl (Hp.le_trans hN13 l14)) hk SlR.new hkl hll) ?_
  rw [hps1, hps2]
  rintro v h15 ⟨a15, o15, N15, rfl, hO15, hN15, hD15, l15⟩
  conv => whnf
  have l1215 := Hp.le_trans l13 (Hp.le_trans l14 l15)
  refine AC.use1 (eqStore_same h15 c f' a15 a3 o15 o3 ys (hO15.sl hN15) (hO3.sl (Hp.le_trans n3'' l1215)) hpk) ?_
  conv => whnf
  refine Br.no rfl ?_
  conv => whnf
  refine AC.use1 (held h15 (Hp.le_trans hN6' l1215)) ?_
  conv => whnf
  refine Br.dec (fun g => ?_) (fun g => ?_) <;> conv => whnf
  · exfalso; omega
  refine Br.neg (fun g => ?_) (fun _ => ?_) <;> conv => whnf
  · exfalso; simp at g

end Go.Proofs.Ytdbedlomiedncaa.Vc
