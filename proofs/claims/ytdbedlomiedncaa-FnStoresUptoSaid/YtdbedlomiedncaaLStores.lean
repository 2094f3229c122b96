/- The law FnStores answers true, for every code. -/
import Derived.Test.YtdbedlomiedncaaD6
import Derived.Test.YtdbedlomiedncaaE2
namespace Go.Proofs.Ytdbedlomiedncaa.Vc
open Go

theorem windowOf_in {c f : Int} {xs : List (List R)} {i : Int} (h : storeOk c f xs = true) (j : Nat) (hj : j < xs.length) (e : i = f + j) : windowOf c f xs i = (xs[j], true) := by
  unfold windowOf
  rw [if_pos ⟨h, by omega, by omega⟩, List.getD_eq_getElem?_getD, show (i - f).toNat = j from by omega, List.getElem?_eq_getElem hj]; rfl

theorem windowOf_out {c f : Int} {xs : List (List R)} {i : Int} (h : ¬ (f ≤ i ∧ i < f + xs.length)) : windowOf c f xs i = ([], false) := by
  unfold windowOf
  rw [if_neg fun h' => h h'.2]

/-- what a store is after a push -/
theorem pushed_ok {c f : Int} {xs : List (List R)} {l : List R} (h1 : storeOk c f xs = true) (h2 : repOk l = true) (h3 : f ≠ 1000000) :
    ∃ f' ys, pushed c f xs l = (f', ys) ∧ storeOk c f' ys = true ∧ f' + ys.length = f + xs.length + 1 ∧ (ys.length : Int) ≤ c ∧ f ≤ f' ∧ f' ≤ f + 1 ∧ 1 ≤ ys.length ∧ (∀ h : ys.length - 1 < ys.length, ys[ys.length - 1] = l) ∧
      (∀ (j : Nat) (hj : j < ys.length) (k : Nat) (hk : k < xs.length), f' + j = f + k → ys[j] = xs[k]) := by
  have hs := h1
  simp [storeOk, inB] at hs
  obtain ⟨⟨⟨⟨⟨s1, s2⟩, s3⟩, s4, s5⟩, s6⟩, s7⟩ := hs
  unfold pushed
  rw [if_pos ⟨h1, h2, h3⟩]
  split
  · rename_i hc
    have hlen : (xs ++ [l]).tail.length = xs.length := by simp
    refine ⟨_, _, rfl, ?_, by rw [hlen]; omega, by rw [hlen]; omega, by omega, by omega, by rw [hlen]; omega, fun h => ?_, fun j hj k hk e => ?_⟩
    · simp only [storeOk, inB, hlen, Bool.and_eq_true, decide_eq_true_eq, Bool.or_eq_true, beq_iff_eq, List.all_eq_true]
      refine ⟨⟨⟨⟨⟨s1, s2⟩, s3⟩, by omega, by omega⟩, by omega⟩, fun x hx => ?_⟩
      rcases List.mem_append.1 (List.mem_of_mem_tail hx) with h | h
      · exact s7 x h
      · simp at h; subst h; exact h2
    · rw [List.getElem_tail]
      have : (xs ++ [l]).tail.length - 1 + 1 = xs.length := by omega
      simp only [this]
      rw [List.getElem_append_right (Nat.le_refl _)]; simp
    · rw [List.getElem_tail, List.getElem_append_left (by omega)]
      congr 1; omega
  · rename_i hc
    have hf : f = 0 := by omega
    have hlen : (xs ++ [l]).length = xs.length + 1 := by simp
    refine ⟨_, _, rfl, ?_, by rw [hlen]; omega, by rw [hlen]; omega, by omega, by omega, by rw [hlen]; omega, fun h => ?_, fun j hj k hk e => ?_⟩
    · simp only [storeOk, inB, hlen, Bool.and_eq_true, decide_eq_true_eq, Bool.or_eq_true, beq_iff_eq, List.all_eq_true]
      refine ⟨⟨⟨⟨⟨s1, s2⟩, by omega⟩, by omega, by omega⟩, .inl hf⟩, fun x hx => ?_⟩
      rcases List.mem_append.1 hx with h | h
      · exact s7 x h
      · simp at h; subst h; exact h2
    · have : (xs ++ [l]).length - 1 = xs.length := by omega
      simp only [this]
      rw [List.getElem_append_right (Nat.le_refl _)]; simp
    · have : j = k := by omega
      subst this
      rw [List.getElem_append_left hk]

set_option maxRecDepth 100000 in
theorem stores_ok (H : Hp) (ca : Addr) (co : Nat) (bs : List UInt8) (hs : Sl H ca 1 co (bs.map byteCell)) :
    AC Try.prog 7 [.slice ca 1 co bs.length] H fun v _ => v = .bool true := by
  refine AC_of_vc (T := tab) (D := D7) (esc := []) tab_ok mixed Try.func7 rfl rfl rfl ?_
  conv => whnf
  refine AC.use1 (big_ok H ca co bs.length) ?_
  conv => whnf
  refine Br.dec (fun hbig => ?_) (fun hbig => ?_) <;> conv => whnf
  have hl : bs.length ≤ 1048576 := by omega
  refine AC.mono (drawPush_ok H ca co bs hs hl) ?_
  rintro v h1 ⟨c, f, d, o, xs, e, z, rfl, hxs, hz, hsx, hsz, l1⟩
  conv => whnf
  have hkz : KS z := fun r hr => by have := (hz.2 r hr).1; omega
  have hzl := hz.1
  have hxl := hxs.len
  refine AC.mono (implPush_ok h1 c f d e o 0 xs z hsx hxs.kss hsz hkz (by omega)) ?_
  obtain ⟨p1, p2⟩ := pushed_RepsB (c := c) (f := f) hxs.reps hz
  have hpk := pushed_KSS (c := c) (f := f) hxs.kss hkz (by omega)
  have hpo := fun a b d => pushed_ok (c := c) (f := f) (xs := xs) (l := z) a b d
  have hpn : ¬ (storeOk c f xs = true ∧ repOk z = true ∧ f ≠ 1000000) → pushed c f xs z = (f, xs) := fun h => by unfold pushed; rw [if_neg h]
  generalize hf' : (pushed c f xs z).1 = f' at *
  generalize hys : (pushed c f xs z).2 = ys at *
  have hpe : pushed c f xs z = (f', ys) := by rw [← hf', ← hys]
  rintro v h2 ⟨a2, o2, N2, rfl, hO2, hN2, hD2, l2⟩
  conv => whnf
  have hs5 := hO2.sl hN2
  refine AC.use1 (specStoreOk_ok h2 c f d o xs (hsx.le l2) hxs.kss) ?_
  conv => whnf
  repeat' (first
    | (refine Br.no rfl ?_; conv => whnf)
    | (refine Br.yes rfl ?_; conv => whnf)
    | (refine AC.use1 (specReportOk_ok h2 e 0 z (hsz.le l2) hkz (by omega)) ?_; conv => whnf)
    | (refine Drawn.intro (by kernel_rfl) ?_; conv => whnf)
    | (refine Br.dec (fun _ => ?_) (fun _ => ?_) <;> conv => whnf)
    | (refine Br.neg (fun _ => ?_) (fun _ => ?_) <;> conv => whnf)
    | (refine Br.both (fun _ => ?_) (fun _ => ?_) <;> conv => whnf))
  iterate 3
    · have hn := hpn (by simp_all)
      rw [hpe] at hn
      injection hn with hn1 hn2
      subst hn1 hn2
      repeat' (first
        | (refine Br.no rfl ?_; conv => whnf)
        | (refine Br.yes rfl ?_; conv => whnf)
        | (refine AC.use1 (implStoreOk_ok h2 c f' a2 o2 ys hs5 hpk) ?_; conv => whnf)
        | (refine AC.use1 (specStoreOk_ok h2 c f' d o ys (hsx.le l2) hxs.kss) ?_; conv => whnf)
        | (refine Drawn.intro (by kernel_rfl) ?_; conv => whnf)
        | (refine Br.dec (fun _ => ?_) (fun _ => ?_) <;> conv => whnf)
        | (refine Br.neg (fun _ => ?_) (fun _ => ?_) <;> conv => whnf)
        | (refine Br.both (fun _ => ?_) (fun _ => ?_) <;> conv => whnf))
      all_goals first | rfl | (exfalso; simp_all; done) | (simp_all; done)
  have g1 : storeOk c f xs = true := by assumption
  have g2 : repOk z = true := by assumption
  have g3 : f ≠ 1000000 := by assumption
  obtain ⟨fa, ya, e1, q1, q2, q3, q4, q5, q6, q7, q8⟩ := hpo g1 g2 g3
  rw [hpe] at e1
  injection e1 with e1 e2
  subst e1 e2
  have hcf : 1 ≤ c ∧ c ≤ 5 ∧ 0 ≤ f ∧ f ≤ 1000000 ∧ (xs.length : Int) ≤ c := by
    have := g1; simp [storeOk, inB] at this; omega
  simp (disch := omega) only [wrap_id]
  have hw1 : windowOf c f' ys (f + xs.length) = (z, true) := by rw [windowOf_in q1 (ys.length - 1) (by omega) (by omega), q7]
  have hw2 : windowOf c f' ys (f' - 1) = ([], false) := windowOf_out (by omega)
  have hw3 : windowOf c f' ys (f + xs.length + 1) = ([], false) := windowOf_out (by omega)
  refine AC.mono (implWindow_ok h2 c f' a2 o2 ys _ hs5 hpk) ?_
  rw [hw1]
  rintro v h3 ⟨c3, hc3, rfl, hh3⟩
  conv => whnf
  have l3 : h2.le h3 := by rw [hh3]; exact Hp.le_set _ hc3
  simp (disch := omega) only [wrap_id]
  refine AC.mono (implWindow_ok h3 c f' a2 o2 ys _ (hs5.le l3) hpk) ?_
  rw [hw2]
  rintro v h4 ⟨c4, hc4, rfl, hh4⟩
  conv => whnf
  have l4 : h3.le h4 := by rw [hh4]; exact Hp.le_set _ hc4
  simp (disch := omega) only [wrap_id]
  refine AC.mono (implWindow_ok h4 c f' a2 o2 ys _ (hs5.le (Hp.le_trans l3 l4)) hpk) ?_
  rw [hw3]
  rintro v h5 ⟨c5, hc5, rfl, hh5⟩
  conv => whnf
  have l5 : h4.le h5 := by rw [hh5]; exact Hp.le_set _ hc5
  have l25 := Hp.le_trans l3 (Hp.le_trans l4 l5)
  have sz3 : SlR h3 c3 0 z := by rw [hh3]; exact SlR.new
  refine Br.no rfl ?_
  conv => whnf
  have sr := sameReport_ok h5 c3 e 0 0 z z (sz3.le (Hp.le_trans l4 l5)) ((hsz.le l2).le l25) (by omega)
  rw [decide_eq_true rfl] at sr
  repeat' (first
    | (refine Br.no rfl ?_; conv => whnf)
    | (refine Br.yes rfl ?_; conv => whnf)
    | (refine AC.use1 sr ?_; conv => whnf)
    | (refine AC.use1 (implStoreOk_ok h5 c f' a2 o2 ys (hs5.le l25) hpk) ?_; conv => whnf)
    | (refine Drawn.intro (by kernel_rfl) ?_; conv => whnf)
    | (refine Br.dec (fun _ => ?_) (fun _ => ?_) <;> conv => whnf)
    | (refine Br.neg (fun _ => ?_) (fun _ => ?_) <;> conv => whnf)
    | (refine Br.both (fun _ => ?_) (fun _ => ?_) <;> conv => whnf))
  all_goals try (exfalso; omega)
  all_goals try (exfalso; simp_all; done)
  refine LoopVC.intro (fun i : Nat => (⟨Try.f7.ntmps, [(13, .int .i64 (f' + i)), (6, .int .i64 (f + xs.length)), (4, .slice e 10 0 z.length), (3, .lptr 3 0), (5, .lptr 5 0)], [(3, [.int .i64 c, .int .i64 f, .slice d 1 o xs.length]), (5, [.int .i64 c, .int .i64 f', .slice a2 1 o2 ys.length])], h5⟩ : St)) (fun i => f' + i ≤ f + xs.length) (fun i => xs.length + 1 - i) (fun i hi K hK => ?_) 0 (by omega) ?_
  · conv => whnf
    refine Br.dec (fun h => ?_) (fun h => ?_) <;> conv => whnf
    · obtain ⟨k, hk⟩ : ∃ k : Nat, f' + (i : Int) = f + k := ⟨(f' + i - f).toNat, by omega⟩
      have hkl : k < xs.length := by omega
      have hil : i < ys.length := by omega
      have hwa : windowOf c f' ys (f' + i) = (ys[i], true) := windowOf_in q1 i hil rfl
      have hwb : windowOf c f xs (f' + i) = (xs[k], true) := windowOf_in g1 k hkl hk
      have heq := q8 i hil k hkl hk
      refine AC.mono (implWindow_ok h5 c f' a2 o2 ys _ (hs5.le l25) hpk) ?_
      rw [hwa]
      rintro v h6 ⟨c6, hc6, rfl, hh6⟩
      conv => whnf
      have l6 : h5.le h6 := by rw [hh6]; exact Hp.le_set _ hc6
      refine AC.mono (specWindow_ok h6 c f d o xs _ (((hsx.le l2).le l25).le l6) hxs.kss) ?_
      rw [hwb]
      rintro v h7 ⟨c7, hc7, rfl, hh7⟩
      conv => whnf
      have l7 : h6.le h7 := by rw [hh7]; exact Hp.le_set _ hc7
      have s6 : SlR h6 c6 0 ys[i] := by rw [hh6]; exact SlR.new
      have s7 : SlR h7 c7 0 xs[k] := by rw [hh7]; exact SlR.new
      have hyl := (hpk.at hil).2
      have sr := sameReport_ok h7 c6 c7 0 0 ys[i] xs[k] (s6.le l7) s7 hyl
      rw [decide_eq_true heq] at sr
      repeat' (first
        | (refine Br.no rfl ?_; conv => whnf)
        | (refine Br.yes rfl ?_; conv => whnf)
        | (refine AC.use1 sr ?_; conv => whnf)
        | (refine Drawn.intro (by kernel_rfl) ?_; conv => whnf)
        | (refine Br.dec (fun _ => ?_) (fun _ => ?_) <;> conv => whnf)
        | (refine Br.neg (fun _ => ?_) (fun _ => ?_) <;> conv => whnf)
        | (refine Br.both (fun _ => ?_) (fun _ => ?_) <;> conv => whnf))
      simp (disch := omega) only [wrap_id]
      refine hK (i + 1) _ (by omega) (by omega) ⟨rfl, ?_, by repeat' (first | exact trivial | exact ⟨_, rfl, cle.refl _⟩ | apply And.intro), HSub.of_le (Hp.le_trans l6 l7)⟩
      refine ⟨.inl ?_, .inl rfl, .inl rfl, .inl rfl, .inl rfl, trivial⟩
      show AV.int .i64 _ = AV.int .i64 _
      congr 1; omega
    · have hlast : ∀ n, lastOf c f' ys n = if 0 ≤ n ∧ n ≤ ys.length then overall (ys.drop (ys.length - n.toNat)) else [] := fun n => by
        unfold lastOf
        by_cases hn : 0 ≤ n ∧ n ≤ ys.length
        · rw [if_pos ⟨q1, hn⟩, if_pos hn]
        · rw [if_neg (fun h => hn h.2), if_neg hn]
      have hl1 : lastOf c f' ys 1 = z := by
        rw [hlast, if_pos ⟨by omega, by omega⟩]
        have : ys.drop (ys.length - (1 : Int).toNat) = [z] := by
          rw [show ys.length - (1 : Int).toNat = ys.length - 1 from rfl, List.drop_eq_getElem_cons (by omega), q7, show ys.length - 1 + 1 = ys.length from by omega, List.drop_length]
        rw [this]
        exact mergeRep_rises (rises_of (repOk_up g2).1)
      have hl2 : lastOf c f' ys ys.length = overall ys := by
        rw [hlast, if_pos ⟨by omega, by omega⟩]; simp
      have hst := storeOk_of q1
      have hsum := sum_le4 hst.2
      have hol := overall_length ys
      refine Drawn.intro (by kernel_rfl) ?_
      conv => whnf
      refine AC.mono (implLast_ok h5 c f' a2 o2 ys 1 (hs5.le l25) hpk) ?_
      rw [hl1]
      rintro v h6 ⟨c6, hc6, rfl, hh6⟩
      conv => whnf
      have l6 : h5.le h6 := by rw [hh6]; exact Hp.le_set _ hc6
      have s6 : SlR h6 c6 0 z := by rw [hh6]; exact SlR.new
      have sr := sameReport_ok h6 c6 e 0 0 z z s6 (((hsz.le l2).le l25).le l6) (by omega)
      rw [decide_eq_true rfl] at sr
      refine AC.use1 sr ?_
      conv => whnf
      refine Br.yes rfl ?_
      conv => whnf
      refine AC.mono (implLast_ok h6 c f' a2 o2 ys ys.length ((hs5.le l25).le l6) hpk) ?_
      rw [hl2]
      rintro v h7 ⟨c7, hc7, rfl, hh7⟩
      conv => whnf
      have l7 : h6.le h7 := by rw [hh7]; exact Hp.le_set _ hc7
      have s7 : SlR h7 c7 0 (overall ys) := by rw [hh7]; exact SlR.new
      refine AC.mono (specOverall_ok h7 a2 o2 ys (((hs5.le l25).le l6).le l7) (by omega) (by omega) fun y hy => (hst.2 y hy).1) ?_
      rintro v h8 ⟨c8, hc8, rfl, hh8⟩
      conv => whnf
      have l8 : h7.le h8 := by rw [hh8]; exact Hp.le_set _ hc8
      have s8 : SlR h8 c8 0 (overall ys) := by rw [hh8]; exact SlR.new
      have sr2 := sameReport_ok h8 c7 c8 0 0 _ _ (s7.le l8) s8 (by omega)
      rw [decide_eq_true rfl] at sr2
      refine AC.use1 sr2 ?_
      conv => whnf
      refine Br.yes rfl ?_
      conv => whnf
      repeat' (first
        | (refine Br.no rfl ?_; conv => whnf)
        | (refine Br.yes rfl ?_; conv => whnf)
        | (refine AC.use1 (implStoreNew_ok h8 3 (by omega) (by omega)) ?_; conv => whnf)
        | (refine Drawn.intro (by kernel_rfl) ?_; conv => whnf)
        | (refine Br.dec (fun _ => ?_) (fun _ => ?_) <;> conv => whnf)
        | (refine Br.neg (fun _ => ?_) (fun _ => ?_) <;> conv => whnf)
        | (refine Br.both (fun _ => ?_) (fun _ => ?_) <;> conv => whnf))
      rfl
  · refine ⟨rfl, ?_, by repeat' (first | exact trivial | exact ⟨_, rfl, cle.refl _⟩ | apply And.intro), HSub.refl _⟩
    refine ⟨.inl ?_, .inl rfl, .inl rfl, .inl rfl, .inl rfl, trivial⟩
    show AV.int .i64 _ = AV.int .i64 _
    congr 1; omega

end Go.Proofs.Ytdbedlomiedncaa.Vc
