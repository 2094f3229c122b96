/- The law FnMerged answers true, for every code. -/
import Derived.Test.YtdbedlomiedncaaD3
import Derived.Test.YtdbedlomiedncaaE1
namespace Go.Proofs.Ytdbedlomiedncaa.Vc
open Go

theorem SlRR.take {H : Hp} {a : Addr} {o : Nat} {xs : List (List R)} (h : SlRR H a o xs) (k : Nat) : SlRR H a o (xs.take k) := by
  obtain ⟨q, ⟨r, g1, g2, g3, g4⟩, h2, h3⟩ := h
  have e : (List.map srow (List.take k q)).length = min k (List.map srow q).length := by simp
  refine ⟨q.take k, ⟨r, g1, g2, ?_, by omega⟩, by simp [h2], fun i hi hi' => ?_⟩
  · rw [e, List.map_take]
    conv => rhs; rw [← g3, List.take_take]
  · rw [List.getElem_take, List.getElem_take]
    rw [List.length_take] at hi hi'
    exact h3 i (by omega) (by omega)

theorem sum_split (rs : List (List R)) (n : Nat) : ((rs.take n).map List.length).sum + ((rs.drop n).map List.length).sum = (rs.map List.length).sum := by
  conv => rhs; rw [← List.take_append_drop n rs, List.map_append, List.sum_append]

set_option maxRecDepth 100000 in
theorem merged_ok (H : Hp) (ca : Addr) (co : Nat) (bs : List UInt8) (hs : Sl H ca 1 co (bs.map byteCell)) :
    AC Try.prog 6 [.slice ca 1 co bs.length] H fun v _ => v = .bool true := by
  refine AC_of_vc (T := tab) (D := D6) (esc := []) tab_ok mixed Try.func6 rfl rfl rfl ?_
  conv => whnf
  refine AC.use1 (big_ok H ca co bs.length) ?_
  conv => whnf
  refine Br.dec (fun hbig => ?_) (fun hbig => ?_) <;> conv => whnf
  have hl : bs.length ≤ 1048576 := by omega
  refine AC.mono (drawOverall_ok H ca co bs hs hl) ?_
  rintro v h1 ⟨rs, d, rfl, hrs, N, hO, hN, hD, l1⟩
  conv => whnf
  have hsx := hO.sl hN
  have hlen := hrs.len
  have hkss := hrs.kss
  have hsb : ∀ y ∈ rs, SB y := fun y hy => (hrs.sb y hy).1
  have hsum := sum_le4 hrs.sb
  refine AC.mono (implOverall_ok h1 d 0 rs hsx (by omega) (by omega) hsb) ?_
  rintro v h2 ⟨c2, hc2, rfl, hh2⟩
  conv => whnf
  have l2 : h1.le h2 := by rw [hh2]; exact Hp.le_set _ hc2
  refine AC.use0 (cutAt_ok h2 ca co bs 0 rs.length ((hs.le l1).le l2) hl (by omega) (by omega)) ?_
  rintro v ⟨x, rfl, hx⟩
  conv => whnf
  refine Drawn.intro (by kernel_rfl) ?_
  conv => whnf
  refine Cut.as 0 x rfl rfl (by omega) hx ?_
  conv => whnf
  refine Cut.as x rs.length rfl rfl hx (Nat.le_refl _) ?_
  conv => whnf
  have hsplit := sum_split rs x
  have ht := SlRR.take (hsx.le l2) x
  have hd := SlRR.drop (hsx.le l2) x hx
  have htl : (rs.take x).length = x - 0 := by rw [List.length_take]; omega
  have hdl : (rs.drop x).length = rs.length - x := List.length_drop
  have hsbt : ∀ y ∈ rs.take x, SB y := fun y hy => hsb y (List.mem_of_mem_take hy)
  have hsbd : ∀ y ∈ rs.drop x, SB y := fun y hy => hsb y (List.mem_of_mem_drop hy)
  have a1 := implOverall_ok h2 d 0 _ ht (by omega) (by omega) hsbt
  rw [htl] at a1
  refine AC.mono a1 ?_
  rintro v h3 ⟨c3, hc3, rfl, hh3⟩
  conv => whnf
  have l3 : h2.le h3 := by rw [hh3]; exact Hp.le_set _ hc3
  have a2 := implOverall_ok h3 d (0 + x) _ (hd.le l3) (by omega) (by omega) hsbd
  rw [hdl] at a2
  refine AC.mono a2 ?_
  rintro v h4 ⟨c4, hc4, rfl, hh4⟩
  conv => whnf
  have l4 : h3.le h4 := by rw [hh4]; exact Hp.le_set _ hc4
  have g4 : SlR h4 c4 0 (overall (rs.drop x)) := by rw [hh4]; exact SlR.new
  have g3 : SlR h3 c3 0 (overall (rs.take x)) := by rw [hh3]; exact SlR.new
  have g2 : SlR h2 c2 0 (overall rs) := by rw [hh2]; exact SlR.new
  have ol1 := overall_length (rs.take x)
  have ol2 := overall_length (rs.drop x)
  have ol := overall_length rs
  refine AC.mono (implMergeReport_ok h4 c3 c4 0 0 _ _ (g3.le l4) g4 (foldl_rep_sb _ [] (by simp [SB]) hsbt) (foldl_rep_sb _ [] (by simp [SB]) hsbd) (by omega)) ?_
  rintro v h5 ⟨c5, hc5, rfl, hh5⟩
  conv => whnf
  have l5 : h4.le h5 := by rw [hh5]; exact Hp.le_set _ hc5
  rw [overall_split]
  refine New.intro fun b hb => ?_
  conv => whnf
  have l6 := Hp.le_set (h := h5) ⟨1, false, [[.str [90,57]], [.str [97]], [.str [98]], [.str [99,112,117]], [.str [109,101,109]], [.str [113]]]⟩ hb
  have gb : (h5.set b ⟨1, false, [[.str [90,57]], [.str [97]], [.str [98]], [.str [99,112,117]], [.str [109,101,109]], [.str [113]]]⟩).get b = some ⟨1, false, [[.str [90,57]], [.str [97]], [.str [98]], [.str [99,112,117]], [.str [109,101,109]], [.str [113]]]⟩ := Hp.set_get _ _ _
  have l16 := Hp.le_trans l2 (Hp.le_trans l3 (Hp.le_trans l4 (Hp.le_trans l5 l6)))
  have l26 := Hp.le_trans l3 (Hp.le_trans l4 (Hp.le_trans l5 l6))
  generalize hh6 : h5.set b ⟨1, false, [[.str [90,57]], [.str [97]], [.str [98]], [.str [99,112,117]], [.str [109,101,109]], [.str [113]]]⟩ = h6 at l6 gb l16 l26
  refine LoopVC.intro (fun i : Nat => (⟨Try.f6.ntmps, [(8, .int .i64 i), (7, .slice b 1 0 6), (6, .slice c5 10 0 (overall rs).length), (4, .slice c2 10 0 (overall rs).length), (3, .slice d 1 0 rs.length), (0, .slice ca 1 co bs.length)], [], h6⟩ : St)) (fun i => i ≤ 6) (fun i => 6 - i) (fun i hi K hK => ?_) 0 (by omega) ?_
  · conv => whnf
    refine Br.dec (fun h => ?_) (fun h => ?_) <;> conv => whnf
    · have h : i < 6 := by omega
      obtain ⟨s, hs1, hs2⟩ : ∃ s, ([[.str [90,57]], [.str [97]], [.str [98]], [.str [99,112,117]], [.str [109,101,109]], [.str [113]]] : List (List AV))[0 + i]? = some [.str s] ∧ s ≠ [] := by
        rcases i with _ | _ | _ | _ | _ | _ | i
        all_goals first | exact ⟨_, rfl, by decide⟩ | omega
      have hfind := findRow_overall hs2 rs
      repeat' (first
        | (refine Br.no rfl ?_; conv => whnf)
        | (refine Br.yes rfl ?_; conv => whnf)
        | (refine Idx.nat h ?_; conv => whnf)
        | (refine Ld.intro gb rfl hs1 ?_; conv => whnf)
        | (refine AC.use1 (implFindRow_ok h6 c2 0 _ s (g2.le l26) (by omega)) ?_; conv => whnf)
        | (refine AC.use1 (implTotalIn_ok h6 d 0 rs s (hsx.le l16) hkss hsb) ?_; conv => whnf)
        | (refine AC.use1 (specTotalIn_ok h6 d 0 rs s (hsx.le l16) hkss hsb) ?_; conv => whnf)
        | (refine Drawn.intro (by kernel_rfl) ?_; conv => whnf)
        | (refine Br.dec (fun _ => ?_) (fun _ => ?_) <;> conv => whnf)
        | (refine Br.neg (fun _ => ?_) (fun _ => ?_) <;> conv => whnf)
        | (refine Br.both (fun _ => ?_) (fun _ => ?_) <;> conv => whnf))
      all_goals first
        | (simp (disch := omega) only [wrap_id]
           exact hK (i + 1) _ (by omega) (by omega) ⟨rfl, by repeat' (first | exact trivial | exact .inl rfl | apply And.intro), by repeat' (first | exact trivial | exact ⟨_, rfl, cle.refl _⟩ | apply And.intro), HSub.refl _⟩)
        | (exfalso
           rcases hfind with ⟨f1, f2⟩ | f1 <;> simp_all [R.zero]
           done)
    · refine AC.use0 (drawMergeRow_ok h6 ca co bs ((hs.le l1).le l16) hl) ?_
      rintro v ⟨y, z, rfl, hy, hz⟩
      conv => whnf
      refine AC.use1 (implMerge_ok _ y z hy hz) ?_
      conv => whnf
      repeat' (first
        | (refine Br.no rfl ?_; conv => whnf)
        | (refine Br.yes rfl ?_; conv => whnf)
        | (refine Drawn.intro (by kernel_rfl) ?_; conv => whnf)
        | (refine Br.dec (fun _ => ?_) (fun _ => ?_) <;> conv => whnf)
        | (refine Br.neg (fun _ => ?_) (fun _ => ?_) <;> conv => whnf)
        | (refine Br.both (fun _ => ?_) (fun _ => ?_) <;> conv => whnf))
      refine AC.mono (specOverall_ok h6 d 0 rs (hsx.le l16) (by omega) (by omega) hsb) ?_
      rintro v h7 ⟨c7, hc7, rfl, hh7⟩
      conv => whnf
      have l7 : h6.le h7 := by rw [hh7]; exact Hp.le_set _ hc7
      have g7 : SlR h7 c7 0 (overall rs) := by rw [hh7]; exact SlR.new
      refine AC.use1 (sameReport_ok h7 c2 c7 0 0 _ _ ((g2.le l26).le l7) g7 (by omega)) ?_
      conv => whnf
      repeat' (first
        | (refine Br.no rfl ?_; conv => whnf)
        | (refine Br.yes rfl ?_; conv => whnf)
        | (refine AC.use1 (specMerge_ok _ y z hy hz) ?_; conv => whnf)
        | (refine AC.use1 (implMerge_ok _ R.zero z R.zero_sb hz) ?_; conv => whnf)
        | (refine Drawn.intro (by kernel_rfl) ?_; conv => whnf)
        | (refine Br.dec (fun _ => ?_) (fun _ => ?_) <;> conv => whnf)
        | (refine Br.neg (fun _ => ?_) (fun _ => ?_) <;> conv => whnf)
        | (refine Br.both (fun _ => ?_) (fun _ => ?_) <;> conv => whnf))
      all_goals first
        | rfl
        | (exfalso; simp_all; done)
        | (simp_all [R.merge, R.isZero, R.zero]; done)
        | trace_state
  · rw [← hh6]
    exact ⟨rfl, by repeat' (first | exact trivial | exact .inl rfl | apply And.intro), by repeat' (first | exact trivial | exact ⟨_, rfl, cle.refl _⟩ | apply And.intro), HSub.refl _⟩

end Go.Proofs.Ytdbedlomiedncaa.Vc
