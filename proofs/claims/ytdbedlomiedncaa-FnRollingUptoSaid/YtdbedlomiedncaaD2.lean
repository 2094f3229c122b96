/- Rows and reports drawn. -/
import Derived.Test.YtdbedlomiedncaaD1
namespace Go.Proofs.Ytdbedlomiedncaa.Vc
open Go

set_option maxRecDepth 100000 in
theorem l7Any_ok (H : Hp) (a : Addr) (q : Addr × Nat × List UInt8) (p : Int × Int) (hc : CurAt H a q p) :
    AC Try.prog 84 [.ptr a 3 0 0] H fun v h => (∃ r, v = .agg (R.av r) ∧ RB r) ∧ CurTo H a q h := by
  refine AC.post ?_
  refine AC_of_vc (T := tab) (D := D84) (esc := []) tab_ok mixed Try.func84 rfl rfl rfl ?_
  conv => whnf
  refine AC.mono (l7Row_ok H a q p hc) ?_
  rintro v h ⟨⟨r, rfl, hr⟩, p1, rfl, hc1⟩
  conv => whnf
  refine AC.mono (l1Below_ok _ a q p1 16 hc1 (by decide) (by decide)) ?_
  rintro v h ⟨⟨k, rfl, hk⟩, p2, hh2, hc2⟩
  conv => whnf
  have t2 := CurTo.trans ⟨p1, rfl, hc1⟩ ⟨p2, hh2, hc2⟩
  obtain ⟨g1, g2⟩ := hr
  refine Br.both (fun h1 => ?_) (fun h1 => ?_) <;> conv => whnf
  · refine AC.mono (l4Any_ok _ a q p2 hc2) ?_
    rintro v h ⟨⟨s, rfl, hs⟩, hto⟩
    conv => whnf
    exact .done ⟨RB.mk' hs g2, t2.trans hto⟩
  refine Br.both (fun h1 => ?_) (fun h1 => ?_) <;> conv => whnf
  · refine AC.mono (l5Kind_ok _ a q p2 hc2) ?_
    rintro v h ⟨⟨s, rfl⟩, hto⟩
    conv => whnf
    exact .done ⟨RB.mk' g1 g2, t2.trans hto⟩
  refine Br.both (fun h1 => ?_) (fun h1 => ?_) <;> conv => whnf
  · exact .done ⟨RB.mk' g1 g2, t2⟩
  refine Br.both (fun h1 => ?_) (fun h1 => ?_) <;> conv => whnf
  · refine New.intro fun b hb => ?_
    conv => whnf
    refine AC.mono (l1PickInt_ok _ a b 0 q p2 [-1, 281474976710656, 1] (hc2.new hb) Sl.made (by simp) (by simp)) ?_
    rintro v h' ⟨⟨s, hs, rfl⟩, hto⟩
    conv => whnf
    obtain ⟨h'', hsub, hto'⟩ := hto.drop hb hc2
    exact .sub h'' hsub (.done ⟨RB.mk' g1 (by simp at hs; omega), t2.trans hto'⟩)
  refine Br.both (fun h1 => ?_) (fun h1 => ?_) <;> conv => whnf
  · refine New.intro fun b hb => ?_
    conv => whnf
    refine AC.mono (l1PickInt_ok _ a b 0 q p2 [-1, 65536, 1] (hc2.new hb) Sl.made (by simp) (by simp)) ?_
    rintro v h' ⟨⟨s, hs, rfl⟩, hto⟩
    conv => whnf
    obtain ⟨h'', hsub, hto'⟩ := hto.drop hb hc2
    exact .sub h'' hsub (.done ⟨RB.mk' g1 g2, t2.trans hto'⟩)
  refine Br.both (fun h1 => ?_) (fun h1 => ?_) <;> conv => whnf
  · exact .done ⟨RB.mk' g1 g2, t2⟩
  refine Br.both (fun h1 => ?_) (fun h1 => ?_) <;> conv => whnf
  · refine New.intro fun b hb => ?_
    conv => whnf
    refine AC.mono (l1PickInt_ok _ a b 0 q p2 [-1, 1, 65535, 65536] (hc2.new hb) Sl.made (by simp) (by simp)) ?_
    rintro v h' ⟨⟨s, hs, rfl⟩, hto⟩
    conv => whnf
    obtain ⟨h'', hsub, hto'⟩ := hto.drop hb hc2
    exact .sub h'' hsub (.done ⟨RB.mk' g1 g2, t2.trans hto'⟩)
  exact .done ⟨RB.mk' g1 g2, t2⟩

/-- a report drawn: at most four rows -/
def RepB (z : List R) : Prop := z.length ≤ 4 ∧ ∀ r ∈ z, RB r

/-- the cursor goes on, and one new report -/
def CurRep (H : Hp) (a : Addr) (q : Addr × Nat × List UInt8) (z : List R) (v : AV) (h : Hp) : Prop := ∃ c p', H.get c = none ∧ v = .slice c 10 0 z.length ∧ h = (H.set a (curRow q p')).set c ⟨10, false, z.map R.av⟩ ∧ CurAt h a q p'

theorem base_set {H : Hp} {a b c : Addr} {x y k r : Row} (h1 : b ≠ a) (h2 : c ≠ a) : (((H.set a x).set b k).set c r).set a y = ((H.set a y).set b k).set c r := by
  rw [Hp.set_comm _ _ _ h2, Hp.set_comm _ _ _ h1, Hp.set_set]

theorem base_none {H : Hp} {a b c : Addr} {x y k : Row} (h : ((H.set a x).set b k).get c = none) : ((H.set a y).set b k).get c = none := by
  obtain ⟨h1, h2⟩ := Hp.none_set h
  obtain ⟨h3, h4⟩ := Hp.none_set h1
  rw [Hp.set_other _ _ h2, Hp.set_other _ _ h4]; exact h3

set_option maxRecDepth 100000 in
theorem l7Report_ok (H : Hp) (a : Addr) (q : Addr × Nat × List UInt8) (p : Int × Int) (hc : CurAt H a q p) :
    AC Try.prog 74 [.ptr a 3 0 0] H fun v h => ∃ z, RepB z ∧ CurRep H a q z v h := by
  refine AC.post ?_
  refine AC_of_vc (T := tab) (D := D74) (esc := []) tab_ok mixed Try.func74 rfl rfl rfl ?_
  conv => whnf
  refine New.intro fun c0 hc0 => ?_
  conv => whnf
  refine New.intro fun b hb => ?_
  conv => whnf
  have hbc : b ≠ c0 := fun e => by subst e; rw [Hp.set_get] at hb; cases hb
  have hb' : H.get b = none := (Hp.none_set hb).1
  obtain ⟨kb, hkb⟩ : ∃ kb : Row, kb = ⟨1, false, [[.str [90,57]], [.str [97]], [.str [98]], [.str [99,112,117]], [.str [109,101,109]], [.str [113]]]⟩ := ⟨_, rfl⟩
  have hba : b ≠ a := (Hp.ne_of hc.row hb').symm
  have cur : ∀ p1, CurAt (H.set a (curRow q p1)) a q p1 → ∀ c r, ((H.set a (curRow q p1)).set b kb).get c = none → CurAt (((H.set a (curRow q p1)).set b kb).set c r) a q p1 := fun p1 h c r hn =>
    (h.new ((Hp.set_other _ _ hba).trans hb')).new hn
  refine LoopVC.intro (fun z : Nat × (Int × Int) × Addr × List R => (⟨Try.f74.ntmps, [(5, .int .i64 z.1), (4, .slice b 1 0 6), (3, .slice z.2.2.1 10 0 z.2.2.2.length), (0, .ptr a 3 0 0)], [], ((H.set a (curRow q z.2.1)).set b kb).set z.2.2.1 ⟨10, false, z.2.2.2.map R.av⟩⟩ : St))
    (fun z => z.1 ≤ 6 ∧ CurAt (H.set a (curRow q z.2.1)) a q z.2.1 ∧ ((H.set a (curRow q z.2.1)).set b kb).get z.2.2.1 = none ∧ RepB z.2.2.2) (fun z => 6 - z.1) (fun z hi K hK => ?_) (0, p, c0, []) ?_ ?_
  · obtain ⟨i, p1, c, L⟩ := z
    obtain ⟨hi1, hc1, hcn, hL⟩ := hi
    simp only at hi1 hc1 hcn hL ⊢
    conv => whnf
    refine Br.dec (fun h => ?_) (fun h => ?_) <;> conv => whnf
    · have h : i < 6 := by omega
      refine AC.mono (l7Row_ok _ a q p1 (cur p1 hc1 c _ hcn)) ?_
      rintro v h ⟨⟨r, rfl, hr⟩, p2, hh2, hc2'⟩
      have hca := (Hp.none_set (Hp.none_set hcn).1).2
      rw [base_set hba hca] at hh2
      have hc2 : CurAt (H.set a (curRow q p2)) a q p2 := hc.step hc2'.pos0 hc2'.pos
      have hcn2 := base_none (y := curRow q p2) hcn
      subst hh2
      conv => whnf
      refine Idx.nat h ?_
      conv => whnf
      obtain ⟨s, hs, hs5⟩ : ∃ s, kb.es[0 + i]? = some [.str s] ∧ s.length ≤ 5 := by
        subst hkb
        rcases i with _ | _ | _ | _ | _ | _ | i
        all_goals first | exact ⟨_, rfl, by decide⟩ | omega
      refine Ld.intro (Hp.keep_new hcn2 (Hp.set_get _ _ _)) (by rw [hkb]) hs ?_
      conv => whnf
      refine AC.use1 (specQuiet_ok _ { r with key := s }) ?_
      conv => whnf
      have hrb : RB { r with key := s } := ⟨hs5, hr.2⟩
      have skip : ∀ (p3 : Int × Int) (s' : St), CurAt (H.set a (curRow q p3)) a q p3 → ((H.set a (curRow q p3)).set b kb).get c = none → Wk s' (⟨Try.f74.ntmps, [(5, .int .i64 ((i + 1 : Nat) : Int)), (4, .slice b 1 0 6), (3, .slice c 10 0 L.length), (0, .ptr a 3 0 0)], [], ((H.set a (curRow q p3)).set b kb).set c ⟨10, false, L.map R.av⟩⟩ : St) → K s' := fun p3 s' h1 h2 =>
        hK (i + 1, p3, c, L) s' ⟨by simp only; omega, h1, h2, hL⟩ (by simp only; omega)
      refine Br.both (fun hq => ?_) (fun hq => ?_) <;> conv => whnf
      · refine AC.mono (l1Once_ok _ a q p2 2 (cur p2 hc2 c _ hcn2) (by decide) (by decide)) ?_
        rintro v h ⟨⟨x, rfl⟩, p3, hh3, hc3'⟩
        rw [base_set hba hca] at hh3
        have hc3 : CurAt (H.set a (curRow q p3)) a q p3 := hc.step hc3'.pos0 hc3'.pos
        have hcn3 := base_none (y := curRow q p3) hcn
        subst hh3
        conv => whnf
        repeat' (first
          | (refine Br.no rfl ?_; conv => whnf)
          | (refine Br.yes rfl ?_; conv => whnf)
          | (refine Two.intro ?_ ?_ <;> conv => whnf)
          | (refine Drawn.intro (by kernel_rfl) ?_; conv => whnf)
          | (refine Br.dec (fun _ => ?_) (fun _ => ?_) <;> conv => whnf)
          | (refine Br.neg (fun _ => ?_) (fun _ => ?_) <;> conv => whnf)
          | (refine Br.both (fun _ => ?_) (fun _ => ?_) <;> conv => whnf))
        · have cl := Cln.init ⟨10, false, L.map R.av⟩ hcn3
          have g := Hp.set_get ((H.set a (curRow q p3)).set b kb) c ⟨10, false, L.map R.av⟩
          refine New.intro fun e4 he4 => ?_
          conv => whnf
          have cla4 := fun r => Cln.new (r := r) (cl) he4
          have ga4 := fun r => Hp.keep_new (r := r) he4 (g)
          refine Whole.intro (Hp.set_get _ _ _) rfl (Nat.le_refl 1) ?_
          conv => whnf
          refine Over.intro (ga4 _) rfl rfl ?_
          conv => whnf
          refine Must.intro ⟨by simp, by rw [tb49]; show (_ + 1) * 88 ≤ _; omega⟩ ?_
          conv => whnf
          refine New.intro fun c4 hc4 => ?_
          conv => whnf
          have cl4 := fun r => ((cla4 _).move (r := r) hc4).2
          have hf4 := ((cla4 _).move (r := ⟨10, false, []⟩) hc4).1
          simp (disch := omega) only [wrap_id]
          have hs := fun s' => hK (i + 1, p3, c4, L ++ [{ r with key := s }]) s' ⟨by simp only; omega, hc3, hf4, by simp; omega, fun z hz => by
            rcases List.mem_append.1 hz with h | h
            · exact hL.2 z h
            · simp at h; subst h; exact hrb⟩ (by simp only; omega)
          simp only [List.length_append, List.length_cons, List.length_nil] at hs
          refine hs _ ⟨rfl, by repeat' (first | exact trivial | exact .inl rfl | apply And.intro), by repeat' (first | exact trivial | exact ⟨_, rfl, cle.refl _⟩ | apply And.intro), (cl4 _).sub ?_⟩
          rw [Hp.set_get]
          simp [rep, List.take_of_length_le, R.av]
        all_goals
          simp (disch := omega) only [wrap_id]
          exact skip p3 _ hc3 hcn3 ⟨rfl, by repeat' (first | exact trivial | exact .inl rfl | apply And.intro), by repeat' (first | exact trivial | exact ⟨_, rfl, cle.refl _⟩ | apply And.intro), HSub.refl _⟩
      · repeat' (first
          | (refine Br.no rfl ?_; conv => whnf)
          | (refine Br.yes rfl ?_; conv => whnf)
          | (refine Two.intro ?_ ?_ <;> conv => whnf)
          | (refine Drawn.intro (by kernel_rfl) ?_; conv => whnf)
          | (refine Br.dec (fun _ => ?_) (fun _ => ?_) <;> conv => whnf)
          | (refine Br.neg (fun _ => ?_) (fun _ => ?_) <;> conv => whnf)
          | (refine Br.both (fun _ => ?_) (fun _ => ?_) <;> conv => whnf))
        all_goals
          simp (disch := omega) only [wrap_id]
          exact skip p2 _ hc2 hcn2 ⟨rfl, by repeat' (first | exact trivial | exact .inl rfl | apply And.intro), by repeat' (first | exact trivial | exact ⟨_, rfl, cle.refl _⟩ | apply And.intro), HSub.refl _⟩
    · have e : i = 6 := by omega
      subst e
      have hca := (Hp.none_set (Hp.none_set hcn).1).2
      have hcH := (Hp.none_set (Hp.none_set hcn).1).1
      have hcb := (Hp.none_set hcn).2
      have fin : ∀ (p3 : Int × Int) (L' : List R), CurAt (H.set a (curRow q p3)) a q p3 → RepB L' → Post (fun v h => ∃ z, RepB z ∧ CurRep H a q z v h) (.slice c 10 0 L'.length) (((H.set a (curRow q p3)).set b kb).set c ⟨10, false, L'.map R.av⟩) := fun p3 L' h1 h2 => by
        have hcn3 := base_none (y := curRow q p3) hcn
        refine .sub ((H.set a (curRow q p3)).set c ⟨10, false, L'.map R.av⟩) (HSub.of_le fun z rz hz => ?_) (.done ⟨L', h2, c, p3, hcH, rfl, rfl, h1.new ((Hp.set_other _ _ hca).trans hcH)⟩)
        by_cases e : z = c
        · subst e; rw [Hp.set_get] at hz ⊢; exact hz
        · rw [Hp.set_other _ _ e] at hz ⊢
          have : z ≠ b := fun e' => by rw [e', Hp.set_other _ _ hba, hb'] at hz; cases hz
          rw [Hp.set_other _ _ this]; exact hz
      refine Br.dec (fun h0 => ?_) (fun h0 => ?_) <;> conv => whnf
      · refine AC.mono (l1Once_ok _ a q p1 10 (cur p1 hc1 c _ hcn) (by decide) (by decide)) ?_
        rintro v h ⟨⟨x, rfl⟩, p3, hh3, hc3'⟩
        rw [base_set hba hca] at hh3
        have hc3 : CurAt (H.set a (curRow q p3)) a q p3 := hc.step hc3'.pos0 hc3'.pos
        have hcn3 := base_none (y := curRow q p3) hcn
        subst hh3
        conv => whnf
        refine Br.both (fun hx => ?_) (fun hx => ?_) <;> conv => whnf
        · have hL4 := hL.1
          refine AC.mono (l1Below_ok _ a q p3 L.length (cur p3 hc3 c _ hcn3) (by omega) (by omega)) ?_
          rintro v h ⟨⟨j, rfl, hj⟩, p4, hh4, hc4'⟩
          rw [base_set hba hca] at hh4
          have hc4 : CurAt (H.set a (curRow q p4)) a q p4 := hc.step hc4'.pos0 hc4'.pos
          have hcn4 := base_none (y := curRow q p4) hcn
          subst hh4
          conv => whnf
          refine AC.mono (l7Any_ok _ a q p4 (cur p4 hc4 c _ hcn4)) ?_
          rintro v h ⟨⟨r, rfl, hr⟩, p5, hh5, hc5'⟩
          rw [base_set hba hca] at hh5
          have hc5 : CurAt (H.set a (curRow q p5)) a q p5 := hc.step hc5'.pos0 hc5'.pos
          subst hh5
          conv => whnf
          refine Idx.nat hj ?_
          conv => whnf
          refine Sto.intro (Hp.set_get _ _ _) rfl rfl (by rw [Nat.zero_add, List.getElem?_map, List.getElem?_eq_getElem hj] <;> rfl) ?_
          conv => whnf
          rw [Hp.set_set]
          have := fin p5 (L.set j r) hc5 ⟨by rw [List.length_set]; exact hL.1, fun z hz => by
            rcases List.mem_or_eq_of_mem_set hz with h | h
            · exact hL.2 z h
            · rw [h]; exact hr⟩
          rw [List.length_set, List.map_set] at this
          rw [Nat.zero_add]
          exact this
        · exact fin p3 L hc3 hL
      · repeat' (first
          | (refine Br.no rfl ?_; conv => whnf)
          | (refine Br.yes rfl ?_; conv => whnf)
          | (refine Two.intro ?_ ?_ <;> conv => whnf)
          | (refine Drawn.intro (by kernel_rfl) ?_; conv => whnf)
          | (refine Br.dec (fun _ => ?_) (fun _ => ?_) <;> conv => whnf)
          | (refine Br.neg (fun _ => ?_) (fun _ => ?_) <;> conv => whnf)
          | (refine Br.both (fun _ => ?_) (fun _ => ?_) <;> conv => whnf))
        exact fin p1 L hc1 hL
  · rw [Hp.set_self H hc.row]
    exact ⟨by simp, hc, by rw [Hp.set_other _ _ (Ne.symm hbc)]; exact hc0, by simp, by simp⟩
  · rw [hkb]
    refine ⟨rfl, by repeat' (first | exact trivial | exact .inl rfl | apply And.intro), by repeat' (first | exact trivial | exact ⟨_, rfl, cle.refl _⟩ | apply And.intro), ?_⟩
    rw [Hp.set_self H hc.row, ← Hp.set_comm _ _ _ (Ne.symm hbc)]
    exact HSub.refl _

end Go.Proofs.Ytdbedlomiedncaa.Vc
