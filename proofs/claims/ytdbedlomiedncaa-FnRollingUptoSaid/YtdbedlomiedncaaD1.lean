/- Keys, kinds, values and rows drawn. -/
import Derived.Test.YtdbedlomiedncaaD0
namespace Go.Proofs.Ytdbedlomiedncaa.Vc
open Go

/-- a list made for one call is dropped -/
theorem CurTo.drop {H h : Hp} {a b : Addr} {q p} {r : Row} (hb : H.get b = none) (hc : CurAt H a q p) (x : CurTo (H.set b r) a q h) : ∃ h', HSub h' h ∧ CurTo H a q h' := by
  obtain ⟨p', rfl, h2⟩ := x
  refine ⟨H.set a (curRow q p'), HSub.of_le fun c r' hc' => ?_, p', rfl, hc.step h2.pos0 h2.pos⟩
  by_cases e : c = a
  · subst e; rw [Hp.set_get] at hc' ⊢; exact hc'
  · rw [Hp.set_other _ _ e] at hc' ⊢
    rw [Hp.set_other _ _ (Hp.ne_of hc' hb)]; exact hc'

theorem CurAt.new {H : Hp} {a b : Addr} {q p} {r : Row} (hc : CurAt H a q p) (hb : H.get b = none) : CurAt (H.set b r) a q p where
  row := Hp.keep_new hb hc.row
  code := hc.code.set hb
  pos0 := hc.pos0
  pos := hc.pos
  len := hc.len

theorem Sl.made {H : Hp} {b : Addr} {e : Nat} {es : List (List AV)} : Sl (H.set b ⟨e, false, es⟩) b e 0 es := ⟨_, Hp.set_get _ _ _, rfl, by simp, by simp⟩

set_option maxRecDepth 100000 in
theorem l4Key_ok (H : Hp) (a : Addr) (q : Addr × Nat × List UInt8) (p : Int × Int) (hc : CurAt H a q p) :
    AC Try.prog 115 [.ptr a 3 0 0] H fun v h => (∃ s, v = .str s ∧ s.length ≤ 5) ∧ CurTo H a q h := by
  refine AC.post ?_
  refine AC_of_vc (T := tab) (D := D115) (esc := []) tab_ok mixed Try.func115 rfl rfl rfl ?_
  conv => whnf
  refine New.intro fun b hb => ?_
  conv => whnf
  refine AC.mono (l1Pick_ok _ a b 0 q p [[97], [98], [99,112,117], [114,101,113], [120,95,49], [90,57], [109,101,109], [113]] (hc.new hb) Sl.made (by decide) (by decide)) ?_
  rintro v h ⟨⟨s, hs, rfl⟩, hto⟩
  conv => whnf
  obtain ⟨h', hsub, hto'⟩ := hto.drop hb hc
  exact .sub h' hsub (.done ⟨⟨s, rfl, by simp at hs; rcases hs with h | h | h | h | h | h | h | h <;> subst h <;> decide⟩, hto'⟩)

set_option maxRecDepth 100000 in
theorem l4Any_ok (H : Hp) (a : Addr) (q : Addr × Nat × List UInt8) (p : Int × Int) (hc : CurAt H a q p) :
    AC Try.prog 103 [.ptr a 3 0 0] H fun v h => (∃ s, v = .str s ∧ s.length ≤ 5) ∧ CurTo H a q h := by
  refine AC.post ?_
  refine AC_of_vc (T := tab) (D := D103) (esc := []) tab_ok mixed Try.func103 rfl rfl rfl ?_
  conv => whnf
  refine AC.mono (l1Once_ok H a q p 5 hc (by decide) (by decide)) ?_
  rintro v h ⟨⟨x, rfl⟩, p1, rfl, hc1⟩
  conv => whnf
  refine Br.both (fun h1 => ?_) (fun h1 => ?_) <;> conv => whnf
  · refine New.intro fun b hb => ?_
    conv => whnf
    refine AC.mono (l1Pick_ok _ a b 0 q p1 [[], [97,98,99,100,101], [97,32,98], [97,58], [0], [97,98,99,100], [255]] (hc1.new hb) Sl.made (by decide) (by decide)) ?_
    rintro v h ⟨⟨s, hs, rfl⟩, hto⟩
    conv => whnf
    obtain ⟨h', hsub, hto'⟩ := hto.drop hb hc1
    exact .sub h' hsub (.done ⟨⟨s, rfl, by simp at hs; rcases hs with h | h | h | h | h | h | h <;> subst h <;> decide⟩, CurTo.trans ⟨p1, rfl, hc1⟩ hto'⟩)
  · refine AC.mono (l4Key_ok _ a q p1 hc1) ?_
    rintro v h ⟨⟨s, rfl, hs⟩, hto⟩
    conv => whnf
    exact .done ⟨⟨s, rfl, hs⟩, CurTo.trans ⟨p1, rfl, hc1⟩ hto⟩

set_option maxRecDepth 100000 in
theorem l5Kind_ok (H : Hp) (a : Addr) (q : Addr × Nat × List UInt8) (p : Int × Int) (hc : CurAt H a q p) :
    AC Try.prog 104 [.ptr a 3 0 0] H fun v h => (∃ x, v = .int .i64 x) ∧ CurTo H a q h := by
  refine AC.post ?_
  refine AC_of_vc (T := tab) (D := D104) (esc := []) tab_ok mixed Try.func104 rfl rfl rfl ?_
  conv => whnf
  refine New.intro fun b hb => ?_
  conv => whnf
  refine AC.mono (l1PickInt_ok _ a b 0 q p [1, 2, 3, 1, 2, 3, 1, 2, 3, 0, 4] (hc.new hb) Sl.made (by decide) (by decide)) ?_
  rintro v h ⟨⟨s, hs, rfl⟩, hto⟩
  conv => whnf
  obtain ⟨h', hsub, hto'⟩ := hto.drop hb hc
  exact .sub h' hsub (.done ⟨⟨s, rfl⟩, hto'⟩)

set_option maxRecDepth 100000 in
theorem l5Val_ok (H : Hp) (a : Addr) (q : Addr × Nat × List UInt8) (p : Int × Int) (hc : CurAt H a q p) :
    AC Try.prog 116 [.ptr a 3 0 0] H fun v h => (∃ x, v = .int .i64 x) ∧ CurTo H a q h := by
  refine AC.post ?_
  refine AC_of_vc (T := tab) (D := D116) (esc := []) tab_ok mixed Try.func116 rfl rfl rfl ?_
  conv => whnf
  refine AC.mono (l1Below_ok H a q p 60000 hc (by decide) (by decide)) ?_
  rintro v h ⟨⟨x, rfl, hx⟩, p1, rfl, hc1⟩
  conv => whnf
  refine AC.mono (l1Below_ok _ a q p1 100 hc1 (by decide) (by decide)) ?_
  rintro v h ⟨⟨y, rfl, hy⟩, p2, hh2, hc2⟩
  conv => whnf
  refine New.intro fun b hb => ?_
  conv => whnf
  refine AC.mono (l1PickInt_ok _ a b 0 q p2 [0, 1, 5, 65535, x, y] (hc2.new hb) Sl.made (by simp) (by simp)) ?_
  rintro v h' ⟨⟨s, hs, rfl⟩, hto⟩
  conv => whnf
  obtain ⟨h'', hsub, hto'⟩ := hto.drop hb hc2
  exact .sub h'' hsub (.done ⟨⟨s, rfl⟩, CurTo.trans ⟨p1, rfl, hc1⟩ (CurTo.trans ⟨p2, hh2, hc2⟩ hto')⟩)

/-- a drawn row: a short key, a sum within bounds -/
def RB (r : R) : Prop := r.key.length ≤ 5 ∧ r.sb

theorem RB.mk' {k0 : List UInt8} {k1 k2 : Int} {k3 : Bool} {k4 k5 k6 k7 k8 k9 : Int} (h1 : k0.length ≤ 5) (h2 : -281474976710656 ≤ k2 ∧ k2 ≤ 281474976710656) :
    ∃ r, AV.agg [.str k0, .int .i64 k1, .int .i64 k2, .bool k3, .int .i64 k4, .int .i64 k5, .int .i64 k6, .int .i64 k7, .int .i64 k8, .int .i64 k9] = .agg (R.av r) ∧ RB r := ⟨⟨k0, k1, k2, k3, k4, k5, k6, k7, k8, k9⟩, rfl, h1, h2⟩

theorem sb_of {r : R} (h : r.sum = 0) : r.sb := by unfold R.sb; omega

set_option maxRecDepth 100000 in
theorem sampled_ok (H : Hp) (r : R) (x : Int) (hr : RB r) : AC Try.prog 117 [.agg r.av, .int .i64 x] H fun v h => (∃ r', v = .agg (R.av r') ∧ RB r') ∧ h = H := by
  refine AC_of_vc (T := tab) (D := D117) (esc := []) tab_ok mixed Try.func117 rfl rfl rfl ?_
  conv => whnf
  refine AC.use1 (specRowOk_ok H r (by have := hr.1; omega)) ?_
  conv => whnf
  repeat' (first
    | (refine Br.no rfl ?_; conv => whnf)
    | (refine Br.yes rfl ?_; conv => whnf)
    | (refine AC.use1 (l1In_ok _ _ _ _) ?_; conv => whnf)
    | (refine Two.intro ?_ ?_ <;> conv => whnf)
    | (refine Drawn.intro (by kernel_rfl) ?_; conv => whnf)
    | (refine Br.dec (fun _ => ?_) (fun _ => ?_) <;> conv => whnf)
    | (refine Br.neg (fun _ => ?_) (fun _ => ?_) <;> conv => whnf)
    | (refine Br.both (fun _ => ?_) (fun _ => ?_) <;> conv => whnf))
  all_goals
    obtain ⟨k0, k1, k2, k3, k4, k5, k6, k7, k8, k9⟩ := r
    dsimp only
    refine ⟨⟨⟨k0, _, k2, _, _, _, _, _, _, _⟩, rfl, ?_, ?_⟩, rfl⟩
    · exact hr.1
    · exact hr.2

set_option maxRecDepth 100000 in
theorem l7Row_ok (H : Hp) (a : Addr) (q : Addr × Nat × List UInt8) (p : Int × Int) (hc : CurAt H a q p) :
    AC Try.prog 97 [.ptr a 3 0 0] H fun v h => (∃ r, v = .agg (R.av r) ∧ RB r) ∧ CurTo H a q h := by
  refine AC.post ?_
  refine AC_of_vc (T := tab) (D := D97) (esc := []) tab_ok mixed Try.func97 rfl rfl rfl ?_
  conv => whnf
  refine AC.mono (l4Key_ok H a q p hc) ?_
  rintro v h ⟨⟨s, rfl, hs⟩, p1, rfl, hc1⟩
  conv => whnf
  refine AC.mono (l1Below_ok _ a q p1 3 hc1 (by decide) (by decide)) ?_
  rintro v h ⟨⟨k, rfl, hk⟩, p2, hh2, hc2⟩
  conv => whnf
  have t2 := CurTo.trans ⟨p1, rfl, hc1⟩ ⟨p2, hh2, hc2⟩
  refine Br.both (fun h1 => ?_) (fun h1 => ?_) <;> conv => whnf
  · refine AC.mono (l1Below_ok _ a q p2 9999 hc2 (by decide) (by decide)) ?_
    rintro v h ⟨⟨x, rfl, hx⟩, p3, hh3, hc3⟩
    conv => whnf
    refine New.intro fun b hb => ?_
    conv => whnf
    refine AC.mono (l1PickInt_ok _ a b 0 q p3 [0, 1, 281474976710655, x] (hc3.new hb) Sl.made (by simp) (by simp)) ?_
    rintro v h' ⟨⟨s, hs, rfl⟩, hto⟩
    conv => whnf
    obtain ⟨h'', hsub, hto'⟩ := hto.drop hb hc3
    refine .sub h'' hsub (.done ⟨⟨⟨_, _, _, _, _, _, _, _, _, _⟩, rfl, ‹_ ≤ 5›, ?_⟩, CurTo.trans t2 (CurTo.trans ⟨p3, hh3, hc3⟩ hto')⟩)
    simp at hs; show _ ∧ _; simp only; omega
  · refine Br.both (fun h2 => ?_) (fun h2 => ?_) <;> conv => whnf
    · refine AC.mono (l1Once_ok _ a q p2 4 hc2 (by decide) (by decide)) ?_
      rintro v h ⟨⟨x, rfl⟩, p3, hh3, hc3⟩
      conv => whnf
      repeat' (first
        | (refine Br.no rfl ?_; conv => whnf)
        | (refine Br.yes rfl ?_; conv => whnf)
        | (refine Two.intro ?_ ?_ <;> conv => whnf)
        | (refine Drawn.intro (by kernel_rfl) ?_; conv => whnf)
        | (refine Br.dec (fun _ => ?_) (fun _ => ?_) <;> conv => whnf)
        | (refine Br.neg (fun _ => ?_) (fun _ => ?_) <;> conv => whnf)
        | (refine Br.both (fun _ => ?_) (fun _ => ?_) <;> conv => whnf))
      · refine AC.mono (l5Val_ok _ a q p3 hc3) ?_
        rintro v h ⟨⟨y, rfl⟩, p4, hh4, hc4⟩
        conv => whnf
        exact .done ⟨⟨⟨_, _, _, _, _, _, _, _, _, _⟩, rfl, hs, sb_of rfl⟩, CurTo.trans t2 (CurTo.trans ⟨p3, hh3, hc3⟩ ⟨p4, hh4, hc4⟩)⟩
      · exact .done ⟨⟨⟨_, _, _, _, _, _, _, _, _, _⟩, rfl, hs, sb_of rfl⟩, CurTo.trans t2 ⟨p3, hh3, hc3⟩⟩
    · refine AC.mono (l1Below_ok _ a q p2 6 hc2 (by decide) (by decide)) ?_
      rintro v h ⟨⟨n, rfl, hn⟩, p3, hh3, hc3⟩
      conv => whnf
      obtain ⟨p4, rfl, hc4⟩ := CurTo.trans t2 ⟨p3, hh3, hc3⟩
      refine LoopVC.intro (fun z : Nat × (Int × Int) × R => (⟨Try.f97.ntmps, [(4, .int .i64 z.1), (0, .ptr a 3 0 0), (2, .lptr 2 0), (3, .lptr 3 0)], [(2, zRow), (3, z.2.2.av)], H.set a (curRow q z.2.1)⟩ : St))
        (fun z => z.1 < 6 ∧ CurAt (H.set a (curRow q z.2.1)) a q z.2.1 ∧ RB z.2.2) (fun z => z.1) (fun z hi K hK => ?_) (n, p4, ⟨s, _, 0, false, 0, 0, 0, 0, 0, 0⟩) ⟨hn, hc4, hs, sb_of rfl⟩ ⟨rfl, by repeat' (first | exact trivial | exact .inl rfl | apply And.intro), by repeat' (first | exact trivial | exact ⟨_, rfl, cle.refl _⟩ | apply And.intro), HSub.refl _⟩
      obtain ⟨i, p5, r⟩ := z
      obtain ⟨hi, hc5, hr⟩ := hi
      simp only at hi hc5 hr ⊢
      conv => whnf
      repeat' (first
        | (refine Br.no rfl ?_; conv => whnf)
        | (refine Br.yes rfl ?_; conv => whnf)
        | (refine Two.intro ?_ ?_ <;> conv => whnf)
        | (refine Drawn.intro (by kernel_rfl) ?_; conv => whnf)
        | (refine Br.dec (fun _ => ?_) (fun _ => ?_) <;> conv => whnf)
        | (refine Br.neg (fun _ => ?_) (fun _ => ?_) <;> conv => whnf)
        | (refine Br.both (fun _ => ?_) (fun _ => ?_) <;> conv => whnf))
      · refine AC.mono (l5Val_ok _ a q p5 hc5) ?_
        rintro v h ⟨⟨y, rfl⟩, p6, hh6, hc6⟩
        rw [Hp.set_set] at hh6
        subst hh6
        conv => whnf
        refine AC.use0 (sampled_ok _ r y hr) ?_
        rintro v ⟨r', rfl, hr'⟩
        conv => whnf
        simp (disch := omega) only [wrap_id]
        have e : (i : Int) - 1 = ((i - 1 : Nat) : Int) := by omega
        rw [e]
        exact hK (i - 1, p6, r') _ ⟨by simp only; omega, hc6, hr'⟩ (by simp only; omega) ⟨rfl, by repeat' (first | exact trivial | exact .inl rfl | apply And.intro), by repeat' (first | exact trivial | exact ⟨_, rfl, cle.refl _⟩ | apply And.intro), HSub.refl _⟩
      · exact .done ⟨⟨r, rfl, hr⟩, p5, rfl, hc5⟩

end Go.Proofs.Ytdbedlomiedncaa.Vc
