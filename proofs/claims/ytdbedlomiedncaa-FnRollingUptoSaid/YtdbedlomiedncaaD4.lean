/- Stores drawn. -/
import Derived.Test.YtdbedlomiedncaaD3
namespace Go.Proofs.Ytdbedlomiedncaa.Vc
open Go

set_option maxRecDepth 100000 in
theorem specStoreNew_ok (H : Hp) (n : Int) (h1 : 1 ≤ n) (h2 : n ≤ 5) : AC Try.prog 107 [.int .i64 n] H fun v h => v = .agg [.int .i64 n, .int .i64 0, .nils] ∧ h = H := by
  refine AC_of_vc (T := tab) (D := D107) (esc := []) tab_ok mixed Try.func107 rfl rfl rfl ?_
  conv => whnf
  refine AC.use1 (l1In_ok _ _ _ _) ?_
  conv => whnf
  have e : (decide (1 ≤ n) && decide (n ≤ 5)) = true := by simp [h1, h2]
  rw [e]
  repeat' (first
    | (refine Br.no rfl ?_; conv => whnf)
    | (refine Br.yes rfl ?_; conv => whnf)
    | (refine Two.intro ?_ ?_ <;> conv => whnf)
    | (refine Drawn.intro (by kernel_rfl) ?_; conv => whnf)
    | (refine Br.dec (fun _ => ?_) (fun _ => ?_) <;> conv => whnf)
    | (refine Br.neg (fun _ => ?_) (fun _ => ?_) <;> conv => whnf)
    | (refine Br.both (fun _ => ?_) (fun _ => ?_) <;> conv => whnf))
  exact ⟨rfl, rfl⟩

set_option maxRecDepth 100000 in
theorem implStoreNew_ok (H : Hp) (n : Int) (h1 : 1 ≤ n) (h2 : n ≤ 5) : AC Try.prog 49 [.int .i64 n] H fun v h => v = .agg [.int .i64 n, .int .i64 0, .nils] ∧ h = H := by
  refine AC_of_vc (T := tab) (D := D49) (esc := []) tab_ok mixed Try.func49 rfl rfl rfl ?_
  conv => whnf
  refine AC.use1 (within_ok _ _ _ _) ?_
  conv => whnf
  have e : (decide (1 ≤ n) && decide (n ≤ 5)) = true := by simp [h1, h2]
  rw [e]
  repeat' (first
    | (refine Br.no rfl ?_; conv => whnf)
    | (refine Br.yes rfl ?_; conv => whnf)
    | (refine Two.intro ?_ ?_ <;> conv => whnf)
    | (refine Drawn.intro (by kernel_rfl) ?_; conv => whnf)
    | (refine Br.dec (fun _ => ?_) (fun _ => ?_) <;> conv => whnf)
    | (refine Br.neg (fun _ => ?_) (fun _ => ?_) <;> conv => whnf)
    | (refine Br.both (fun _ => ?_) (fun _ => ?_) <;> conv => whnf))
  exact ⟨rfl, rfl⟩

theorem MadeRR.cur {H h : Hp} {a q p} {rs : List (List R)} {d : Addr} {o : Nat} (x : MadeRR (H.set a (curRow q p)) rs d o h) {c : Addr} {z : List R} {p' : Int × Int} (hc : h.get c = none) :
    MadeRR (H.set a (curRow q p')) rs d o ((h.set a (curRow q p')).set c ⟨10, false, z.map R.av⟩) ∧ (H.set a (curRow q p')).get c = none := by
  obtain ⟨N, hO, hN, hD, hle⟩ := x
  have hNa : N.get a = none := by
    rcases hD a with h' | h'
    · exact h'
    · rw [Hp.set_get] at h'; cases h'
  have hca : c ≠ a := Ne.symm (Hp.ne_of (hle _ _ (Hp.set_get _ _ _)) hc)
  refine ⟨⟨N, hO, fun y r e => ?_, fun y => ?_, fun y r e => ?_⟩, ?_⟩
  · rw [Hp.set_other _ _ (Hp.ne_of (hN _ _ e) hc), Hp.set_other _ _ (Hp.ne_of e hNa)]; exact hN _ _ e
  · by_cases ey : y = a
    · subst ey; exact .inl hNa
    · rw [Hp.set_other _ _ ey]
      have := hD y
      rw [Hp.set_other _ _ ey] at this; exact this
  · by_cases ey : y = a
    · subst ey; rw [Hp.set_get] at e
      rw [Hp.set_other _ _ (Ne.symm hca), Hp.set_get]; exact e
    · rw [Hp.set_other _ _ ey] at e
      have := hle y r (by rw [Hp.set_other _ _ ey]; exact e)
      rw [Hp.set_other _ _ (Hp.ne_of this hc), Hp.set_other _ _ ey]; exact this
  · rw [Hp.set_other _ _ hca]
    have := Hp.le_none hle hc
    rw [Hp.set_other _ _ hca] at this; exact this

theorem MadeRR.cur0 {H h : Hp} {a q p} {rs : List (List R)} {d : Addr} {o : Nat} (x : MadeRR (H.set a (curRow q p)) rs d o h) {p' : Int × Int} : MadeRR (H.set a (curRow q p')) rs d o (h.set a (curRow q p')) := by
  obtain ⟨N, hO, hN, hD, hle⟩ := x
  have hNa : N.get a = none := by
    rcases hD a with h' | h'
    · exact h'
    · rw [Hp.set_get] at h'; cases h'
  refine ⟨N, hO, fun y r e => ?_, fun y => ?_, fun y r e => ?_⟩
  · rw [Hp.set_other _ _ (Hp.ne_of e hNa)]; exact hN _ _ e
  · by_cases ey : y = a
    · subst ey; exact .inl hNa
    · rw [Hp.set_other _ _ ey]
      have := hD y
      rw [Hp.set_other _ _ ey] at this; exact this
  · by_cases ey : y = a
    · subst ey; rw [Hp.set_get] at e ⊢; exact e
    · rw [Hp.set_other _ _ ey] at e ⊢
      exact hle y r (by rw [Hp.set_other _ _ ey]; exact e)

theorem MadeRR.up {H h h' : Hp} {rs : List (List R)} {d : Addr} {o : Nat} (x : MadeRR H rs d o h) (l : h.le h') : MadeRR H rs d o h' := by
  obtain ⟨N, hO, hN, hD, hle⟩ := x
  exact ⟨N, hO, Hp.le_trans hN l, hD, Hp.le_trans hle l⟩

theorem pushed_RepsB {c f : Int} {xs : List (List R)} {l : List R} (h : ∀ z ∈ xs, RepB z) (hl : RepB l) : (∀ z ∈ (pushed c f xs l).2, RepB z) ∧ (pushed c f xs l).2.length ≤ xs.length + 1 := by
  have hall : ∀ z ∈ xs ++ [l], RepB z := fun z hz => by
    rcases List.mem_append.1 hz with h' | h'
    · exact h z h'
    · simp at h'; subst h'; exact hl
  unfold pushed
  split
  · split
    · exact ⟨fun z hz => hall z (List.mem_of_mem_tail hz), by simp⟩
    · exact ⟨hall, by simp⟩
  · exact ⟨h, Nat.le_succ _⟩

/-- a drawn store and the cursor -/
def CurSt (H : Hp) (a : Addr) (q : Addr × Nat × List UInt8) (v : AV) (h : Hp) : Prop := ∃ c f xs d o p, v = stAV c f d o xs.length ∧ RepsB xs ∧ CurAt h a q p ∧ MadeRR (H.set a (curRow q p)) xs d o h

set_option maxRecDepth 100000 in
theorem l29Store_ok (H : Hp) (a : Addr) (q : Addr × Nat × List UInt8) (p : Int × Int) (hc : CurAt H a q p) : AC Try.prog 88 [.ptr a 3 0 0] H (CurSt H a q) := by
  refine AC.post ?_
  refine AC_of_vc (T := tab) (D := D88) (esc := []) tab_ok mixed Try.func88 rfl rfl rfl ?_
  conv => whnf
  refine AC.mono (l1Below_ok H a q p 5 hc (by decide) (by decide)) ?_
  rintro v h ⟨⟨n, rfl, hn⟩, p1, rfl, hc1⟩
  conv => whnf
  simp (disch := omega) only [wrap_id]
  have hc1' := hc
  refine AC.use1 (specStoreNew_ok _ _ (by omega) (by omega)) ?_
  conv => whnf
  refine AC.mono (l1Below_ok _ a q p1 8 hc1 (by decide) (by decide)) ?_
  rintro v h ⟨⟨m, rfl, hm⟩, p2, rfl, hc2⟩
  rw [Hp.set_set] at hc2 ⊢
  conv => whnf
  refine LoopVC.ghost 1 fun d0 hd0 => ?_
  have hd0 : (H.set a (curRow q p2)).get d0 = none := hd0
  refine LoopVC.intro (fun z : Nat × (Int × Int) × Hp × Int × Addr × Nat × List (List R) => (⟨Try.f88.ntmps, [(4, .int .i64 z.1), (0, .ptr a 3 0 0), (2, .lptr 2 0), (3, .lptr 3 0)], [(2, [.int .i64 0, .int .i64 0, .nils]), (3, [.int .i64 (1 + (n : Int)), .int .i64 z.2.2.2.1, .slice z.2.2.2.2.1 1 z.2.2.2.2.2.1 z.2.2.2.2.2.2.length])], z.2.2.1⟩ : St))
    (fun z => z.1 + z.2.2.2.2.2.2.length ≤ 7 ∧ (∀ y ∈ z.2.2.2.2.2.2, RepB y) ∧ CurAt z.2.2.1 a q z.2.1 ∧ MadeRR (H.set a (curRow q z.2.1)) z.2.2.2.2.2.2 z.2.2.2.2.1 z.2.2.2.2.2.1 z.2.2.1) (fun z => z.1) (fun z hi K hK => ?_) (m, p2, (H.set a (curRow q p2)).set d0 ⟨1, false, []⟩, 0, d0, 0, []) ?_ ?_
  · obtain ⟨i, p3, h, f, d, o, xs⟩ := z
    obtain ⟨hi, hxs, hc3, hm3⟩ := hi
    simp only at hi hxs hc3 hm3 ⊢
    conv => whnf
    refine Br.dec (fun hi0 => ?_) (fun hi0 => ?_) <;> conv => whnf
    · refine Drawn.intro (by kernel_rfl) ?_
      conv => whnf
      refine AC.mono (l7Report_ok h a q p3 hc3) ?_
      rintro v h2 ⟨x, hxb, e1, p4, he1, rfl, hh2, hc4⟩
      conv => whnf
      obtain ⟨hm4, hn4⟩ := hm3.cur (z := x) (p' := p4) he1
      rw [← hh2] at hm4
      have hrb : RepsB xs := ⟨by omega, hxs⟩
      have hs2 : SlRR h2 d o xs := by
        obtain ⟨N, g1, g2, _⟩ := hm4
        exact g1.sl g2
      have hxl := hxb.1
      refine AC.mono (specPush_ok h2 (1 + (n : Int)) f d e1 o 0 xs x hs2 hrb.kss (by rw [hh2]; exact SlR.new) (fun r hr => by have := (hxb.2 r hr).1; omega) (by omega)) ?_
      obtain ⟨b1, b2⟩ := pushed_RepsB (c := 1 + (n : Int)) (f := f) hxs hxb
      generalize (pushed (1 + (n : Int)) f xs x).1 = f' at *
      generalize (pushed (1 + (n : Int)) f xs x).2 = ys at *
      rintro v h3 ⟨d', o', N', rfl, hO', hN', hD', l3⟩
      conv => whnf
      simp (disch := omega) only [wrap_id]
      have e : (i : Int) - 1 = ((i - 1 : Nat) : Int) := by omega
      rw [e]
      have hle4 : (H.set a (curRow q p4)).le h2 := by
        obtain ⟨N, _, _, _, g4⟩ := hm4
        exact g4
      exact hK (i - 1, p4, h3, f', d', o', ys) _ ⟨by simp only; omega, b1, hc4.le l3, N', hO', hN', hD'.le_right hle4, Hp.le_trans hle4 l3⟩ (by simp only; omega) ⟨rfl, by repeat' (first | exact trivial | exact .inl rfl | apply And.intro), by repeat' (first | exact trivial | exact ⟨_, rfl, cle.refl _⟩ | apply And.intro), HSub.refl _⟩
    · have e0 : i = 0 := by omega
      subst e0
      refine AC.mono (l1Below_ok _ a q p3 14 hc3 (by decide) (by decide)) ?_
      rintro v h2 ⟨⟨k, rfl, hk⟩, p4, rfl, hc4⟩
      have hm4 := hm3.cur0 (p' := p4)
      have hrb : RepsB xs := ⟨by omega, hxs⟩
      conv => whnf
      refine Br.both (fun h1 => ?_) (fun h1 => ?_) <;> conv => whnf
      · refine New.intro fun b hb => ?_
        conv => whnf
        refine AC.mono (l1PickInt_ok _ a b 0 q p4 [0, 6, 1] (hc4.new hb) Sl.made (by simp) (by simp)) ?_
        rintro v h' ⟨⟨s, hs, rfl⟩, hto⟩
        conv => whnf
        obtain ⟨h'', hsub, p5, rfl, hc5⟩ := hto.drop hb hc4
        exact .sub _ hsub (.done ⟨_, _, xs, d, o, p5, rfl, hrb, hc5, hm4.cur0⟩)
      refine Br.both (fun h1 => ?_) (fun h1 => ?_) <;> conv => whnf
      · refine New.intro fun b hb => ?_
        conv => whnf
        refine AC.mono (l1PickInt_ok _ a b 0 q p4 [-1, 3, 1000000, 1000001] (hc4.new hb) Sl.made (by simp) (by simp)) ?_
        rintro v h' ⟨⟨s, hs, rfl⟩, hto⟩
        conv => whnf
        obtain ⟨h'', hsub, p5, rfl, hc5⟩ := hto.drop hb hc4
        exact .sub _ hsub (.done ⟨_, _, xs, d, o, p5, rfl, hrb, hc5, hm4.cur0⟩)
      refine Br.both (fun h1 => ?_) (fun h1 => ?_) <;> conv => whnf
      · refine Drawn.intro (by kernel_rfl) ?_
        conv => whnf
        refine AC.mono (l7Any_ok _ a q p4 hc4) ?_
        rintro v h' ⟨⟨r, rfl, hr⟩, p5, rfl, hc5⟩
        have hm5 := hm4.cur0 (p' := p5)
        conv => whnf
        generalize ((h.set a (curRow q p4)).set a (curRow q p5)) = h5 at hc5 hm5 ⊢
        obtain ⟨N, hO, hN, hD, hle⟩ := hm5
        refine New.intro fun e1 he1 => ?_
        conv => whnf
        refine New.intro fun e2 he2 => ?_
        conv => whnf
        obtain ⟨es, q0, k1, _, ⟨_, k3⟩, _⟩ := id hO
        have l1 := Hp.le_trans (Hp.le_set (h := h5) ⟨10, false, [r].map R.av⟩ he1) (Hp.le_set (h := h5.set e1 ⟨10, false, [r].map R.av⟩) ⟨1, false, [[.slice e1 10 0 1]]⟩ he2)
        have he12 : e1 ≠ e2 := fun e => by subst e; rw [Hp.set_get] at he2; cases he2
        refine Whole.intro (Hp.set_get _ _ _) rfl (Nat.le_refl 1) ?_
        conv => whnf
        refine Over.intro (l1 _ _ (hN _ _ k1)) rfl rfl ?_
        conv => whnf
        refine Must.intro ⟨by simp only; omega, by show (xs.length + 1) * (tab.at 24).bytes ≤ _; rw [tb24]; omega⟩ ?_
        conv => whnf
        refine New.intro fun d' hd' => ?_
        conv => whnf
        obtain ⟨N', m1, m2, m3, m4⟩ := OwnRR.append (x := [r]) hO (Hp.le_trans hN l1) hD (Hp.le_trans hle l1) ((Hp.set_other _ _ he12).trans (Hp.set_get _ _ _)) (Hp.le_none hN he1) (Hp.le_none hle he1) (l1 _ _ (hN _ _ k1)) hd'
        refine .done ⟨1 + (n : Int), f, xs ++ [[r]], d', 0, p5, by simp [stAV], ⟨by simp; omega, fun z hz => ?_⟩, ⟨m4 _ _ (Hp.set_get _ _ _), (hc1'.coded _).le m4, hc5.pos0, hc5.pos, hc5.len⟩, N', m1, m2, m3, m4⟩
        rcases List.mem_append.1 hz with h | h
        · exact hxs z h
        · simp at h; subst h; exact ⟨by simp, fun y hy => by simp at hy; subst hy; exact hr⟩
      · exact .done ⟨_, _, xs, d, o, p4, rfl, hrb, hc4, hm4⟩
  · exact ⟨by simp; omega, by simp, hc2.new hd0, OwnRR.empty hd0⟩
  · exact ⟨rfl, by repeat' (first | exact trivial | exact .inl rfl | apply And.intro), ⟨⟨_, rfl, cle.refl _⟩, ⟨_, rfl, .inl rfl, .inl rfl, .inr ⟨rfl, _, _, _, rfl⟩, trivial⟩, trivial⟩, HSub.refl _⟩

end Go.Proofs.Ytdbedlomiedncaa.Vc
