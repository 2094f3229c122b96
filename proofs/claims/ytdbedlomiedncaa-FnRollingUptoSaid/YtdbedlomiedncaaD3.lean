/- Reports drawn; the code's bytes. -/
import Derived.Test.YtdbedlomiedncaaD2
import Derived.Test.YtdbedlomiedncaaE0
namespace Go.Proofs.Ytdbedlomiedncaa.Vc
open Go

set_option maxRecDepth 100000 in
theorem big_ok (H : Hp) (a : Addr) (o n : Nat) : AC Try.prog 24 [.slice a 1 o n] H fun v h => v = .bool (decide (1048576 < (n : Int))) ∧ h = H := by
  refine AC_of_vc (T := tab) (D := D24) (esc := []) tab_ok mixed Try.func24 rfl rfl rfl ?_
  conv => whnf
  exact ⟨rfl, rfl⟩

set_option maxRecDepth 100000 in
theorem at_ok (H : Hp) (a : Addr) (o : Nat) (bs : List UInt8) (i : Nat) (hs : Sl H a 1 o (bs.map byteCell)) (hl : bs.length ≤ 1048576) (hi : i ≤ 1048576) :
    AC Try.prog 79 [.slice a 1 o bs.length, .int .i64 i] H fun v h => (∃ x : Nat, v = .int .i64 x ∧ x ≤ 255) ∧ h = H := by
  refine AC_of_vc (T := tab) (D := D79) (esc := []) tab_ok mixed Try.func79 rfl rfl rfl ?_
  conv => whnf
  refine Br.dec (fun h => ?_) (fun h => ?_) <;> conv => whnf
  · have h : i < bs.length := by omega
    refine Idx.nat h ?_
    conv => whnf
    refine hs.ld h ?_
    conv => whnf
    refine ⟨⟨(bs[i]).toNat, by rw [wrap_byte], by have := (bs[i]).toNat_lt; omega⟩, rfl⟩
  · refine Must.intro (by decide) ?_
    conv => whnf
    simp (disch := omega) only [wrap_id]
    have e : ((i : Int) * 37 + (bs.length : Int) * 11).tmod 256 = (((i * 37 + bs.length * 11) % 256 : Nat) : Int) := by rw [Int.tmod_eq_emod_of_nonneg (by omega)]; omega
    refine ⟨⟨(i * 37 + bs.length * 11) % 256, congrArg _ e, ?_⟩, trivial⟩
    omega

set_option maxRecDepth 100000 in
theorem cutAt_ok (H : Hp) (a : Addr) (o : Nat) (bs : List UInt8) (i n : Nat) (hs : Sl H a 1 o (bs.map byteCell)) (hl : bs.length ≤ 1048576) (hi : i ≤ 1048576) (hn : n ≤ 1048576) :
    AC Try.prog 33 [.slice a 1 o bs.length, .int .i64 i, .int .i64 n] H fun v h => (∃ x : Nat, v = .int .i64 x ∧ x ≤ n) ∧ h = H := by
  refine AC_of_vc (T := tab) (D := D33) (esc := []) tab_ok mixed Try.func33 rfl rfl rfl ?_
  conv => whnf
  refine AC.use0 (at_ok H a o bs i hs hl hi) ?_
  rintro v ⟨x, rfl, hx⟩
  conv => whnf
  refine Must.intro (by decide) ?_
  conv => whnf
  have h1 : (x : Int) * ((n : Int) + 1) = ((x * (n + 1) : Nat) : Int) := by rw [Int.natCast_mul]; rfl
  have h2 : x * (n + 1) ≤ 255 * (n + 1) := Nat.mul_le_mul_right _ hx
  rw [wrap_id (n := (n : Int) + 1) (by omega) (by omega), h1, wrap_id (n := ((x * (n + 1) : Nat) : Int)) (by omega) (by omega), Int.tdiv_eq_ediv_of_nonneg (by omega)]
  rw [wrap_id (by omega) (by omega)]
  exact ⟨⟨x * (n + 1) / 256, by congr 1, by omega⟩, rfl⟩

/-- reports drawn -/
structure RepsB (rs : List (List R)) : Prop where
  len : rs.length ≤ 8
  reps : ∀ z ∈ rs, RepB z

theorem RepsB.sb {rs : List (List R)} (h : RepsB rs) : ∀ y ∈ rs, SB y ∧ y.length ≤ 4 := fun y hy => ⟨fun r hr => ((h.reps y hy).2 r hr).2, (h.reps y hy).1⟩

theorem RepsB.kss {rs : List (List R)} (h : RepsB rs) : KSS rs := ⟨by have := h.len; omega, fun x hx => ⟨fun r hr => by have := ((h.reps x hx).2 r hr).1; omega, by have := (h.reps x hx).1; omega⟩⟩

theorem CurAt.le {H h : Hp} {a q p} (x : CurAt H a q p) (l : H.le h) : CurAt h a q p := ⟨l _ _ x.row, x.code.le l, x.pos0, x.pos, x.len⟩

/-- a slice of reports, none of them H's -/
def MadeRR (H : Hp) (rs : List (List R)) (d : Addr) (o : Nat) (h : Hp) : Prop := ∃ N, OwnRR N d o rs ∧ N.le h ∧ Dj N H ∧ H.le h

set_option maxRecDepth 100000 in
theorem drawTotalIn_ok (H : Hp) (ca : Addr) (co : Nat) (bs : List UInt8) (hs : Sl H ca 1 co (bs.map byteCell)) (hl : bs.length ≤ 1048576) :
    AC Try.prog 78 [.slice ca 1 co bs.length] H fun v h => ∃ rs k d, v = .tuple [.slice d 1 0 rs.length, .str k] ∧ RepsB rs ∧ k.length ≤ 5 ∧ MadeRR H rs d 0 h := by
  refine AC.post ?_
  refine AC_of_vc (T := tab) (D := D78) (esc := []) tab_ok mixed Try.func78 rfl rfl rfl ?_
  conv => whnf
  refine AC.mono (l1New_ok H ca co bs hs hl) ?_
  rintro v h ⟨a, p, ha, rfl, rfl, hc⟩
  conv => whnf
  refine New.intro fun d0 hd0 => ?_
  conv => whnf
  have hs' : Sl H (ca, co, bs).1 1 (ca, co, bs).2.1 ((ca, co, bs).2.2.map byteCell) := hs
  generalize (ca, co, bs) = q at hc hd0 hs' ⊢
  have hcd := hc.new (r := ⟨1, false, []⟩) hd0
  refine AC.mono (l1Below_ok _ a q p 5 hcd (by decide) (by decide)) ?_
  rintro v h ⟨⟨n, rfl, hn⟩, p1, hh1, hc1⟩
  conv => whnf
  have hH1 := Hp.le_set (curRow q p1) ha
  rw [hh1]
  have hda : d0 ≠ a := Ne.symm (Hp.ne_of hc.row hd0)
  have hd0H : H.get d0 = none := (Hp.none_set hd0).1
  rw [Hp.set_comm _ _ _ hda, Hp.set_set]
  rw [hh1, Hp.set_comm _ _ _ hda, Hp.set_set] at hc1
  refine LoopVC.intro (fun z : Nat × (Int × Int) × Hp × Addr × List (List R) => (⟨Try.f78.ntmps, [(6, .int .i64 z.1), (5, .slice z.2.2.2.1 1 0 z.2.2.2.2.length), (4, .ptr a 3 0 0)], [], z.2.2.1⟩ : St))
    (fun z => z.1 + z.2.2.2.2.length ≤ 8 ∧ CurAt z.2.2.1 a q z.2.1 ∧ RepsB z.2.2.2.2 ∧ MadeRR (H.set a (curRow q z.2.1)) z.2.2.2.2 z.2.2.2.1 0 z.2.2.1) (fun z => z.1) (fun z hi K hK => ?_) (n, p1, (H.set a (curRow q p1)).set d0 ⟨1, false, []⟩, d0, []) ?_ ⟨rfl, by repeat' (first | exact trivial | exact .inl rfl | apply And.intro), by repeat' (first | exact trivial | exact ⟨_, rfl, cle.refl _⟩ | apply And.intro), HSub.refl _⟩
  · obtain ⟨i, p2, h, d, rs⟩ := z
    obtain ⟨hi, hc2, hrs, N, hO, hN, hD, hle⟩ := hi
    simp only at hi hc2 hrs hO hN hD hle ⊢
    conv => whnf
    refine Br.dec (fun hi0 => ?_) (fun hi0 => ?_) <;> conv => whnf
    · refine AC.mono (l7Report_ok h a q p2 hc2) ?_
      rintro v h2 ⟨x, hxb, e1, p3, he1, rfl, hh2, hc3⟩
      conv => whnf
      have hNa : N.get a = none := by
        rcases hD a with h' | h'
        · exact h'
        · rw [Hp.set_get] at h'; cases h'
      have he1a : e1 ≠ a := Ne.symm (Hp.ne_of hc2.row he1)
      have hN2 : N.le h2 := fun y r e => by
        rw [hh2, Hp.set_other _ _ (Hp.ne_of (hN _ _ e) he1), Hp.set_other _ _ (Hp.ne_of e hNa)]; exact hN _ _ e
      have hle2 : (H.set a (curRow q p3)).le h2 := fun y r e => by
        by_cases ey : y = a
        · subst ey; rw [Hp.set_get] at e; rw [hc3.row]; exact e
        · rw [Hp.set_other _ _ ey] at e
          have := hle y r (by rw [Hp.set_other _ _ ey]; exact e)
          rw [hh2, Hp.set_other _ _ (Hp.ne_of this he1), Hp.set_other _ _ ey]; exact this
      have hD2 : Dj N (H.set a (curRow q p3)) := fun y => by
        by_cases ey : y = a
        · subst ey; exact .inl hNa
        · rw [Hp.set_other _ _ ey]
          have := hD y
          rw [Hp.set_other _ _ ey] at this; exact this
      have he1N : N.get e1 = none := Hp.le_none hN he1
      have he1H : (H.set a (curRow q p3)).get e1 = none := by
        rw [Hp.set_other _ _ he1a]
        have := Hp.le_none hle he1
        rw [Hp.set_other _ _ he1a] at this; exact this
      have g1 : h2.get e1 = some ⟨10, false, x.map R.av⟩ := by rw [hh2, Hp.set_get]
      refine New.intro fun e2 he2 => ?_
      conv => whnf
      obtain ⟨es, q0, k1, _, ⟨_, k3⟩, _⟩ := id hO
      have l1 := Hp.le_set (h := h2) ⟨1, false, [[.slice e1 10 0 x.length]]⟩ he2
      refine Whole.intro (Hp.set_get _ _ _) rfl (Nat.le_refl 1) ?_
      conv => whnf
      refine Over.intro (l1 _ _ (hN2 _ _ k1)) rfl rfl ?_
      conv => whnf
      refine Must.intro ⟨by simp only; omega, by show (rs.length + 1) * (tab.at 24).bytes ≤ _; rw [tb24]; have := hrs.len; omega⟩ ?_
      conv => whnf
      refine New.intro fun d' hd' => ?_
      conv => whnf
      obtain ⟨N', m1, m2, m3, m4⟩ := OwnRR.append (x := x) hO (Hp.le_trans hN2 l1) hD2 (Hp.le_trans hle2 l1) (l1 _ _ g1) he1N he1H (l1 _ _ (hN2 _ _ k1)) hd'
      simp (disch := omega) only [wrap_id]
      have e : (i : Int) - 1 = ((i - 1 : Nat) : Int) := by omega
      rw [e]
      have hs := fun h' s' => hK (i - 1, p3, h', d', rs ++ [x]) s'
      simp only [List.length_append, List.length_cons, List.length_nil] at hs
      refine hs _ _ ⟨by omega, ?_, ⟨?_, ?_⟩, N', m1, m2, m3, m4⟩ (by omega) ⟨rfl, by repeat' (first | exact trivial | exact .inl rfl | apply And.intro), by repeat' (first | exact trivial | exact ⟨_, rfl, cle.refl _⟩ | apply And.intro), HSub.refl _⟩
      · refine ⟨m4 _ _ (Hp.set_get _ _ _), (hs'.set ha).le m4, hc3.pos0, hc3.pos, hc3.len⟩
      · simp; omega
      · intro z hz
        rcases List.mem_append.1 hz with h | h
        · exact hrs.reps z h
        · simp at h; subst h; exact hxb
    · have e0 : i = 0 := by omega
      subst e0
      refine New.intro fun b hb => ?_
      conv => whnf
      refine AC.mono (l1Pick_ok _ a b 0 q p2 [[90,57], [97], [98], [99,112,117], [109,101,109], [113]] (hc2.new hb) Sl.made (by simp) (by simp)) ?_
      rintro v h' ⟨⟨s, hs, rfl⟩, hto⟩
      conv => whnf
      obtain ⟨h'', hsub, p3, rfl, hc3⟩ := hto.drop hb hc2
      refine .sub _ hsub (.done ⟨rs, s, d, rfl, hrs, by simp at hs; rcases hs with h | h | h | h | h | h <;> subst h <;> decide, N, hO, ?_, ?_, ?_⟩)
      · intro y r e
        have : y ≠ a := fun e' => by
          rcases hD y with h' | h'
          · rw [h'] at e; cases e
          · rw [e', Hp.set_get] at h'; cases h'
        rw [Hp.set_other _ _ this]; exact hN _ _ e
      · intro y
        rcases hD y with h' | h'
        · exact .inl h'
        · exact .inr (Hp.none_set h').1
      · intro y r e
        have : y ≠ a := Hp.ne_of e ha
        rw [Hp.set_other _ _ this]
        exact hle y r (by rw [Hp.set_other _ _ this]; exact e)
  · refine ⟨by simp; omega, hc1, ⟨by simp, by simp⟩, ?_⟩
    exact OwnRR.empty (by rw [Hp.set_other _ _ hda]; exact hd0H)

set_option maxRecDepth 100000 in
theorem drawOverall_ok (H : Hp) (ca : Addr) (co : Nat) (bs : List UInt8) (hs : Sl H ca 1 co (bs.map byteCell)) (hl : bs.length ≤ 1048576) :
    AC Try.prog 31 [.slice ca 1 co bs.length] H fun v h => ∃ rs d, v = .slice d 1 0 rs.length ∧ RepsB rs ∧ MadeRR H rs d 0 h := by
  refine AC_of_vc (T := tab) (D := D31) (esc := []) tab_ok mixed Try.func31 rfl rfl rfl ?_
  conv => whnf
  refine AC.mono (drawTotalIn_ok H ca co bs hs hl) ?_
  rintro v h ⟨rs, k, d, rfl, h1, _, h2⟩
  conv => whnf
  exact ⟨rs, d, rfl, h1, h2⟩

set_option maxRecDepth 100000 in
theorem drawMergeRow_ok (H : Hp) (ca : Addr) (co : Nat) (bs : List UInt8) (hs : Sl H ca 1 co (bs.map byteCell)) (hl : bs.length ≤ 1048576) :
    AC Try.prog 38 [.slice ca 1 co bs.length] H fun v h => (∃ x y : R, v = .tuple [.agg x.av, .agg y.av] ∧ x.sb ∧ y.sb) ∧ h = H := by
  refine AC.post ?_
  refine AC_of_vc (T := tab) (D := D38) (esc := []) tab_ok mixed Try.func38 rfl rfl rfl ?_
  conv => whnf
  refine AC.mono (l1New_ok H ca co bs hs hl) ?_
  rintro v h ⟨a, p, ha, rfl, rfl, hc⟩
  conv => whnf
  generalize (ca, co, bs) = q at hc ⊢
  refine AC.mono (l7Any_ok _ a q p hc) ?_
  rintro v h ⟨⟨x, rfl, hx⟩, p1, rfl, hc1⟩
  conv => whnf
  rw [Hp.set_set] at hc1 ⊢
  refine AC.mono (l7Any_ok _ a q p1 hc1) ?_
  rintro v h ⟨⟨y, rfl, hy⟩, p2, rfl, hc2⟩
  conv => whnf
  rw [Hp.set_set] at hc2 ⊢
  refine AC.mono (l1Once_ok _ a q p2 3 hc2 (by decide) (by decide)) ?_
  rintro v h ⟨⟨b1, rfl⟩, p3, rfl, hc3⟩
  conv => whnf
  rw [Hp.set_set] at hc3 ⊢
  refine Br.both (fun h1 => ?_) (fun h1 => ?_) <;> conv => whnf
  · refine AC.mono (l1Once_ok _ a q p3 6 hc3 (by decide) (by decide)) ?_
    rintro v h ⟨⟨b2, rfl⟩, p4, rfl, hc4⟩
    conv => whnf
    rw [Hp.set_set] at hc4 ⊢
    refine Br.both (fun h2 => ?_) (fun h2 => ?_) <;> conv => whnf
    · repeat' (first
        | (refine Br.no rfl ?_; conv => whnf)
        | (refine Br.yes rfl ?_; conv => whnf)
        | (refine Two.intro ?_ ?_ <;> conv => whnf)
        | (refine Drawn.intro (by kernel_rfl) ?_; conv => whnf)
        | (refine Br.dec (fun _ => ?_) (fun _ => ?_) <;> conv => whnf)
        | (refine Br.neg (fun _ => ?_) (fun _ => ?_) <;> conv => whnf)
        | (refine Br.both (fun _ => ?_) (fun _ => ?_) <;> conv => whnf))
      exact .sub H (HSub.drop _ ha) (.done ⟨⟨R.zero, { y with key := x.key }, rfl, R.zero_sb, hy.2⟩, rfl⟩)
    · repeat' (first
        | (refine Br.no rfl ?_; conv => whnf)
        | (refine Br.yes rfl ?_; conv => whnf)
        | (refine Two.intro ?_ ?_ <;> conv => whnf)
        | (refine Drawn.intro (by kernel_rfl) ?_; conv => whnf)
        | (refine Br.dec (fun _ => ?_) (fun _ => ?_) <;> conv => whnf)
        | (refine Br.neg (fun _ => ?_) (fun _ => ?_) <;> conv => whnf)
        | (refine Br.both (fun _ => ?_) (fun _ => ?_) <;> conv => whnf))
      exact .sub H (HSub.drop _ ha) (.done ⟨⟨x, { y with key := x.key }, rfl, hx.2, hy.2⟩, rfl⟩)
  · refine AC.mono (l1Once_ok _ a q p3 6 hc3 (by decide) (by decide)) ?_
    rintro v h ⟨⟨b2, rfl⟩, p4, rfl, hc4⟩
    conv => whnf
    rw [Hp.set_set] at hc4 ⊢
    refine Br.both (fun h2 => ?_) (fun h2 => ?_) <;> conv => whnf
    · repeat' (first
        | (refine Br.no rfl ?_; conv => whnf)
        | (refine Br.yes rfl ?_; conv => whnf)
        | (refine Two.intro ?_ ?_ <;> conv => whnf)
        | (refine Drawn.intro (by kernel_rfl) ?_; conv => whnf)
        | (refine Br.dec (fun _ => ?_) (fun _ => ?_) <;> conv => whnf)
        | (refine Br.neg (fun _ => ?_) (fun _ => ?_) <;> conv => whnf)
        | (refine Br.both (fun _ => ?_) (fun _ => ?_) <;> conv => whnf))
      exact .sub H (HSub.drop _ ha) (.done ⟨⟨R.zero, y, rfl, R.zero_sb, hy.2⟩, rfl⟩)
    · repeat' (first
        | (refine Br.no rfl ?_; conv => whnf)
        | (refine Br.yes rfl ?_; conv => whnf)
        | (refine Two.intro ?_ ?_ <;> conv => whnf)
        | (refine Drawn.intro (by kernel_rfl) ?_; conv => whnf)
        | (refine Br.dec (fun _ => ?_) (fun _ => ?_) <;> conv => whnf)
        | (refine Br.neg (fun _ => ?_) (fun _ => ?_) <;> conv => whnf)
        | (refine Br.both (fun _ => ?_) (fun _ => ?_) <;> conv => whnf))
      exact .sub H (HSub.drop _ ha) (.done ⟨⟨x, y, rfl, hx.2, hy.2⟩, rfl⟩)

end Go.Proofs.Ytdbedlomiedncaa.Vc
