/- What FnStores and FnRolling draw; windows, series and moving sums. -/
import Derived.Test.YtdbedlomiedncaaD4
namespace Go.Proofs.Ytdbedlomiedncaa.Vc
open Go

set_option maxRecDepth 100000 in
theorem drawPush_ok (H : Hp) (ca : Addr) (co : Nat) (bs : List UInt8) (hs : Sl H ca 1 co (bs.map byteCell)) (hl : bs.length ≤ 1048576) :
    AC Try.prog 42 [.slice ca 1 co bs.length] H fun v h => ∃ c f d o xs e z, v = .tuple [stAV c f d o xs.length, .slice e 10 0 z.length] ∧ RepsB xs ∧ RepB z ∧ SlRR h d o xs ∧ SlR h e 0 z ∧ H.le h := by
  refine AC_of_vc (T := tab) (D := D42) (esc := []) tab_ok mixed Try.func42 rfl rfl rfl ?_
  conv => whnf
  refine AC.mono (l1New_ok H ca co bs hs hl) ?_
  rintro v h ⟨a, p, ha, rfl, rfl, hc⟩
  conv => whnf
  generalize (ca, co, bs) = q at hc ⊢
  refine AC.mono (l29Store_ok _ a q p hc) ?_
  rintro v h2 ⟨c, f, xs, d, o, p2, rfl, hxs, hc2, hm2⟩
  rw [Hp.set_set] at hm2
  conv => whnf
  refine Drawn.intro (by kernel_rfl) ?_
  conv => whnf
  refine AC.mono (l7Report_ok h2 a q p2 hc2) ?_
  rintro v h3 ⟨x, hxb, e1, p3, he1, rfl, hh3, hc3⟩
  conv => whnf
  obtain ⟨hm3, hn3⟩ := hm2.cur (z := x) (p' := p3) he1
  rw [← hh3] at hm3
  obtain ⟨N, hO, hN, hD, hle⟩ := hm3
  exact ⟨c, f, d, o, xs, e1, x, rfl, hxs, hxb, hO.sl hN, by rw [hh3]; exact SlR.new, Hp.le_trans (Hp.le_set _ ha) hle⟩

set_option maxRecDepth 100000 in
theorem drawLast_ok (H : Hp) (ca : Addr) (co : Nat) (bs : List UInt8) (hs : Sl H ca 1 co (bs.map byteCell)) (hl : bs.length ≤ 1048576) :
    AC Try.prog 50 [.slice ca 1 co bs.length] H fun v h => ∃ c f d o xs n, v = .tuple [stAV c f d o xs.length, .int .i64 n] ∧ RepsB xs ∧ SlRR h d o xs ∧ H.le h := by
  refine AC_of_vc (T := tab) (D := D50) (esc := []) tab_ok mixed Try.func50 rfl rfl rfl ?_
  conv => whnf
  refine AC.mono (l1New_ok H ca co bs hs hl) ?_
  rintro v h ⟨a, p, ha, rfl, rfl, hc⟩
  conv => whnf
  generalize (ca, co, bs) = q at hc ⊢
  refine AC.mono (l29Store_ok _ a q p hc) ?_
  rintro v h2 ⟨c, f, xs, d, o, p2, rfl, hxs, hc2, hm2⟩
  rw [Hp.set_set] at hm2
  conv => whnf
  refine Drawn.intro (by kernel_rfl) ?_
  conv => whnf
  have hlen := hxs.len
  have e : wrapK .i64 ((xs.length : Int) + 2) = ((xs.length + 2 : Nat) : Int) := by rw [wrap_id (by omega) (by omega)]; omega
  rw [e]
  refine AC.mono (l1Below_ok h2 a q p2 (xs.length + 2) hc2 (by omega) (by omega)) ?_
  rintro v h3 ⟨⟨k, rfl, hk⟩, p3, rfl, hc3⟩
  conv => whnf
  obtain ⟨N, hO, hN, hD, hle⟩ := hm2.cur0 (p' := p3)
  exact ⟨c, f, d, o, xs, _, rfl, hxs, hO.sl hN, Hp.le_trans (Hp.le_set _ ha) hle⟩

/-- the report of a number -/
noncomputable def windowOf (c f : Int) (xs : List (List R)) (i : Int) : List R × Bool := if storeOk c f xs = true ∧ f ≤ i ∧ i < f + xs.length then (xs.getD (i - f).toNat [], true) else ([], false)

def MadeW (H : Hp) (z : List R × Bool) (v : AV) (h : Hp) : Prop := ∃ c, H.get c = none ∧ v = .tuple [.slice c 10 0 z.1.length, .bool z.2] ∧ h = H.set c ⟨10, false, z.1.map R.av⟩

set_option maxRecDepth 100000 in
theorem implWindow_ok (H : Hp) (c f : Int) (a : Addr) (o : Nat) (xs : List (List R)) (i : Int) (hx : SlRR H a o xs) (hk : KSS xs) :
    AC Try.prog 46 [stAV c f a o xs.length, .int .i64 i] H (MadeW H (windowOf c f xs i)) := by
  refine AC_of_vc (T := tab) (D := D46) (esc := []) tab_ok mixed Try.func46 rfl rfl rfl ?_
  conv => whnf
  refine AC.use1 (implStoreOk_ok H c f a o xs hx hk) ?_
  conv => whnf
  have hk1 := hk.1
  refine Br.both (fun hok => ?_) (fun hok => ?_) <;> conv => whnf
  · repeat' (first
      | (refine Br.no rfl ?_; conv => whnf)
      | (refine Br.yes rfl ?_; conv => whnf)
      | (refine Two.intro ?_ ?_ <;> conv => whnf)
      | (refine Drawn.intro (by kernel_rfl) ?_; conv => whnf)
      | (refine Br.dec (fun _ => ?_) (fun _ => ?_) <;> conv => whnf)
      | (refine Br.neg (fun _ => ?_) (fun _ => ?_) <;> conv => whnf)
      | (refine Br.both (fun _ => ?_) (fun _ => ?_) <;> conv => whnf))
    refine New.intro fun d hd => ?_
    conv => whnf
    have e : windowOf c f xs i = ([], false) := by unfold windowOf; rw [if_neg (by simp_all)]
    rw [e]; exact ⟨d, hd, rfl, rfl⟩
  · have hok : storeOk c f xs = true := by simpa using hok
    have hcf : 1 ≤ c ∧ c ≤ 5 ∧ 0 ≤ f ∧ f ≤ 1000000 ∧ (xs.length : Int) ≤ c := by
      have := hok; simp [storeOk, inB] at this; omega
    simp (disch := omega) only [wrap_id]
    refine AC.use1 (within_ok _ _ _ _) ?_
    conv => whnf
    refine Br.both (fun hin => ?_) (fun hin => ?_) <;> conv => whnf
    · have hin : ¬ (f ≤ i ∧ i < f + xs.length) := by simp at hin; omega
      refine New.intro fun d hd => ?_
      conv => whnf
      have e : windowOf c f xs i = ([], false) := by unfold windowOf; rw [if_neg (fun h => hin h.2)]
      rw [e]; exact ⟨d, hd, rfl, rfl⟩
    · have hin : f ≤ i ∧ i < f + xs.length := by simp at hin; omega
      simp (disch := omega) only [wrap_id]
      have hj : (i - f).toNat < xs.length := by omega
      refine Idx.at (i - f).toNat (by omega) hj ?_
      conv => whnf
      refine hx.ld hj fun b p hb => ?_
      conv => whnf
      have e : windowOf c f xs i = (xs[(i - f).toNat], true) := by
        unfold windowOf; rw [if_pos ⟨hok, hin⟩, List.getD_eq_getElem?_getD, List.getElem?_eq_getElem hj]; rfl
      refine AC.mono (clone_ok H b p _ hb (hk.2 _ (List.getElem_mem hj)).2) ?_
      rintro v h ⟨d, hd, rfl, rfl⟩
      conv => whnf
      rw [e]; exact ⟨d, hd, rfl, rfl⟩

end Go.Proofs.Ytdbedlomiedncaa.Vc
