/- The laws' helpers over slices of slices of rows, and over stores. -/
import Derived.Test.YtdbedlomiedncaaB4
namespace Go.Proofs.Ytdbedlomiedncaa.Vc
open Go

theorem eqRowS' {H : Hp} {a b : Addr} {o p : Nat} {x y : List R} (hx : SlR H a o x) (hy : SlR H b p y) (hl : x.length ≤ 4611686018427387904) :
    AC Try.prog 14 [.slice a 10 o x.length, .slice b 10 p y.length] H fun v h => v = .bool (decide (x = y)) ∧ h = H := by
  obtain ⟨ra, h1, h2, h3, _⟩ := hx
  obtain ⟨rb, h4, h5, h6, _⟩ := hy
  refine AC.mono (eqRowS_ok H a b o p ra rb x y h1 h4 h2 h5 (by simpa using h3) (by simpa using h6) hl) ?_
  rintro v h ⟨⟨c, rfl, hc⟩, rfl⟩
  refine ⟨congrArg AV.bool ?_, rfl⟩
  rw [Bool.eq_iff_iff, hc, decide_eq_true_iff]

theorem toRowS' {H : Hp} {a : Addr} {o : Nat} {x : List R} (hx : SlR H a o x) (hl : x.length ≤ 1048576) : AC Try.prog 12 [.slice a 10 o x.length] H fun v h => ∃ b, H.get b = none ∧ v = .slice b 10 0 x.length ∧ h = H.set b ⟨10, false, x.map R.av⟩ := by
  obtain ⟨ra, h1, h2, h3, _⟩ := hx
  refine AC.mono (toRowS_ok H a o ra x h1 h2 (by simpa using h3) hl) ?_
  rintro v h ⟨b, hb, rfl, rfl⟩
  exact ⟨b, hb, by rw [List.length_map], rfl⟩

set_option maxRecDepth 100000 in
theorem eqRowSS_ok (H : Hp) (a b : Addr) (o p : Nat) (xs ys : List (List R)) (hx : SlRR H a o xs) (hy : SlRR H b p ys) (hk : KSS xs) :
    AC Try.prog 70 [.slice a 1 o xs.length, .slice b 1 p ys.length] H fun v h => v = .bool (decide (xs = ys)) ∧ h = H := by
  refine AC_of_vc (T := tab) (D := D70) (esc := []) tab_ok mixed Try.func70 rfl rfl rfl ?_
  conv => whnf
  have hk1 := hk.1
  repeat' (first
    | (refine Br.no rfl ?_; conv => whnf)
    | (refine Br.yes rfl ?_; conv => whnf)
    | (refine Two.intro ?_ ?_ <;> conv => whnf)
    | (refine Drawn.intro (by kernel_rfl) ?_; conv => whnf)
    | (refine Br.dec (fun _ => ?_) (fun _ => ?_) <;> conv => whnf)
    | (refine Br.neg (fun _ => ?_) (fun _ => ?_) <;> conv => whnf)
    | (refine Br.both (fun _ => ?_) (fun _ => ?_) <;> conv => whnf))
  · refine ⟨?_, rfl⟩
    have : xs ≠ ys := fun e => by subst e; simp_all
    simp [this]
  have e : xs.length = ys.length := by simp_all; omega
  refine LoopVC.intro (fun i : Nat => (⟨Try.f70.ntmps, [(5, .int .i64 i), (0, .slice a 1 o xs.length), (1, .slice b 1 p ys.length)], [], H⟩ : St)) (fun i => i ≤ xs.length ∧ xs.take i = ys.take i) (fun i => xs.length - i) (fun i hi K hK => ?_) 0 ⟨by omega, rfl⟩ ⟨rfl, by repeat' (first | exact trivial | exact .inl rfl | apply And.intro), by repeat' (first | exact trivial | exact ⟨_, rfl, cle.refl _⟩ | apply And.intro), HSub.refl _⟩
  obtain ⟨hi1, hi2⟩ := hi
  conv => whnf
  refine Br.dec (fun h => ?_) (fun h => ?_) <;> conv => whnf
  · have h : i < xs.length := by omega
    have h2 : i < ys.length := by omega
    refine Drawn.intro (by kernel_rfl) ?_
    conv => whnf
    refine Idx.nat h ?_
    conv => whnf
    refine hx.ld h fun b1 p1 hb1 => ?_
    conv => whnf
    refine Idx.nat h2 ?_
    conv => whnf
    refine hy.ld h2 fun b2 p2 hb2 => ?_
    conv => whnf
    refine AC.use1 (eqRowS' hb1 hb2 (hk.at h).2) ?_
    conv => whnf
    repeat' (first
      | (refine Br.no rfl ?_; conv => whnf)
      | (refine Br.yes rfl ?_; conv => whnf)
      | (refine Two.intro ?_ ?_ <;> conv => whnf)
      | (refine Drawn.intro (by kernel_rfl) ?_; conv => whnf)
      | (refine Br.dec (fun _ => ?_) (fun _ => ?_) <;> conv => whnf)
      | (refine Br.neg (fun _ => ?_) (fun _ => ?_) <;> conv => whnf)
      | (refine Br.both (fun _ => ?_) (fun _ => ?_) <;> conv => whnf))
    · refine ⟨?_, rfl⟩
      have : xs ≠ ys := fun e => by subst e; simp_all
      simp [this]
    · simp (disch := omega) only [wrap_id]
      refine hK (i + 1) _ ⟨h, ?_⟩ (by omega) ⟨rfl, by repeat' (first | exact trivial | exact .inl rfl | apply And.intro), by repeat' (first | exact trivial | exact ⟨_, rfl, cle.refl _⟩ | apply And.intro), HSub.refl _⟩
      have : xs[i] = ys[i] := by simp_all
      rw [List.take_succ_eq_append_getElem h, List.take_succ_eq_append_getElem h2, hi2, this]
  · have e1 : i = xs.length := by omega
    subst e1
    refine ⟨?_, rfl⟩
    rw [List.take_length, e, List.take_length] at hi2
    simp [hi2]

/-- what a law counts of rows -/
def szR (x : List R) : Nat := x.length + (x.map fun r => r.key.length).sum

set_option maxRecDepth 100000 in
theorem szRowSS_ok (H : Hp) (a : Addr) (o : Nat) (xs : List (List R)) (left : Int) (hx : SlRR H a o xs) (hk : KSS xs) (hl : 0 ≤ left ∧ left ≤ 1048576) :
    AC Try.prog 66 [.slice a 1 o xs.length, .int .i64 left] H fun v h => (∃ k : Int, v = .int .i64 k ∧ k ≤ 1048576 ∧ (0 ≤ k → xs.length + (xs.map szR).sum + k = left)) ∧ h = H := by
  refine AC_of_vc (T := tab) (D := D66) (esc := []) tab_ok mixed Try.func66 rfl rfl rfl ?_
  conv => whnf
  have hk1 := hk.1
  have e0 := wrap_id (n := left - (xs.length : Int)) (by omega) (by omega)
  rw [e0]
  refine Br.dec (fun h => ?_) (fun h => ?_) <;> conv => whnf
  · exact ⟨⟨_, rfl, by omega, fun h => by omega⟩, rfl⟩
  refine LoopVC.intro (fun p : Nat × Int => (⟨Try.f66.ntmps, [(5, .int .i64 p.1), (1, .int .i64 p.2), (0, .slice a 1 o xs.length)], [], H⟩ : St)) (fun p => p.1 ≤ xs.length ∧ 0 ≤ p.2 ∧ p.2 ≤ 1048576 ∧ xs.length + ((xs.take p.1).map szR).sum + p.2 = left) (fun p => xs.length - p.1) (fun p hi K hK => ?_) (0, left - xs.length) ⟨by simp, by simp; omega, by simp; omega, by simp; omega⟩ ⟨rfl, by repeat' (first | exact trivial | exact .inl rfl | apply And.intro), by repeat' (first | exact trivial | exact ⟨_, rfl, cle.refl _⟩ | apply And.intro), HSub.refl _⟩
  obtain ⟨i, l⟩ := p
  obtain ⟨hi1, hi2, hi3, hi4⟩ := hi
  simp only at hi1 hi2 hi3 hi4 ⊢
  conv => whnf
  refine Br.dec (fun h => ?_) (fun h => ?_) <;> conv => whnf
  · have h : i < xs.length := by omega
    refine Idx.nat h ?_
    conv => whnf
    refine hx.ld h fun b1 p1 hb1 => ?_
    conv => whnf
    obtain ⟨rb, g1, g2, g3, _⟩ := hb1
    have hsz : ((xs.take (i + 1)).map szR).sum = ((xs.take i).map szR).sum + szR xs[i] := by
      rw [List.take_succ_eq_append_getElem h, List.map_append, List.sum_append]; rfl
    refine AC.use0 (szRowS_ok H b1 p1 rb xs[i] l g1 g2 (by simpa using g3) (hk.2 _ (List.getElem_mem h)).2 (hk.2 _ (List.getElem_mem h)).1 ⟨hi2, hi3⟩) ?_
    rintro v ⟨k, rfl, hk'⟩
    conv => whnf
    refine Br.dec (fun h' => ?_) (fun h' => ?_) <;> conv => whnf
    · exact ⟨⟨_, rfl, by omega, fun h => by omega⟩, rfl⟩
    · have := hk' (by omega)
      simp (disch := omega) only [wrap_id]
      refine hK (i + 1, k) _ ⟨h, by omega, by simp only; omega, ?_⟩ (by simp only; omega) ⟨rfl, by repeat' (first | exact trivial | exact .inl rfl | apply And.intro), by repeat' (first | exact trivial | exact ⟨_, rfl, cle.refl _⟩ | apply And.intro), HSub.refl _⟩
      simp only
      rw [hsz, szR]; omega
  · have e1 : i = xs.length := by omega
    subst e1
    rw [List.take_length] at hi4
    exact ⟨⟨_, rfl, hi3, fun _ => by omega⟩, rfl⟩

end Go.Proofs.Ytdbedlomiedncaa.Vc
