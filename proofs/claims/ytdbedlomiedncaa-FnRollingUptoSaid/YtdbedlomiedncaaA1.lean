/- Slices of rows: the laws' helpers. -/
import Derived.Test.YtdbedlomiedncaaA0
namespace Go.Proofs.Ytdbedlomiedncaa.Vc
open Go

theorem wrap_id {n : Int} (h1 : -9223372036854775808 ≤ n) (h2 : n ≤ 9223372036854775807) : wrapK .i64 n = n := by
  simp only [wrapK]; omega

theorem row_at {α : Type} {es : List (List AV)} {o n : Nat} {x : List α} {f : α → List AV} (h : (es.drop o).take n = x.map f) {i : Nat} {y : α} (hi : x[i]? = some y) : es[o + i]? = some (f y) := by
  have hl : i < n := by
    rcases Nat.lt_or_ge i n with h' | h'
    · exact h'
    · have h1 := congrArg List.length h
      have h2 := (List.getElem?_eq_some_iff.1 hi).1
      simp at h1; omega
  have := congrArg (fun l => l[i]?) h
  simp only [List.getElem?_take_of_lt hl, List.getElem?_drop, List.getElem?_map, hi] at this
  exact this

set_option maxRecDepth 100000 in
theorem eqRowS_ok (H : Hp) (a b : Addr) (o p : Nat) (ra rb : Row) (x y : List R) (ha : H.get a = some ra) (hb : H.get b = some rb) (ea : ra.e = 10) (eb : rb.e = 10)
    (hx : (ra.es.drop o).take x.length = x.map R.av) (hy : (rb.es.drop p).take y.length = y.map R.av) (hl : x.length ≤ 4611686018427387904) :
    AC Try.prog 14 [.slice a 10 o x.length, .slice b 10 p y.length] H fun v h => (∃ b, v = .bool b ∧ (b = true ↔ x = y)) ∧ h = H := by
  refine AC_of_vc (T := tab) (D := D14) (esc := []) tab_ok mixed Try.func14 rfl rfl rfl ?_
  conv => whnf
  refine Br.both (fun h => ?_) (fun h => ?_) <;> conv => whnf
  · refine ⟨⟨_, rfl, ?_⟩, rfl⟩
    simp at h ⊢
    intro e; subst e; exact h rfl
  · refine LoopVC.intro (fun i : Nat => (⟨Try.f14.ntmps, [(5, .int .i64 (i : Int)), (4, .bool false), (0, .slice a 10 o x.length), (1, .slice b 10 p y.length)], [], H⟩ : St))
      (fun i => i ≤ x.length ∧ x.take i = y.take i) (fun i => x.length - i) (fun i hi K hK => ?_) 0 ⟨by omega, by simp⟩ ⟨rfl, ⟨.inl rfl, .inl rfl, .inl rfl, .inl rfl, trivial⟩, trivial, HSub.refl _⟩
    conv => whnf
    obtain ⟨hi1, hi2⟩ := hi
    have hxy : x.length = y.length := by simp at h; omega
    refine Br.both (fun h => ?_) (fun h => ?_) <;> conv => whnf
    · have h : i < x.length := by have := of_decide_eq_true h; omega
      have ex := List.getElem?_eq_getElem h
      have ey := List.getElem?_eq_getElem (by omega : i < y.length)
      refine Drawn.intro (by kernel_rfl) ?_
      conv => whnf
      refine Idx.nat h ?_
      conv => whnf
      refine Ld.intro ha ea (row_at hx ex) ?_
      conv => whnf
      refine Idx.nat (by omega) ?_
      conv => whnf
      refine Ld.intro hb eb (row_at hy ey) ?_
      conv => whnf
      refine AC.use0 (eqRow_ok H x[i] y[i]) ?_
      rintro v ⟨c, rfl, hc⟩
      conv => whnf
      refine Br.both (fun h' => ?_) (fun h' => ?_) <;> conv => whnf
      · refine ⟨⟨_, rfl, ?_⟩, rfl⟩
        have hb' : ¬ x[i] = y[i] := fun e => by rw [hc.2 e] at h'; cases h'
        simp only [Bool.false_eq_true, false_iff]
        intro e; subst e; exact hb' rfl
      · have hb' : x[i] = y[i] := hc.1 (by simpa using h')
        rw [wrap_id (n := (i : Int) + 1) (by omega) (by omega)]
        refine hK (i + 1) _ ⟨by omega, ?_⟩ (by omega) ?_
        · rw [List.take_succ_eq_append_getElem h, List.take_succ_eq_append_getElem (by omega), hi2, hb']
        · refine ⟨rfl, ?_, ?_, HSub.refl _⟩ <;> repeat' (first | exact trivial | exact .inl rfl | apply And.intro)
    · have h := of_decide_eq_false h
      refine ⟨⟨_, rfl, ?_⟩, rfl⟩
      have e1 : i = x.length := by omega
      subst e1
      simp only [true_iff]
      rw [List.take_length, hxy, List.take_length] at hi2
      exact hi2

end Go.Proofs.Ytdbedlomiedncaa.Vc
