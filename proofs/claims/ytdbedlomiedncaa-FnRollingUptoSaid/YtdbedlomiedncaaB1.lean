/- Reports that are right, rows found by their keys. -/
import Derived.Test.YtdbedlomiedncaaB0
namespace Go.Proofs.Ytdbedlomiedncaa.Vc
open Go

/-- a slice's elements -/
def Sl (H : Hp) (a : Addr) (e o : Nat) (es : List (List AV)) : Prop := ∃ r, H.get a = some r ∧ r.e = e ∧ (r.es.drop o).take es.length = es ∧ o + es.length ≤ r.es.length

/-- a slice of rows -/
def SlR (H : Hp) (a : Addr) (o : Nat) (x : List R) : Prop := Sl H a 10 o (x.map R.av)

theorem Sl.ld {H : Hp} {a : Addr} {e o i : Nat} {α : Type} {x : List α} {f : α → List AV} {K : List AV → Prop} (h : Sl H a e o (x.map f)) (hi : i < x.length) (k : K (f x[i])) : Ld H a e (o + i) K := by
  obtain ⟨r, h1, h2, h3, _⟩ := h
  rw [List.length_map] at h3
  exact Ld.intro h1 h2 (row_at h3 (List.getElem?_eq_getElem hi)) k

theorem Idx.at {i : Int} {n : Nat} {K : Nat → Prop} (m : Nat) (e : i = m) (h2 : m < n) (k : K m) : Idx i n K := by subst e; exact Idx.nat h2 k

theorem Sl.whole {H : Hp} {a : Addr} {e o : Nat} {es : List (List AV)} {K : List (List AV) → Prop} (h : Sl H a e o es) (k : K es) : Whole H (.slice a e o es.length) K := by
  obtain ⟨r, h1, h2, h3, h4⟩ := h
  exact Whole.intro h1 h2 h4 (by rw [h3]; exact k)

theorem Sl.has {H : Hp} {a : Addr} {e o : Nat} {es : List (List AV)} {K : Row → Prop} (h : Sl H a e o es) (k : ∀ r, H.get a = some r → K r) : Has H a K := by
  obtain ⟨r, h1, _⟩ := h; exact Has.intro h1 (k r h1)

/-- a later key -/
def rise (k l : List UInt8) : Bool := !(isLss l k || l == k)

def RepUp (x : List R) : Prop := ∀ i (h : i < x.length), x[i].ok = true ∧ x[i].quiet = false ∧ (0 < i → rise (x[i - 1]).key x[i].key = true)

open Classical in
noncomputable def repOk (x : List R) : Bool := decide (RepUp x ∧ x.length ≤ 4)

/-- keys of a size that memory bears -/
def KS (x : List R) : Prop := ∀ r ∈ x, r.key.length ≤ 1048576

theorem KS.at {x : List R} (h : KS x) {i : Nat} (hi : i < x.length) : x[i].key.length ≤ 4611686018427387904 := by
  have := h _ (List.getElem_mem hi); omega

def RepTo (x : List R) (n : Nat) : Prop := ∀ i (h : i < x.length), i < n → x[i].ok = true ∧ x[i].quiet = false ∧ (0 < i → rise (x[i - 1]).key x[i].key = true)

theorem RepTo.no {x : List R} {i : Nat} (hi : i < x.length) (h : ¬ (x[i].ok = true ∧ x[i].quiet = false ∧ (0 < i → rise (x[i - 1]).key x[i].key = true))) : repOk x = false := by
  unfold repOk; rw [decide_eq_false_iff_not]; exact fun h' => h (h'.1 i hi)

theorem RepTo.succ {x : List R} {n : Nat} (h : RepTo x n) (hi : n < x.length) (h' : x[n].ok = true ∧ x[n].quiet = false ∧ (0 < n → rise (x[n - 1]).key x[n].key = true)) : RepTo x (n + 1) := fun i h1 h2 => by
  by_cases e : i = n
  · subst e; exact h'
  · exact h i h1 (by omega)

open Classical in
theorem RepTo.done {x : List R} (h : RepTo x x.length) : repOk x = decide ((x.length : Int) ≤ 4) := by
  unfold repOk
  rw [Bool.eq_iff_iff, decide_eq_true_iff, decide_eq_true_iff]
  exact ⟨fun h' => by omega, fun h' => ⟨fun i hi => h i hi hi, by omega⟩⟩

set_option maxRecDepth 100000 in
theorem specReportOk_ok (H : Hp) (a : Addr) (o : Nat) (x : List R) (hx : SlR H a o x) (hk : KS x) (hl : x.length ≤ 4611686018427387904) : AC Try.prog 44 [.slice a 10 o x.length] H fun v h => v = .bool (repOk x) ∧ h = H := by
  refine AC_of_vc (T := tab) (D := D44) (esc := []) tab_ok mixed Try.func44 rfl rfl rfl ?_
  conv => whnf
  refine LoopVC.intro (fun i : Nat => (⟨Try.f44.ntmps, [(3, .int .i64 i), (0, .slice a 10 o x.length)], [], H⟩ : St)) (fun i => i ≤ x.length ∧ RepTo x i) (fun i => x.length - i) (fun i hi K hK => ?_) 0 ⟨by omega, fun _ _ h => by omega⟩ ⟨rfl, by repeat' (first | exact trivial | exact .inl rfl | apply And.intro), by repeat' (first | exact trivial | exact ⟨_, rfl, cle.refl _⟩ | apply And.intro), HSub.refl _⟩
  obtain ⟨hi1, hi2⟩ := hi
  conv => whnf
  refine Br.both (fun h => ?_) (fun h => ?_) <;> conv => whnf
  · have h : i < x.length := by have := of_decide_eq_true h; omega
    refine Drawn.intro (by kernel_rfl) ?_
    conv => whnf
    refine Idx.nat h ?_
    conv => whnf
    refine hx.ld h ?_
    conv => whnf
    refine AC.use1 (specRowOk_ok _ _ (hk.at h)) ?_
    conv => whnf
    repeat' (first
      | (refine Br.no rfl ?_; conv => whnf)
      | (refine Br.yes rfl ?_; conv => whnf)
      | (refine Idx.nat h ?_; conv => whnf)
      | (refine hx.ld h ?_; conv => whnf)
      | (refine AC.use1 (specQuiet_ok _ _) ?_; conv => whnf)
      | (refine Idx.at (i - 1) (by simp (disch := omega) only [wrap_id]; omega) (by omega) ?_; conv => whnf)
      | (refine hx.ld (i := i - 1) (by omega) ?_; conv => whnf)
      | (refine Two.intro ?_ ?_ <;> conv => whnf)
      | (refine Drawn.intro (by kernel_rfl) ?_; conv => whnf)
      | (refine Br.dec (fun _ => ?_) (fun _ => ?_) <;> conv => whnf)
      | (refine Br.neg (fun _ => ?_) (fun _ => ?_) <;> conv => whnf)
      | (refine Br.both (fun _ => ?_) (fun _ => ?_) <;> conv => whnf))
    all_goals first
      | (refine ⟨?_, rfl⟩; rw [RepTo.no h (fun hh => by obtain ⟨q1, q2, q3⟩ := hh; clear hK; first | (have q4 := q3 (by omega); simp_all [rise]; done) | (simp_all; done))])
      | (simp (disch := omega) only [wrap_id]; exact hK (i + 1) _ ⟨h, hi2.succ h (by simp_all [rise])⟩ (by omega) ⟨rfl, by repeat' (first | exact trivial | exact .inl rfl | apply And.intro), by repeat' (first | exact trivial | exact ⟨_, rfl, cle.refl _⟩ | apply And.intro), HSub.refl _⟩)
  · have h := of_decide_eq_false h
    have e : i = x.length := by omega
    subst e
    exact ⟨by rw [hi2.done], rfl⟩

set_option maxRecDepth 100000 in
theorem implReportOk_ok (H : Hp) (a : Addr) (o : Nat) (x : List R) (hx : SlR H a o x) (hk : KS x) (hl : x.length ≤ 4611686018427387904) : AC Try.prog 69 [.slice a 10 o x.length] H fun v h => v = .bool (repOk x) ∧ h = H := by
  refine AC_of_vc (T := tab) (D := D69) (esc := []) tab_ok mixed Try.func69 rfl rfl rfl ?_
  conv => whnf
  refine LoopVC.intro (fun i : Nat => (⟨Try.f69.ntmps, [(7, .int .i64 i), (0, .slice a 10 o x.length), (5, .slice a 10 o x.length), (6, .int .i64 x.length)], [], H⟩ : St)) (fun i => i ≤ x.length ∧ RepTo x i) (fun i => x.length - i) (fun i hi K hK => ?_) 0 ⟨by omega, fun _ _ h => by omega⟩ ⟨rfl, by repeat' (first | exact trivial | exact .inl rfl | apply And.intro), by repeat' (first | exact trivial | exact ⟨_, rfl, cle.refl _⟩ | apply And.intro), HSub.refl _⟩
  obtain ⟨hi1, hi2⟩ := hi
  conv => whnf
  refine Br.dec (fun h => ?_) (fun h => ?_) <;> conv => whnf
  · have h : i < x.length := by omega
    refine Idx.nat h ?_
    conv => whnf
    refine hx.ld h ?_
    conv => whnf
    repeat' (first
      | (refine Br.no rfl ?_; conv => whnf)
      | (refine Br.yes rfl ?_; conv => whnf)
      | (refine AC.use1 (implRowOk_ok _ _ (hk.at h)) ?_; conv => whnf)
      | (refine Idx.nat h ?_; conv => whnf)
      | (refine hx.ld h ?_; conv => whnf)
      | (refine AC.use1 (implQuiet_ok _ _) ?_; conv => whnf)
      | (refine Idx.at (i - 1) (by simp (disch := omega) only [wrap_id]; omega) (by omega) ?_; conv => whnf)
      | (refine hx.ld (i := i - 1) (by omega) ?_; conv => whnf)
      | (refine Two.intro ?_ ?_ <;> conv => whnf)
      | (refine Drawn.intro (by kernel_rfl) ?_; conv => whnf)
      | (refine Br.dec (fun _ => ?_) (fun _ => ?_) <;> conv => whnf)
      | (refine Br.neg (fun _ => ?_) (fun _ => ?_) <;> conv => whnf)
      | (refine Br.both (fun _ => ?_) (fun _ => ?_) <;> conv => whnf))
    all_goals first
      | (refine ⟨?_, rfl⟩; rw [RepTo.no h (fun hh => by obtain ⟨q1, q2, q3⟩ := hh; clear hK; first | (have q4 := q3 (by omega); simp_all [rise]; done) | (simp_all; done))])
      | (simp (disch := omega) only [wrap_id]; exact hK (i + 1) _ ⟨h, hi2.succ h (by simp_all [rise])⟩ (by omega) ⟨rfl, by repeat' (first | exact trivial | exact .inl rfl | apply And.intro), by repeat' (first | exact trivial | exact ⟨_, rfl, cle.refl _⟩ | apply And.intro), HSub.refl _⟩)
  · have e : i = x.length := by omega
    subst e
    exact ⟨by rw [hi2.done], rfl⟩

set_option maxRecDepth 100000 in
theorem sameReport_ok (H : Hp) (a b : Addr) (o p : Nat) (x y : List R) (hx : SlR H a o x) (hy : SlR H b p y) (hl : x.length ≤ 4611686018427387904) : AC Try.prog 30 [.slice a 10 o x.length, .slice b 10 p y.length] H fun v h => v = .bool (decide (x = y)) ∧ h = H := by
  refine AC_of_vc (T := tab) (D := D30) (esc := []) tab_ok mixed Try.func30 rfl rfl rfl ?_
  conv => whnf
  repeat' (first
    | (refine Br.no rfl ?_; conv => whnf)
    | (refine Br.yes rfl ?_; conv => whnf)
    | (refine Two.intro ?_ ?_ <;> conv => whnf)
    | (refine Drawn.intro (by kernel_rfl) ?_; conv => whnf)
    | (refine Br.dec (fun _ => ?_) (fun _ => ?_) <;> conv => whnf)
    | (refine Br.neg (fun _ => ?_) (fun _ => ?_) <;> conv => whnf)
    | (refine Br.both (fun _ => ?_) (fun _ => ?_) <;> conv => whnf))
  · refine ⟨?_, rfl⟩
    have : x ≠ y := fun e => by subst e; simp_all
    simp [this]
  have e : x.length = y.length := by simp_all; omega
  refine LoopVC.intro (fun i : Nat => (⟨Try.f30.ntmps, [(5, .int .i64 i), (0, .slice a 10 o x.length), (1, .slice b 10 p y.length)], [], H⟩ : St)) (fun i => i ≤ x.length ∧ x.take i = y.take i) (fun i => x.length - i) (fun i hi K hK => ?_) 0 ⟨by omega, rfl⟩ ⟨rfl, by repeat' (first | exact trivial | exact .inl rfl | apply And.intro), by repeat' (first | exact trivial | exact ⟨_, rfl, cle.refl _⟩ | apply And.intro), HSub.refl _⟩
  obtain ⟨hi1, hi2⟩ := hi
  conv => whnf
  refine Br.dec (fun h => ?_) (fun h => ?_) <;> conv => whnf
  · have h : i < x.length := by omega
    have h2 : i < y.length := by omega
    repeat' (first
      | (refine Br.no rfl ?_; conv => whnf)
      | (refine Br.yes rfl ?_; conv => whnf)
      | (refine Idx.nat h ?_; conv => whnf)
      | (refine hx.ld h ?_; conv => whnf)
      | (refine Idx.nat h2 ?_; conv => whnf)
      | (refine hy.ld h2 ?_; conv => whnf)
      | (refine Two.intro ?_ ?_ <;> conv => whnf)
      | (refine Drawn.intro (by kernel_rfl) ?_; conv => whnf)
      | (refine Br.dec (fun _ => ?_) (fun _ => ?_) <;> conv => whnf)
      | (refine Br.neg (fun _ => ?_) (fun _ => ?_) <;> conv => whnf)
      | (refine Br.both (fun _ => ?_) (fun _ => ?_) <;> conv => whnf))
    · refine ⟨?_, rfl⟩
      have : x ≠ y := fun e => by subst e; cases hr : x[i]; simp_all
      simp [this]
    · simp (disch := omega) only [wrap_id]
      refine hK (i + 1) _ ⟨h, ?_⟩ (by omega) ⟨rfl, by repeat' (first | exact trivial | exact .inl rfl | apply And.intro), by repeat' (first | exact trivial | exact ⟨_, rfl, cle.refl _⟩ | apply And.intro), HSub.refl _⟩
      have : x[i] = y[i] := by
        cases hr : x[i]; cases hs : y[i]; simp_all
      rw [List.take_succ_eq_append_getElem h, List.take_succ_eq_append_getElem h2, hi2, this]
  · have e1 : i = x.length := by omega
    subst e1
    refine ⟨?_, rfl⟩
    rw [List.take_length, e, List.take_length] at hi2
    simp [hi2]

end Go.Proofs.Ytdbedlomiedncaa.Vc
