/- Rows together; rows by their keys; totals. -/
import Derived.Test.YtdbedlomiedncaaB1
namespace Go.Proofs.Ytdbedlomiedncaa.Vc
open Go

def R.zero : R := ⟨[], 0, 0, false, 0, 0, 0, 0, 0, 0⟩

def R.isZero (a : R) : Bool := a.key == [] && (a.kind == 0 && (a.sum == 0 && (a.set == false && (a.last == 0 && (a.n == 0 && (a.min == 0 && (a.max == 0 && (a.total == 0 && (a.dropped == 0 && true)))))))))

/-- a row, and a later one of its key and kind together -/
def R.merge (a b : R) : R := if a.isZero = true then b else if ¬ a.key = b.key then a else if ¬ a.kind = b.kind then a else
  { key := a.key, kind := a.kind, sum := (a.sum + b.sum) % 281474976710656, set := a.set || b.set, last := if b.set = true then b.last else a.last,
    n := wrapK .i64 (a.n + b.n), min := if a.n = 0 then b.min else if 0 < b.n then Min.min a.min b.min else a.min, max := if a.n = 0 then b.max else if 0 < b.n then Max.max a.max b.max else a.max,
    total := wrapK .i64 (a.total + b.total), dropped := wrapK .i64 (a.dropped + b.dropped) }

/-- a sum that a row may bear -/
def R.sb (r : R) : Prop := -281474976710656 ≤ r.sum ∧ r.sum ≤ 281474976710656

theorem R.zero_iff (r : R) : r.isZero = true ↔ r = R.zero := by
  cases r; simp [R.zero, R.isZero]

theorem tmod_w (x : Int) : (0 ≤ x ∧ x.tmod 281474976710656 = x % 281474976710656) ∨ (x < 0 ∧ x.tmod 281474976710656 = -((-x) % 281474976710656)) := by
  rcases Int.lt_or_le x 0 with h | h
  · right
    refine ⟨h, ?_⟩
    have e : x = -(-x) := by omega
    rw [e, Int.neg_tmod, Int.neg_neg, Int.tmod_eq_emod_of_nonneg (by omega)]
  · exact .inl ⟨h, Int.tmod_eq_emod_of_nonneg h⟩

/-- the word's remainder, by Go's '%' -/
theorem mod_w (x : Int) : (wrapK .i64 (x.tmod 281474976710656 + 281474976710656)).tmod 281474976710656 = x % 281474976710656 := by
  have h : -281474976710656 < x.tmod 281474976710656 ∧ x.tmod 281474976710656 < 281474976710656 ∧ x.tmod 281474976710656 % 281474976710656 = x % 281474976710656 := by
    rcases tmod_w x with ⟨h, e⟩ | ⟨h, e⟩ <;> rw [e] <;> omega
  rw [wrap_id (by omega) (by omega), Int.tmod_eq_emod_of_nonneg (by omega)]
  omega

set_option maxRecDepth 100000 in
theorem l2Mod_ok (H : Hp) (x : Int) : AC Try.prog 87 [.int .i64 x] H fun v h => v = .int .i64 (x % 281474976710656) ∧ h = H := by
  refine AC_of_vc (T := tab) (D := D87) (esc := []) tab_ok mixed Try.func87 rfl rfl rfl ?_
  conv => whnf
  refine Must.intro (by decide) ?_
  conv => whnf
  refine Must.intro (by decide) ?_
  conv => whnf
  exact ⟨by rw [mod_w], rfl⟩

set_option maxRecDepth 100000 in
theorem specMerge_ok (H : Hp) (a b : R) (ha : a.sb) (hb : b.sb) : AC Try.prog 41 [.agg a.av, .agg b.av] H fun v h => v = .agg (a.merge b).av ∧ h = H := by
  refine AC_of_vc (T := tab) (D := D41) (esc := []) tab_ok mixed Try.func41 rfl rfl rfl ?_
  conv => whnf
  obtain ⟨a1, a2⟩ := ha
  obtain ⟨b1, b2⟩ := hb
  change Br a.isZero _ _
  refine Br.both (fun hz => ?_) (fun hz => ?_) <;> conv => whnf
  · exact ⟨by simp [R.merge, hz, R.av], rfl⟩
  repeat' (first
    | (refine Br.no rfl ?_; conv => whnf)
    | (refine Br.yes rfl ?_; conv => whnf)
    | (refine AC.use1 (l2Mod_ok _ _) ?_; conv => whnf)
    | (refine Two.intro ?_ ?_ <;> conv => whnf)
    | (refine Drawn.intro (by kernel_rfl) ?_; conv => whnf)
    | (refine Br.dec (fun _ => ?_) (fun _ => ?_) <;> conv => whnf)
    | (refine Br.neg (fun _ => ?_) (fun _ => ?_) <;> conv => whnf)
    | (refine Br.both (fun _ => ?_) (fun _ => ?_) <;> conv => whnf))
  all_goals refine ⟨?_, rfl⟩
  all_goals (simp_all [R.merge, R.av] <;> (try simp (disch := omega) only [wrap_id]) <;> omega)

set_option maxRecDepth 100000 in
theorem implMerge_ok (H : Hp) (a b : R) (ha : a.sb) (hb : b.sb) : AC Try.prog 39 [.agg a.av, .agg b.av] H fun v h => v = .agg (a.merge b).av ∧ h = H := by
  refine AC_of_vc (T := tab) (D := D39) (esc := []) tab_ok mixed Try.func39 rfl rfl rfl ?_
  conv => whnf
  obtain ⟨a1, a2⟩ := ha
  obtain ⟨b1, b2⟩ := hb
  change Br a.isZero _ _
  refine Br.both (fun hz => ?_) (fun hz => ?_) <;> conv => whnf
  · exact ⟨by simp [R.merge, hz, R.av], rfl⟩
  repeat' (first
    | (refine Br.no rfl ?_; conv => whnf)
    | (refine Br.yes rfl ?_; conv => whnf)
    | (rw [mod_w])
    | (refine Must.intro (by decide) ?_; conv => whnf)
    | (refine Two.intro ?_ ?_ <;> conv => whnf)
    | (refine Drawn.intro (by kernel_rfl) ?_; conv => whnf)
    | (refine Br.dec (fun _ => ?_) (fun _ => ?_) <;> conv => whnf)
    | (refine Br.neg (fun _ => ?_) (fun _ => ?_) <;> conv => whnf)
    | (refine Br.both (fun _ => ?_) (fun _ => ?_) <;> conv => whnf))
  all_goals refine ⟨?_, rfl⟩
  all_goals (simp_all [R.merge, R.av] <;> (try simp (disch := omega) only [wrap_id]) <;> first | omega | exact ⟨trivial, fun h => by omega, fun h => by omega⟩)

end Go.Proofs.Ytdbedlomiedncaa.Vc
