/- Rows, and the functions that look at one of them. -/
import Derived.Test.YtdbedlomiedncaaSch
namespace Go.Proofs.Ytdbedlomiedncaa.Vc
open Go

structure R where
  key : List UInt8
  kind : Int
  sum : Int
  set : Bool
  last : Int
  n : Int
  min : Int
  max : Int
  total : Int
  dropped : Int

def R.av (r : R) : List AV := [.str r.key, .int .i64 r.kind, .int .i64 r.sum, .bool r.set, .int .i64 r.last, .int .i64 r.n, .int .i64 r.min, .int .i64 r.max, .int .i64 r.total, .int .i64 r.dropped]

set_option maxRecDepth 100000 in
theorem within_ok (H : Hp) (x a b : Int) : AC Try.prog 63 [.int .i64 x, .int .i64 a, .int .i64 b] H fun v h => v = .bool (decide (a ≤ x) && decide (x ≤ b)) ∧ h = H := by
  refine AC_of_vc (T := tab) (D := D63) (esc := []) tab_ok mixed Try.func63 rfl rfl rfl ?_
  conv => whnf
  refine Br.both (fun h1 => ?_) (fun h1 => ?_) <;> conv => whnf
  all_goals (rw [h1]; exact ⟨by simp, rfl⟩)

set_option maxRecDepth 100000 in
theorem l1In_ok (H : Hp) (x a b : Int) : AC Try.prog 57 [.int .i64 x, .int .i64 a, .int .i64 b] H fun v h => v = .bool (decide (a ≤ x) && decide (x ≤ b)) ∧ h = H := by
  refine AC_of_vc (T := tab) (D := D57) (esc := []) tab_ok mixed Try.func57 rfl rfl rfl ?_
  conv => whnf
  refine Br.both (fun h1 => ?_) (fun h1 => ?_) <;> conv => whnf
  all_goals (rw [h1]; exact ⟨by simp, rfl⟩)

def R.rank (r : R) : Int := if r.kind = 1 then r.sum else if r.kind = 2 then r.last else if r.kind = 3 then r.total else 0

set_option maxRecDepth 100000 in
theorem specRank_ok (H : Hp) (r : R) : AC Try.prog 56 [.agg r.av] H fun v h => v = .int .i64 r.rank ∧ h = H := by
  refine AC_of_vc (T := tab) (D := D56) (esc := []) tab_ok mixed Try.func56 rfl rfl rfl ?_
  conv => whnf
  repeat' (refine Br.both (fun _ => ?_) (fun _ => ?_) <;> conv => whnf)
  all_goals (refine ⟨?_, rfl⟩; simp_all [R.rank])

set_option maxRecDepth 100000 in
theorem implRank_ok (H : Hp) (r : R) : AC Try.prog 29 [.agg r.av] H fun v h => v = .int .i64 r.rank ∧ h = H := by
  refine AC_of_vc (T := tab) (D := D29) (esc := []) tab_ok mixed Try.func29 rfl rfl rfl ?_
  conv => whnf
  repeat' (refine Br.both (fun _ => ?_) (fun _ => ?_) <;> conv => whnf)
  all_goals (refine ⟨?_, rfl⟩; simp_all [R.rank])

set_option maxRecDepth 100000 in
theorem eqRow_ok (H : Hp) (r s : R) : AC Try.prog 64 [.agg r.av, .agg s.av] H fun v h => (∃ b, v = .bool b ∧ (b = true ↔ r = s)) ∧ h = H := by
  refine AC_of_vc (T := tab) (D := D64) (esc := []) tab_ok mixed Try.func64 rfl rfl rfl ?_
  conv => whnf
  repeat' (refine Br.both (fun _ => ?_) (fun _ => ?_) <;> conv => whnf)
  all_goals (refine ⟨⟨_, rfl, ?_⟩, rfl⟩; cases r; cases s; simp_all)

set_option maxRecDepth 100000 in
theorem toRow_ok (H : Hp) (r : R) : AC Try.prog 58 [.agg r.av] H fun v h => v = .agg r.av ∧ h = H := by
  refine AC_of_vc (T := tab) (D := D58) (esc := []) tab_ok mixed Try.func58 rfl rfl rfl ?_
  conv => whnf
  exact ⟨rfl, rfl⟩

set_option maxRecDepth 100000 in
theorem szRow_ok (H : Hp) (r : R) (x : Int) (hx : 0 ≤ x) (hx' : x ≤ 1048576) (hk : r.key.length ≤ 9223372036854775807) : AC Try.prog 55 [.agg r.av, .int .i64 x] H fun v h => v = .int .i64 (if x < r.key.length then -1 else x - r.key.length) ∧ h = H := by
  refine AC_of_vc (T := tab) (D := D55) (esc := []) tab_ok mixed Try.func55 rfl rfl rfl ?_
  conv => whnf
  refine Br.both (fun h => ?_) (fun h => ?_) <;> conv => whnf
  · have h := of_decide_eq_true h
    simp only [wrapK] at h
    refine ⟨?_, rfl⟩
    rw [if_pos (by omega)]
  · have h := of_decide_eq_false h
    refine ⟨?_, rfl⟩
    simp only [wrapK] at h ⊢
    rw [if_neg (by omega)]; congr 1; omega

end Go.Proofs.Ytdbedlomiedncaa.Vc
