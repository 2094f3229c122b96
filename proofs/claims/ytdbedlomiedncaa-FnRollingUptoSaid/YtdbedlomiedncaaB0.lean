/- Rows that are right: keys, rows, quiet rows, by the program and by the reference. -/
import Derived.Test.YtdbedlomiedncaaA1
namespace Go.Proofs.Ytdbedlomiedncaa.Vc
open Go

deriving instance DecidableEq for R

def inB (x a b : Int) : Bool := decide (a ≤ x) && decide (x ≤ b)

/-- a byte that may stand in a key -/
def keyByte (b : Int) : Bool := inB b 97 122 || inB b 65 90 || inB b 48 57 || b == 95

def keyOk (s : List UInt8) : Bool := s.all (fun b => keyByte b.toNat) && inB s.length 1 4

set_option maxRecDepth 100000 in
theorem isWord_ok (H : Hp) (x : Int) : AC Try.prog 114 [.int .i64 x] H fun v h => v = .bool (inB x 0 281474976710655) ∧ h = H := by
  refine AC_of_vc (T := tab) (D := D114) (esc := []) tab_ok mixed Try.func114 rfl rfl rfl ?_
  conv => whnf
  refine AC.use1 (within_ok _ _ _ _) ?_
  conv => whnf
  exact ⟨rfl, rfl⟩

set_option maxRecDepth 100000 in
theorem l4Byte_ok (H : Hp) (x : Int) : AC Try.prog 119 [.int .i64 x] H fun v h => v = .bool (keyByte x) ∧ h = H := by
  refine AC_of_vc (T := tab) (D := D119) (esc := []) tab_ok mixed Try.func119 rfl rfl rfl ?_
  conv => whnf
  repeat' (first
    | (refine Br.no rfl ?_; conv => whnf)
    | (refine Br.yes rfl ?_; conv => whnf)
    | (refine AC.use1 (l1In_ok _ _ _ _) ?_; conv => whnf)
    | (refine Two.intro ?_ ?_ <;> conv => whnf)
    | (refine Drawn.intro (by kernel_rfl) ?_; conv => whnf)
    | (refine Br.dec (fun _ => ?_) (fun _ => ?_) <;> conv => whnf)
    | (refine Br.neg (fun _ => ?_) (fun _ => ?_) <;> conv => whnf)
    | (refine Br.both (fun _ => ?_) (fun _ => ?_) <;> conv => whnf))
  all_goals (refine ⟨?_, rfl⟩; simp_all [keyByte, inB] <;> omega)

theorem all_take {α : Type} {p : α → Bool} {s : List α} {i : Nat} (h : i < s.length) (h1 : (s.take i).all p = true) : (s.take (i + 1)).all p = p s[i] := by
  rw [List.take_succ_eq_append_getElem h, List.all_append, h1]; simp

theorem all_no {α : Type} {p : α → Bool} {s : List α} {i : Nat} (h : i < s.length) (h1 : p s[i] = false) : s.all p = false := by
  rw [List.all_eq_false]; exact ⟨_, List.getElem_mem h, by simp [h1]⟩

theorem getD_at {s : List UInt8} {i : Nat} (h : i < s.length) : s.getD i 0 = s[i] := by simp [List.getD, h]

theorem wrap_byte (b : UInt8) : wrapK .i64 (b.toNat : Int) = b.toNat := wrap_id (by omega) (by have := b.toNat_lt; omega)

set_option maxRecDepth 100000 in
theorem specKeyOk_ok (H : Hp) (s : List UInt8) (hs : s.length ≤ 4611686018427387904) : AC Try.prog 108 [.str s] H fun v h => v = .bool (keyOk s) ∧ h = H := by
  refine AC_of_vc (T := tab) (D := D108) (esc := []) tab_ok mixed Try.func108 rfl rfl rfl ?_
  conv => whnf
  refine LoopVC.intro (fun i : Nat => (⟨Try.f108.ntmps, [(3, .int .i64 i), (0, .str s)], [], H⟩ : St)) (fun i => i ≤ s.length ∧ (s.take i).all (fun b => keyByte b.toNat) = true) (fun i => s.length - i) (fun i hi K hK => ?_) 0 ⟨by omega, rfl⟩ ⟨rfl, by repeat' (first | exact trivial | exact .inl rfl | apply And.intro), by repeat' (first | exact trivial | exact ⟨_, rfl, cle.refl _⟩ | apply And.intro), HSub.refl _⟩
  obtain ⟨hi1, hi2⟩ := hi
  conv => whnf
  refine Br.both (fun h => ?_) (fun h => ?_) <;> conv => whnf
  · have h : i < s.length := by have := of_decide_eq_true h; omega
    refine Idx.nat h ?_
    conv => whnf
    refine AC.use1 (l4Byte_ok _ _) ?_
    conv => whnf
    rw [getD_at h, wrap_byte]
    refine Br.both (fun h' => ?_) (fun h' => ?_) <;> conv => whnf
    · refine ⟨?_, rfl⟩
      rw [keyOk, all_no h (by simpa using h')]; rfl
    · simp (disch := omega) only [wrap_id]
      refine hK (i + 1) _ ⟨h, ?_⟩ (by omega) ⟨rfl, by repeat' (first | exact trivial | exact .inl rfl | apply And.intro), by repeat' (first | exact trivial | exact ⟨_, rfl, cle.refl _⟩ | apply And.intro), HSub.refl _⟩
      rw [all_take h hi2]; simpa using h'
  · have h := of_decide_eq_false h
    have e : i = s.length := by omega
    subst e
    refine AC.use1 (l1In_ok _ _ _ _) ?_
    conv => whnf
    refine ⟨?_, rfl⟩
    rw [keyOk]; rw [List.take_length] at hi2; rw [hi2]; rfl

set_option maxRecDepth 100000 in
theorem implKeyOk_ok (H : Hp) (s : List UInt8) (hs : s.length ≤ 4611686018427387904) : AC Try.prog 113 [.str s] H fun v h => v = .bool (keyOk s) ∧ h = H := by
  refine AC_of_vc (T := tab) (D := D113) (esc := []) tab_ok mixed Try.func113 rfl rfl rfl ?_
  conv => whnf
  refine LoopVC.intro (fun i : Nat => (⟨Try.f113.ntmps, [(7, .int .i64 i), (6, .int .i64 s.length), (0, .str s)], [], H⟩ : St)) (fun i => i ≤ s.length ∧ (s.take i).all (fun b => keyByte b.toNat) = true) (fun i => s.length - i) (fun i hi K hK => ?_) 0 ⟨by omega, rfl⟩ ⟨rfl, by repeat' (first | exact trivial | exact .inl rfl | apply And.intro), by repeat' (first | exact trivial | exact ⟨_, rfl, cle.refl _⟩ | apply And.intro), HSub.refl _⟩
  obtain ⟨hi1, hi2⟩ := hi
  conv => whnf
  refine Br.both (fun h => ?_) (fun h => ?_) <;> conv => whnf
  · have h : i < s.length := by have := of_decide_eq_true h; omega
    refine Idx.nat h ?_
    conv => whnf
    rw [getD_at h]
    repeat' (first
      | (refine Br.no rfl ?_; conv => whnf)
      | (refine Br.yes rfl ?_; conv => whnf)
      | (refine Two.intro ?_ ?_ <;> conv => whnf)
      | (refine Drawn.intro (by kernel_rfl) ?_; conv => whnf)
      | (refine Br.dec (fun _ => ?_) (fun _ => ?_) <;> conv => whnf)
      | (refine Br.neg (fun _ => ?_) (fun _ => ?_) <;> conv => whnf)
      | (refine Br.both (fun _ => ?_) (fun _ => ?_) <;> conv => whnf))
    all_goals first
      | (simp (disch := omega) only [wrap_id]; refine hK (i + 1) _ ⟨h, ?_⟩ (by omega) ⟨rfl, by repeat' (first | exact trivial | exact .inl rfl | apply And.intro), by repeat' (first | exact trivial | exact ⟨_, rfl, cle.refl _⟩ | apply And.intro), HSub.refl _⟩; rw [all_take h hi2]; simp_all [keyByte, inB]; done)
      | (refine ⟨?_, rfl⟩; rw [keyOk, all_no h (by simp_all [keyByte, inB] <;> omega)]; rfl)
  · have h := of_decide_eq_false h
    have e : i = s.length := by omega
    subst e
    refine AC.use1 (within_ok _ _ _ _) ?_
    conv => whnf
    refine ⟨?_, rfl⟩
    rw [keyOk]; rw [List.take_length] at hi2; rw [hi2]; rfl

def R.quiet (r : R) : Bool := r.sum == 0 && r.n == 0 && !r.set

def R.timerOk (r : R) : Bool :=
  if r.n = 0 then r.min == 0 && r.max == 0 && r.total == 0 && r.dropped == 0
  else inB r.n 1 3 && inB r.min 0 r.max && decide (r.max ≤ 65535) && inB r.total (wrapK .i64 (r.n * r.min)) (wrapK .i64 (r.n * r.max)) && inB r.dropped 0 65535 && (r.n == 3 || r.dropped == 0)

def R.ok (r : R) : Bool := keyOk r.key &&
  if r.kind = 1 then !r.set && r.last == 0 && r.n == 0 && r.min == 0 && r.max == 0 && r.total == 0 && r.dropped == 0 && inB r.sum 0 281474976710655
  else if r.kind = 2 then r.sum == 0 && r.n == 0 && r.min == 0 && r.max == 0 && r.total == 0 && r.dropped == 0 && inB r.last 0 65535 && (r.set || r.last == 0)
  else if r.kind = 3 then r.sum == 0 && !r.set && r.last == 0 && r.timerOk
  else false

set_option maxRecDepth 100000 in
theorem specQuiet_ok (H : Hp) (r : R) : AC Try.prog 90 [.agg r.av] H fun v h => v = .bool r.quiet ∧ h = H := by
  refine AC_of_vc (T := tab) (D := D90) (esc := []) tab_ok mixed Try.func90 rfl rfl rfl ?_
  conv => whnf
  repeat' (first
    | (refine Br.no rfl ?_; conv => whnf)
    | (refine Br.yes rfl ?_; conv => whnf)
    | (refine Two.intro ?_ ?_ <;> conv => whnf)
    | (refine Drawn.intro (by kernel_rfl) ?_; conv => whnf)
    | (refine Br.dec (fun _ => ?_) (fun _ => ?_) <;> conv => whnf)
    | (refine Br.neg (fun _ => ?_) (fun _ => ?_) <;> conv => whnf)
    | (refine Br.both (fun _ => ?_) (fun _ => ?_) <;> conv => whnf))
  all_goals (refine ⟨?_, rfl⟩; simp_all [R.quiet])

set_option maxRecDepth 100000 in
theorem implQuiet_ok (H : Hp) (r : R) : AC Try.prog 96 [.agg r.av] H fun v h => v = .bool r.quiet ∧ h = H := by
  refine AC_of_vc (T := tab) (D := D96) (esc := []) tab_ok mixed Try.func96 rfl rfl rfl ?_
  conv => whnf
  repeat' (first
    | (refine Br.no rfl ?_; conv => whnf)
    | (refine Br.yes rfl ?_; conv => whnf)
    | (refine Two.intro ?_ ?_ <;> conv => whnf)
    | (refine Drawn.intro (by kernel_rfl) ?_; conv => whnf)
    | (refine Br.dec (fun _ => ?_) (fun _ => ?_) <;> conv => whnf)
    | (refine Br.neg (fun _ => ?_) (fun _ => ?_) <;> conv => whnf)
    | (refine Br.both (fun _ => ?_) (fun _ => ?_) <;> conv => whnf))
  all_goals (refine ⟨?_, rfl⟩; simp_all [R.quiet])

set_option maxRecDepth 100000 in
theorem l7Timer_ok (H : Hp) (r : R) : AC Try.prog 109 [.agg r.av] H fun v h => v = .bool r.timerOk ∧ h = H := by
  refine AC_of_vc (T := tab) (D := D109) (esc := []) tab_ok mixed Try.func109 rfl rfl rfl ?_
  conv => whnf
  repeat' (first
    | (refine Br.no rfl ?_; conv => whnf)
    | (refine Br.yes rfl ?_; conv => whnf)
    | (refine AC.use1 (l1In_ok _ _ _ _) ?_; conv => whnf)
    | (refine Two.intro ?_ ?_ <;> conv => whnf)
    | (refine Drawn.intro (by kernel_rfl) ?_; conv => whnf)
    | (refine Br.dec (fun _ => ?_) (fun _ => ?_) <;> conv => whnf)
    | (refine Br.neg (fun _ => ?_) (fun _ => ?_) <;> conv => whnf)
    | (refine Br.both (fun _ => ?_) (fun _ => ?_) <;> conv => whnf))
  all_goals (refine ⟨?_, rfl⟩; simp_all [R.timerOk, inB, Int.mul_comm] <;> omega)

set_option maxRecDepth 100000 in
theorem specRowOk_ok (H : Hp) (r : R) (hk : r.key.length ≤ 4611686018427387904) : AC Try.prog 89 [.agg r.av] H fun v h => v = .bool r.ok ∧ h = H := by
  refine AC_of_vc (T := tab) (D := D89) (esc := []) tab_ok mixed Try.func89 rfl rfl rfl ?_
  conv => whnf
  refine AC.use1 (specKeyOk_ok _ _ hk) ?_
  conv => whnf
  repeat' (first
    | (refine Br.no rfl ?_; conv => whnf)
    | (refine Br.yes rfl ?_; conv => whnf)
    | (refine AC.use1 (l1In_ok _ _ _ _) ?_; conv => whnf)
    | (refine AC.use1 (l7Timer_ok _ r) ?_; conv => whnf)
    | (refine Two.intro ?_ ?_ <;> conv => whnf)
    | (refine Drawn.intro (by kernel_rfl) ?_; conv => whnf)
    | (refine Br.dec (fun _ => ?_) (fun _ => ?_) <;> conv => whnf)
    | (refine Br.neg (fun _ => ?_) (fun _ => ?_) <;> conv => whnf)
    | (refine Br.both (fun _ => ?_) (fun _ => ?_) <;> conv => whnf))
  all_goals (refine ⟨?_, rfl⟩; simp_all [R.ok, inB] <;> omega)

set_option maxRecDepth 100000 in
theorem implRowOk_ok (H : Hp) (r : R) (hk : r.key.length ≤ 4611686018427387904) : AC Try.prog 95 [.agg r.av] H fun v h => v = .bool r.ok ∧ h = H := by
  refine AC_of_vc (T := tab) (D := D95) (esc := []) tab_ok mixed Try.func95 rfl rfl rfl ?_
  conv => whnf
  refine AC.use1 (implKeyOk_ok _ _ hk) ?_
  conv => whnf
  repeat' (first
    | (refine Br.no rfl ?_; conv => whnf)
    | (refine Br.yes rfl ?_; conv => whnf)
    | (refine AC.use1 (within_ok _ _ _ _) ?_; conv => whnf)
    | (refine AC.use1 (isWord_ok _ _) ?_; conv => whnf)
    | (refine Two.intro ?_ ?_ <;> conv => whnf)
    | (refine Drawn.intro (by kernel_rfl) ?_; conv => whnf)
    | (refine Br.dec (fun _ => ?_) (fun _ => ?_) <;> conv => whnf)
    | (refine Br.neg (fun _ => ?_) (fun _ => ?_) <;> conv => whnf)
    | (refine Br.both (fun _ => ?_) (fun _ => ?_) <;> conv => whnf))
  all_goals (refine ⟨?_, rfl⟩; simp_all [R.ok, R.timerOk, inB] <;> first | omega | (simp only [Bool.and_assoc]; done) | (intros; simp_all; done))

end Go.Proofs.Ytdbedlomiedncaa.Vc
