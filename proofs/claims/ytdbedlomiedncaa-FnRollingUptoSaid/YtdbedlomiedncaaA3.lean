/- Marks. -/
import Derived.Test.YtdbedlomiedncaaA2
namespace Go.Proofs.Ytdbedlomiedncaa.Vc
open Go

def mtL (k : Nat) (out : List UInt8) : List UInt8 := if h : k = 0 then out else mtL (k / 10) (UInt8.ofNat (48 + k % 10) :: out)
  termination_by k

def mt (k : Int) : List UInt8 := if k ≤ 0 then [109, 48] else 109 :: mtL k.toNat []

set_option maxRecDepth 100000 in
theorem markText_ok (H : Hp) (k : Int) (hk : k ≤ 4611686018427387904) : AC Try.prog 65 [.int .i64 k] H fun v h => v = .str (mt k) ∧ h = H := by
  refine AC_of_vc (T := tab) (D := D65) (esc := []) tab_ok mixed Try.func65 rfl rfl rfl ?_
  conv => whnf
  refine Br.both (fun h => ?_) (fun h => ?_) <;> conv => whnf
  · have h := of_decide_eq_true h
    exact ⟨by rw [mt, if_pos h] <;> rfl, rfl⟩
  · have h := of_decide_eq_false h
    obtain ⟨m, rfl⟩ : ∃ m : Nat, k = (m : Int) := ⟨k.toNat, by omega⟩
    refine LoopVC.intro (fun (p : Nat × List UInt8) => (⟨Try.f65.ntmps, [(3, .str p.2), (2, .str []), (0, .int .i64 (p.1 : Int))], [], H⟩ : St))
      (fun p => p.1 ≤ m ∧ p.2.length ≤ 63 ∧ p.1 * 2 ^ p.2.length ≤ 2 ^ 62 ∧ mtL p.1 p.2 = mtL m []) (fun p => p.1) (fun p hi K hK => ?_) (m, []) ⟨Nat.le_refl _, by simp, by simp; omega, rfl⟩ ⟨rfl, ⟨.inl rfl, .inl rfl, .inl rfl, trivial⟩, trivial, HSub.refl _⟩
    obtain ⟨q, out⟩ := p
    obtain ⟨hi1, hi0, hi2, hi3⟩ := hi
    simp only at hi1 hi0 hi2 hi3 ⊢
    conv => whnf
    refine Br.both (fun h' => ?_) (fun h' => ?_) <;> conv => whnf
    · have h' := of_decide_eq_true h'
      refine Must.intro (by decide) ?_
      conv => whnf
      refine New.intro fun a ha => ?_
      conv => whnf
      have ed : wrapK .u8 (wrapK .i64 (48 + ((q : Int)).tmod 10)) = ((UInt8.ofNat (48 + q % 10)).toNat : Int) := by
        have e1 : ((q : Int)).tmod 10 = ((q % 10 : Nat) : Int) := by
          rw [Int.tmod_eq_emod_of_nonneg (by omega)]; omega
        have e2 : (UInt8.ofNat (48 + q % 10)).toNat = 48 + q % 10 := by
          rw [UInt8.toNat_ofNat']; omega
        rw [e1, e2]; simp only [wrapK]; omega
      refine Whole.intro (Hp.set_get _ _ _) rfl (Nat.le_refl 1) ?_
      refine Bytes.intro [UInt8.ofNat (48 + q % 10)] (by rw [ed]; rfl) ?_
      conv => whnf
      have hl : out.length ≤ 62 := by
        rcases Nat.lt_or_ge 62 out.length with h1 | h1
        · have h2 : 2 ^ 63 ≤ 2 ^ out.length := Nat.pow_le_pow_right (by omega) h1
          have h3 : 1 * 2 ^ out.length ≤ q * 2 ^ out.length := Nat.mul_le_mul_right _ (by omega)
          have h4 : (2 : Nat) ^ 63 = 2 * 2 ^ 62 := by decide
          omega
        · exact h1
      refine Must.intro (by simp only [List.length_cons, List.length_nil]; omega) ?_
      conv => whnf
      refine Must.intro (by decide) ?_
      conv => whnf
      have e3 : wrapK .i64 ((q : Int).tdiv 10) = ((q / 10 : Nat) : Int) := by
        rw [Int.tdiv_eq_ediv_of_nonneg (by omega)]
        simp only [wrapK]; omega
      rw [e3]
      refine hK (q / 10, UInt8.ofNat (48 + q % 10) :: out) _ ⟨by simp only; omega, by simp only [List.length_cons]; omega, ?_, ?_⟩ (by simp only; omega) ⟨rfl, ⟨.inl rfl, .inl rfl, .inl rfl, trivial⟩, trivial, HSub.drop _ ha⟩
      · simp only [List.length_cons, Nat.pow_succ]
        refine Nat.le_trans ?_ hi2
        rw [Nat.mul_comm (2 ^ out.length) 2, ← Nat.mul_assoc]
        exact Nat.mul_le_mul_right _ (by omega)
      · simp only
        rw [← hi3]
        conv => rhs; rw [mtL]
        rw [dif_neg (by omega)]
    · have h' := of_decide_eq_false h'
      have e : q = 0 := by omega
      subst e
      refine Must.intro (by show 1 + out.length ≤ _; omega) ?_
      conv => whnf
      refine ⟨?_, rfl⟩
      rw [mt, if_neg h, Int.toNat_natCast, ← hi3, mtL]
      rfl

/-- the row that marks make, and the count behind it -/
def mkRow (k : Int) : R := ⟨mt k, k + 1, k + 2, ((k + 3).tmod 3 == 0), k + 4, k + 5, k + 6, k + 7, k + 8, k + 9⟩

def mkRows (k : Int) : Nat → List R
  | 0 => []
  | n + 1 => mkRow k :: mkRows (k + 10) n

theorem mkRows_get : ∀ (n : Nat) (k : Int) (i : Nat), i < n → (mkRows k n)[i]? = some (mkRow (k + 10 * i))
  | 0, _, _, h => by omega
  | n + 1, k, 0, _ => by simp [mkRows]
  | n + 1, k, i + 1, h => by
    rw [mkRows, List.getElem?_cons_succ, mkRows_get n (k + 10) i (by omega)]
    congr 2; omega

theorem mkRows_succ : ∀ (n : Nat) (k : Int), mkRows k (n + 1) = mkRows k n ++ [mkRow (k + 10 * n)]
  | 0, k => by simp [mkRows]
  | n + 1, k => by
    rw [mkRows, mkRows_succ n (k + 10)]
    conv => rhs; rw [mkRows]
    rw [List.cons_append]
    congr 4; omega

theorem mkRows_length : ∀ (n : Nat) (k : Int), (mkRows k n).length = n
  | 0, _ => rfl
  | n + 1, k => by rw [mkRows, List.length_cons, mkRows_length n]

set_option maxRecDepth 100000 in
theorem heldRowS_ok (H : Hp) (a : Addr) (o : Nat) (ra : Row) (x : List R) (k : Int) (ha : H.get a = some ra) (ea : ra.e = 10)
    (hx : (ra.es.drop o).take x.length = x.map R.av) (hl : x.length ≤ 1048576) (hk : 0 ≤ k ∧ k ≤ 1073741824) :
    AC Try.prog 16 [.slice a 10 o x.length, .int .i64 k] H fun v h => (∃ q, v = .int .i64 q ∧ (x = mkRows k x.length → q = k + 10 * x.length)) ∧ h = H := by
  refine AC_of_vc (T := tab) (D := D16) (esc := []) tab_ok mixed Try.func16 rfl rfl rfl ?_
  conv => whnf
  refine LoopVC.intro (fun i : Nat => (⟨Try.f16.ntmps, [(5, .int .i64 (i : Int)), (1, .int .i64 (k + 10 * i)), (4, .int .i64 0), (0, .slice a 10 o x.length)], [], H⟩ : St))
    (fun i => i ≤ x.length) (fun i => x.length - i) (fun i hi K hK => ?_) 0 (by omega) ⟨rfl, ⟨.inl rfl, .inl (by simp [alGet]), .inl rfl, .inl rfl, trivial⟩, trivial, HSub.refl _⟩
  conv => whnf
  refine Br.both (fun h => ?_) (fun h => ?_) <;> conv => whnf
  · have h : i < x.length := by have := of_decide_eq_true h; omega
    have ex := List.getElem?_eq_getElem h
    have hq : 0 ≤ k + 10 * (i : Int) ∧ k + 10 * (i : Int) ≤ 2147483648 := by omega
    have hxi : x = mkRows k x.length → x[i] = mkRow (k + 10 * i) := fun e => by
      have := mkRows_get x.length k i h
      rw [← e, ex] at this; injection this
    generalize hqe : k + 10 * (i : Int) = q at hxi hq ⊢
    have e1 : wrapK .i64 (q + 1) = q + 1 := wrap_id (by omega) (by omega)
    have e2 : wrapK .i64 (q + 1 + 1) = q + 1 + 1 := wrap_id (by omega) (by omega)
    have e3 : wrapK .i64 (q + 1 + 1 + 1) = q + 1 + 1 + 1 := wrap_id (by omega) (by omega)
    have e4 : wrapK .i64 (q + 1 + 1 + 1 + 1) = q + 1 + 1 + 1 + 1 := wrap_id (by omega) (by omega)
    have e5 : wrapK .i64 (q + 1 + 1 + 1 + 1 + 1) = q + 1 + 1 + 1 + 1 + 1 := wrap_id (by omega) (by omega)
    have e6 : wrapK .i64 (q + 1 + 1 + 1 + 1 + 1 + 1) = q + 1 + 1 + 1 + 1 + 1 + 1 := wrap_id (by omega) (by omega)
    have e7 : wrapK .i64 (q + 1 + 1 + 1 + 1 + 1 + 1 + 1) = q + 1 + 1 + 1 + 1 + 1 + 1 + 1 := wrap_id (by omega) (by omega)
    have e8 : wrapK .i64 (q + 1 + 1 + 1 + 1 + 1 + 1 + 1 + 1) = q + 1 + 1 + 1 + 1 + 1 + 1 + 1 + 1 := wrap_id (by omega) (by omega)
    have e9 : wrapK .i64 (q + 1 + 1 + 1 + 1 + 1 + 1 + 1 + 1 + 1) = q + 1 + 1 + 1 + 1 + 1 + 1 + 1 + 1 + 1 := wrap_id (by omega) (by omega)
    have e10 : wrapK .i64 (q + 1 + 1 + 1 + 1 + 1 + 1 + 1 + 1 + 1 + 1) = q + 1 + 1 + 1 + 1 + 1 + 1 + 1 + 1 + 1 + 1 := wrap_id (by omega) (by omega)
    repeat' (first
      | (refine Br.both (fun h' => ?_) (fun h' => ?_) <;> (conv => whnf))
      | (refine Must.intro (by decide) ?_; conv => whnf)
      | (refine Idx.nat h ?_; conv => whnf)
      | (refine Ld.intro ha ea (row_at hx ex) ?_; conv => whnf)
      | (refine AC.use1 (markText_ok _ _ (by omega)) ?_; conv => whnf)
      | (refine Drawn.intro (by kernel_rfl) ?_; conv => whnf)
      | (refine Has.intro ha ?_; conv => whnf)
      | (refine Has.intro (Hp.set_get _ _ _) ?_; conv => whnf; rw [Hp.thaw ha])
      | rw [e1] | rw [e2] | rw [e3] | rw [e4] | rw [e5] | rw [e6] | rw [e7] | rw [e8] | rw [e9] | rw [e10])
    all_goals try (refine ⟨⟨_, rfl, fun e => ?_⟩, rfl⟩; exfalso; rw [hxi e] at h'; (try simp only [e1, e2, e3, e4, e5, e6, e7, e8, e9, e10] at h'); simp [mkRow, Int.add_assoc] at h'; done)
    all_goals try (refine ⟨⟨_, rfl, fun e => ?_⟩, rfl⟩; exfalso; rw [hxi e] at h'; (try simp only [e1, e2, e3, e4, e5, e6, e7, e8, e9, e10] at h'); rw [show q + 1 + 1 + 1 = q + 3 from by omega] at h'; simp only [mkRow] at h'; cases hd : ((q + 3).tmod 3 == 0) <;> simp_all; done)
    rw [wrap_id (n := (i : Int) + 1) (by omega) (by omega)]
    refine hK (i + 1) _ h (by omega) ⟨rfl, ⟨.inl rfl, .inl ?_, .inl rfl, .inl rfl, trivial⟩, trivial, HSub.refl _⟩
    show AV.int .i64 _ = AV.int .i64 (q + 1 + 1 + 1 + 1 + 1 + 1 + 1 + 1 + 1 + 1)
    congr 1; omega
  · have h := of_decide_eq_false h
    have e : i = x.length := by omega
    subst e
    exact ⟨⟨_, rfl, fun _ => rfl⟩, rfl⟩

set_option maxRecDepth 100000 in
theorem markRowS_ok (H : Hp) (a : Addr) (o : Nat) (ra : Row) (x : List R) (k : Int) (ha : H.get a = some ra) (ea : ra.e = 10) (hro : ra.ro = false)
    (hx : (ra.es.drop o).take x.length = x.map R.av) (hl : x.length ≤ 1048576) (hk : 0 ≤ k ∧ k ≤ 1073741824) :
    AC Try.prog 15 [.slice a 10 o x.length, .int .i64 k] H fun v h => v = .int .i64 (k + 10 * x.length) ∧ h = H.set a ⟨10, false, ra.es.take o ++ (mkRows k x.length).map R.av ++ ra.es.drop (o + x.length)⟩ := by
  refine AC_of_vc (T := tab) (D := D15) (esc := []) tab_ok mixed Try.func15 rfl rfl rfl ?_
  conv => whnf
  refine LoopVC.intro (fun i : Nat => (⟨Try.f15.ntmps, [(5, .int .i64 (i : Int)), (1, .int .i64 (k + 10 * i)), (4, .int .i64 0), (0, .slice a 10 o x.length)], [], H.set a ⟨10, false, ra.es.take o ++ (mkRows k i).map R.av ++ ra.es.drop (o + i)⟩⟩ : St))
    (fun i => i ≤ x.length) (fun i => x.length - i) (fun i hi K hK => ?_) 0 (by omega) ⟨rfl, ⟨.inl rfl, .inl (by simp [alGet]), .inl rfl, .inl rfl, trivial⟩, trivial, ?_⟩
  · conv => whnf
    refine Br.both (fun h => ?_) (fun h => ?_) <;> conv => whnf
    · have h : i < x.length := by have := of_decide_eq_true h; omega
      have ex := List.getElem?_eq_getElem h
      have hq : 0 ≤ k + 10 * (i : Int) ∧ k + 10 * (i : Int) ≤ 2147483648 := by omega
      generalize hqe : k + 10 * (i : Int) = q at hq ⊢
      have e1 : wrapK .i64 (q + 1) = q + 1 := wrap_id (by omega) (by omega)
      have e2 : wrapK .i64 (q + 1 + 1) = q + 1 + 1 := wrap_id (by omega) (by omega)
      have e3 : wrapK .i64 (q + 1 + 1 + 1) = q + 1 + 1 + 1 := wrap_id (by omega) (by omega)
      have e4 : wrapK .i64 (q + 1 + 1 + 1 + 1) = q + 1 + 1 + 1 + 1 := wrap_id (by omega) (by omega)
      have e5 : wrapK .i64 (q + 1 + 1 + 1 + 1 + 1) = q + 1 + 1 + 1 + 1 + 1 := wrap_id (by omega) (by omega)
      have e6 : wrapK .i64 (q + 1 + 1 + 1 + 1 + 1 + 1) = q + 1 + 1 + 1 + 1 + 1 + 1 := wrap_id (by omega) (by omega)
      have e7 : wrapK .i64 (q + 1 + 1 + 1 + 1 + 1 + 1 + 1) = q + 1 + 1 + 1 + 1 + 1 + 1 + 1 := wrap_id (by omega) (by omega)
      have e8 : wrapK .i64 (q + 1 + 1 + 1 + 1 + 1 + 1 + 1 + 1) = q + 1 + 1 + 1 + 1 + 1 + 1 + 1 + 1 := wrap_id (by omega) (by omega)
      have e9 : wrapK .i64 (q + 1 + 1 + 1 + 1 + 1 + 1 + 1 + 1 + 1) = q + 1 + 1 + 1 + 1 + 1 + 1 + 1 + 1 + 1 := wrap_id (by omega) (by omega)
      have e10 : wrapK .i64 (q + 1 + 1 + 1 + 1 + 1 + 1 + 1 + 1 + 1 + 1) = q + 1 + 1 + 1 + 1 + 1 + 1 + 1 + 1 + 1 + 1 := wrap_id (by omega) (by omega)
      have hes : (ra.es.take o ++ (mkRows k i).map R.av ++ ra.es.drop (o + i))[o + i]? = some (R.av x[i]) := by
        have h1 : (ra.es.take o ++ (mkRows k i).map R.av).length = o + i := by
          have := congrArg List.length hx
          simp [mkRows_length] at this ⊢; omega
        rw [List.getElem?_append_right (by omega), h1, Nat.sub_self, List.getElem?_drop, Nat.add_zero]
        exact row_at hx ex
      have hlt := (List.getElem?_eq_some_iff.1 hes).1
      repeat' (first
        | (refine Must.intro (by decide) ?_; conv => whnf)
        | (refine Idx.nat h ?_; conv => whnf)
        | (refine AC.use1 (markText_ok _ _ (by omega)) ?_; conv => whnf)
        | (refine Drawn.intro (by kernel_rfl) ?_; conv => whnf)
        | (refine Sto.intro (Hp.set_get _ _ _) rfl rfl hes ?_; conv => whnf)
        | (refine Sto.intro (Hp.set_get _ _ _) rfl rfl (List.getElem?_set_self hlt) ?_; conv => whnf)
        | (refine Sto.intro (Hp.set_get _ _ _) rfl rfl (List.getElem?_set_self (by rw [List.length_set]; exact hlt)) ?_; conv => whnf; simp only [List.set_set, Hp.set_set])
        | rw [e1] | rw [e2] | rw [e3] | rw [e4] | rw [e5] | rw [e6] | rw [e7] | rw [e8] | rw [e9] | rw [e10])
      rw [wrap_id (n := (i : Int) + 1) (by omega) (by omega)]
      refine hK (i + 1) _ h (by omega) ⟨rfl, ⟨.inl rfl, .inl ?_, .inl rfl, .inl rfl, trivial⟩, trivial, ?_⟩
      · show AV.int .i64 _ = AV.int .i64 (q + 1 + 1 + 1 + 1 + 1 + 1 + 1 + 1 + 1 + 1)
        congr 1; omega
      · have e : ra.es.take o ++ (mkRows k (i + 1)).map R.av ++ ra.es.drop (o + (i + 1)) = (ra.es.take o ++ (mkRows k i).map R.av ++ ra.es.drop (o + i)).set (o + i) (mkRow q).av := by
          have h1 : (ra.es.take o ++ (mkRows k i).map R.av).length = o + i := by
            have := congrArg List.length hx
            simp [mkRows_length] at this ⊢; omega
          have h2 : o + i < ra.es.length := (List.getElem?_eq_some_iff.1 (row_at hx ex)).1
          rw [List.set_append_right _ _ (by omega), h1, Nat.sub_self, List.drop_eq_getElem_cons h2, List.set_cons_zero, mkRows_succ, hqe, ← Nat.add_assoc]
          simp only [List.map_append, List.map_cons, List.map_nil, List.append_assoc, List.cons_append, List.nil_append]
        rw [e]
        refine HSub.of_eq ?_
        simp only [Hp.set_set, List.set_set, R.av, mkRow, Int.add_assoc, Int.reduceAdd]
    · have h := of_decide_eq_false h
      have e : i = x.length := by omega
      subst e
      exact ⟨rfl, rfl⟩
  · have e : ra.es.take o ++ (mkRows k 0).map R.av ++ ra.es.drop (o + 0) = ra.es := by simp [mkRows]
    rw [e]
    have e : H.set a ⟨10, false, ra.es⟩ = H := by
      obtain ⟨re, rro, res⟩ := ra
      simp only at ea hro
      subst ea; subst hro
      exact Hp.set_self _ ha
    rw [e]
    exact HSub.refl _

end Go.Proofs.Ytdbedlomiedncaa.Vc
