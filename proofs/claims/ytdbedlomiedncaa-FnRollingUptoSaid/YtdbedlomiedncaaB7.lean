/- Marks held; stores, their copies, and what is pushed into them. -/
import Derived.Test.YtdbedlomiedncaaB6
namespace Go.Proofs.Ytdbedlomiedncaa.Vc
open Go

set_option maxRecDepth 100000 in
theorem heldRowSS_ok (H : Hp) (a : Addr) (o : Nat) (ns : List Nat) (k : Int) (hx : SlRR H a o (mkRowss k ns)) (hn : ∀ n ∈ ns, n ≤ 1048576) (hl : ns.length ≤ 1048576) (hk0 : 0 ≤ k ∧ k + 10 * ns.sum ≤ 1073741824) :
    AC Try.prog 72 [.slice a 1 o ns.length, .int .i64 k] H fun v h => v = .int .i64 (k + 10 * ns.sum) ∧ h = H := by
  refine AC_of_vc (T := tab) (D := D72) (esc := []) tab_ok mixed Try.func72 rfl rfl rfl ?_
  conv => whnf
  refine LoopVC.intro (fun i : Nat => (⟨Try.f72.ntmps, [(5, .int .i64 i), (1, .int .i64 (k + 10 * ((ns.take i).sum : Nat))), (0, .slice a 1 o ns.length)], [], H⟩ : St)) (fun i => i ≤ ns.length) (fun i => ns.length - i) (fun i hi1 K hK => ?_) 0 (by omega) ⟨rfl, ⟨.inl rfl, .inl (by simp [alGet]), .inl rfl, trivial⟩, trivial, HSub.refl _⟩
  conv => whnf
  refine Br.dec (fun h => ?_) (fun h => ?_) <;> conv => whnf
  · have h : i < ns.length := by omega
    have h' : i < (mkRowss k ns).length := by rw [mkRowss_length]; exact h
    refine Idx.nat h ?_
    conv => whnf
    refine hx.ld h' fun b1 p1 hb1 => ?_
    conv => whnf
    have hm : (mkRowss k ns)[i] = mkRows (k + 10 * ((ns.take i).sum : Nat)) ns[i] := by
      have key : ∀ (ys : List Nat) (k : Int) (j : Nat) (h : j < ys.length) (h' : j < (mkRowss k ys).length), (mkRowss k ys)[j] = mkRows (k + 10 * ((ys.take j).sum : Nat)) ys[j] := by
        intro ys
        induction ys with
        | nil => intro k j h; simp at h
        | cons y ys ih =>
          intro k j h h'
          cases j with
          | zero => simp [mkRowss]
          | succ j =>
            simp only [mkRowss, List.getElem_cons_succ, List.take_succ_cons, List.sum_cons]
            rw [ih _ j (by simpa using h)]
            congr 1; omega
      exact key ns k i h h'
    have hsum : (ns.take (i + 1)).sum = (ns.take i).sum + ns[i] := by
      rw [List.take_succ_eq_append_getElem h, List.sum_append]; simp
    have hle : (ns.take (i + 1)).sum ≤ ns.sum := by
      conv => rhs; rw [← List.take_append_drop (i + 1) ns, List.sum_append]
      omega
    have hni := hn _ (List.getElem_mem h)
    obtain ⟨ra, g1, g2, g3, _⟩ := hb1
    have hlen : (mkRowss k ns)[i].length = ns[i] := by rw [hm, mkRows_length]
    refine AC.use0 (heldRowS_ok H b1 p1 ra (mkRowss k ns)[i] (k + 10 * ((ns.take i).sum : Nat)) g1 g2 (by simpa using g3) (by omega) ⟨by omega, by omega⟩) ?_
    rintro v ⟨q, rfl, hq⟩
    have hq := hq (by rw [hlen]; exact hm)
    rw [hlen] at hq
    subst hq
    conv => whnf
    refine Br.dec (fun h2 => ?_) (fun h2 => ?_) <;> conv => whnf
    · exfalso; omega
    · simp (disch := omega) only [wrap_id]
      refine hK (i + 1) _ h (by omega) ⟨rfl, ⟨.inl rfl, .inl ?_, .inl rfl, trivial⟩, trivial, HSub.refl _⟩
      show AV.int .i64 _ = AV.int .i64 _
      rw [hsum]; congr 1; omega
  · have e : i = ns.length := by omega
    subst e
    rw [List.take_length]
    exact ⟨rfl, rfl⟩

/-- a store, as a value -/
abbrev stAV (c f : Int) (a : Addr) (o n : Nat) : AV := .agg [.int .i64 c, .int .i64 f, .slice a 1 o n]

set_option maxRecDepth 100000 in
theorem szStore_ok (H : Hp) (c f : Int) (a : Addr) (o : Nat) (xs : List (List R)) (left : Int) (hx : SlRR H a o xs) (hk : KSS xs) (hl : 0 ≤ left ∧ left ≤ 1048576) :
    AC Try.prog 17 [stAV c f a o xs.length, .int .i64 left] H fun v h => (∃ k : Int, v = .int .i64 k ∧ k ≤ 1048576 ∧ (0 ≤ k → xs.length + (xs.map szR).sum + k = left)) ∧ h = H := by
  refine AC_of_vc (T := tab) (D := D17) (esc := []) tab_ok mixed Try.func17 rfl rfl rfl ?_
  conv => whnf
  refine AC.use0 (szRowSS_ok H a o xs left hx hk hl) ?_
  rintro v ⟨k, rfl, hk1, hk2⟩
  conv => whnf
  refine Br.dec (fun h => ?_) (fun h => ?_) <;> conv => whnf
  · exact ⟨⟨_, rfl, by omega, fun h => by omega⟩, rfl⟩
  · exact ⟨⟨_, rfl, hk1, hk2⟩, rfl⟩

set_option maxRecDepth 100000 in
theorem toStore_ok (H : Hp) (c f : Int) (a : Addr) (o : Nat) (xs : List (List R)) (hx : SlRR H a o xs) (hk : KSS xs) :
    AC Try.prog 19 [stAV c f a o xs.length] H fun v h => ∃ b N, v = stAV c f b 0 xs.length ∧ OwnRR N b 0 xs ∧ N.le h ∧ Dj N H ∧ H.le h := by
  refine AC_of_vc (T := tab) (D := D19) (esc := []) tab_ok mixed Try.func19 rfl rfl rfl ?_
  conv => whnf
  refine AC.mono (toRowSS_ok H a o xs hx hk) ?_
  rintro v h ⟨b, N, rfl, h1, h2, h3, h4⟩
  conv => whnf
  exact ⟨b, N, rfl, h1, h2, h3, h4⟩

set_option maxRecDepth 100000 in
theorem eqStore_ok (H : Hp) (c f c' f' : Int) (a b : Addr) (o p : Nat) (xs ys : List (List R)) (hx : SlRR H a o xs) (hy : SlRR H b p ys) (hk : KSS xs) :
    AC Try.prog 21 [stAV c f a o xs.length, stAV c' f' b p ys.length] H fun v h => v = .bool (decide (c = c' ∧ f = f' ∧ xs = ys)) ∧ h = H := by
  refine AC_of_vc (T := tab) (D := D21) (esc := []) tab_ok mixed Try.func21 rfl rfl rfl ?_
  conv => whnf
  repeat' (first
    | (refine Br.no rfl ?_; conv => whnf)
    | (refine Br.yes rfl ?_; conv => whnf)
    | (refine AC.use1 (eqRowSS_ok H a b o p xs ys hx hy hk) ?_; conv => whnf)
    | (refine Two.intro ?_ ?_ <;> conv => whnf)
    | (refine Drawn.intro (by kernel_rfl) ?_; conv => whnf)
    | (refine Br.dec (fun _ => ?_) (fun _ => ?_) <;> conv => whnf)
    | (refine Br.neg (fun _ => ?_) (fun _ => ?_) <;> conv => whnf)
    | (refine Br.both (fun _ => ?_) (fun _ => ?_) <;> conv => whnf))
  all_goals (refine ⟨?_, rfl⟩; simp_all)

set_option maxRecDepth 100000 in
theorem markStore_ok (H N : Hp) (c f : Int) (a : Addr) (o : Nat) (xs : List (List R)) (k : Int) (hO : OwnRR N a o xs) (hN : N.le H) (hk : KSS xs) (hk0 : 0 ≤ k ∧ k + 10 * (xs.map List.length).sum ≤ 1073741824) :
    AC Try.prog 22 [stAV c f a o xs.length, .int .i64 k] H fun v h => v = .int .i64 (k + 10 * (xs.map List.length).sum) ∧ ∃ N', OwnRR N' a o (mkRowss k (xs.map List.length)) ∧ N'.le h ∧ ∀ b, N.get b = none → N'.get b = none ∧ h.get b = H.get b := by
  refine AC_of_vc (T := tab) (D := D22) (esc := []) tab_ok mixed Try.func22 rfl rfl rfl ?_
  conv => whnf
  refine AC.mono (markRowSS_ok H N a o xs k hO hN hk hk0) ?_
  rintro v h ⟨rfl, h1⟩
  conv => whnf
  exact ⟨rfl, h1⟩

set_option maxRecDepth 100000 in
theorem heldStore_ok (H : Hp) (c f : Int) (a : Addr) (o : Nat) (ns : List Nat) (k : Int) (hx : SlRR H a o (mkRowss k ns)) (hn : ∀ n ∈ ns, n ≤ 1048576) (hl : ns.length ≤ 1048576) (hk0 : 0 ≤ k ∧ k + 10 * ns.sum ≤ 1073741824) :
    AC Try.prog 23 [stAV c f a o ns.length, .int .i64 k] H fun v h => v = .int .i64 (k + 10 * ns.sum) ∧ h = H := by
  refine AC_of_vc (T := tab) (D := D23) (esc := []) tab_ok mixed Try.func23 rfl rfl rfl ?_
  conv => whnf
  refine AC.use1 (heldRowSS_ok H a o ns k hx hn hl hk0) ?_
  conv => whnf
  refine Br.dec (fun h => ?_) (fun h => ?_) <;> conv => whnf
  · exfalso; omega
  · exact ⟨rfl, rfl⟩

/-! ### copies -/

set_option maxRecDepth 100000 in
theorem clone_ok (H : Hp) (a : Addr) (o : Nat) (x : List R) (hx : SlR H a o x) (hl : x.length ≤ 1048576) : AC Try.prog 59 [.slice a 10 o x.length] H fun v h => ∃ b, H.get b = none ∧ v = .slice b 10 0 x.length ∧ h = H.set b ⟨10, false, x.map R.av⟩ := by
  refine AC.post ?_
  refine AC_of_vc (T := tab) (D := D59) (esc := []) tab_ok mixed Try.func59 rfl rfl rfl ?_
  conv => whnf
  refine NilQ.intro ?_ (fun h0 => ?_)
  · conv => whnf
    refine Br.no rfl ?_
    conv => whnf
    refine New.intro fun e he => ?_
    conv => whnf
    have hxe := hx.set (r := ⟨10, false, []⟩) he
    have hll : (x.map R.av).length = x.length := List.length_map _
    have hw := fun K k => Sl.whole (K := K) hxe k
    rw [hll] at hw
    refine hw _ ?_
    conv => whnf
    refine Over.intro (Hp.set_get _ _ _) rfl rfl ?_
    conv => whnf
    refine Must.intro ⟨Nat.le_refl 0, by rw [hll, tb49]; omega⟩ ?_
    conv => whnf
    refine New.intro fun b hb => ?_
    conv => whnf
    rw [Hp.set_del _ _ he] at hb ⊢
    refine .done ⟨b, hb, by rw [hll, Nat.zero_add] <;> rfl, rfl⟩
  · conv => whnf
    refine Br.yes rfl ?_
    conv => whnf
    have hx0 : x = [] := List.length_eq_zero_iff.1 h0
    subst hx0
    exact .ghost 10 false fun b hb => .le (.slice b 10 0 0) (VLe.nils b 10 0) (.done ⟨b, hb, rfl, rfl⟩)

theorem Hp.thaw1 {h : Hp} {a b : Addr} {r x : Row} (e : h.get a = some r) (ne : b ≠ a) : ((h.set a (frz r)).set b x).set a r = h.set b x := by
  rw [Hp.set_comm _ _ _ (Ne.symm ne), Hp.set_set, ← Hp.set_comm _ _ _ (Ne.symm ne), Hp.set_self _ e]

/-- a store after a push -/
noncomputable def pushed (c f : Int) (xs : List (List R)) (l : List R) : Int × List (List R) :=
  if storeOk c f xs = true ∧ repOk l = true ∧ f ≠ 1000000 then (if (xs.length : Int) + 1 > c then (f + 1, (xs ++ [l]).tail) else (f, xs ++ [l])) else (f, xs)

/-- what a function gives that makes a store -/
def MadeSt (H : Hp) (c f : Int) (xs : List (List R)) (v : AV) (h : Hp) : Prop := ∃ a o N, v = stAV c f a o xs.length ∧ OwnRR N a o xs ∧ N.le h ∧ Dj N H ∧ H.le h

theorem Dj.none {N H : Hp} (h : Dj N H) {a : Addr} {r : Row} (e : N.get a = some r) : H.get a = none := by
  rcases h a with h | h
  · rw [h] at e; cases e
  · exact h

set_option maxRecDepth 100000 in
theorem implPush_ok (H : Hp) (c f : Int) (a b : Addr) (o p : Nat) (xs : List (List R)) (l : List R) (hx : SlRR H a o xs) (hk : KSS xs) (hy : SlR H b p l) (hkl : KS l) (hll : l.length ≤ 1048576) :
    AC Try.prog 20 [stAV c f a o xs.length, .slice b 10 p l.length] H (MadeSt H c (pushed c f xs l).1 (pushed c f xs l).2) := by
  refine AC.post ?_
  refine AC_of_vc (T := tab) (D := D20) (esc := []) tab_ok mixed Try.func20 rfl rfl rfl ?_
  conv => whnf
  have hk1 := hk.1
  refine LoopVC.ghost 1 fun e0 he0 => ?_
  refine LoopVC.intro (fun z : Nat × Hp × Addr => (⟨Try.f20.ntmps, [(16, .int .i64 z.1), (1, .slice b 10 p l.length), (14, .slice a 1 o xs.length), (15, .int .i64 xs.length), (2, .lptr 2 0), (4, .lptr 4 0), (5, .lptr 5 0)], [(2, [.int .i64 c, .int .i64 f, .slice a 1 o xs.length]), (4, [.int .i64 0, .int .i64 0, .nils]), (5, [.int .i64 c, .int .i64 f, .slice z.2.2 1 0 z.1])], z.2.1⟩ : St))
    (fun z => z.1 ≤ xs.length ∧ H.le z.2.1 ∧ ∃ N, OwnRR N z.2.2 0 (xs.take z.1) ∧ N.le z.2.1 ∧ Dj N H) (fun z => xs.length - z.1) (fun z hi K hK => ?_) (0, H.set e0 ⟨1, false, []⟩, e0) ?_ ?_
  · obtain ⟨i, h0, d⟩ := z
    obtain ⟨hi1, hle, N, hO, hN, hd⟩ := hi
    simp only at hi1 hle hO hN ⊢
    conv => whnf
    refine Br.dec (fun h => ?_) (fun h => ?_) <;> conv => whnf
    · have h : i < xs.length := by omega
      refine Idx.nat h ?_
      conv => whnf
      refine (hx.le hle).ld h fun b1 p1 hb1 => ?_
      conv => whnf
      refine Drawn.intro (by kernel_rfl) ?_
      conv => whnf
      refine AC.mono (clone_ok _ b1 p1 xs[i] hb1 (hk.2 _ (List.getElem_mem h)).2) ?_
      rintro v h1 ⟨e1, he1, rfl, rfl⟩
      conv => whnf
      refine New.intro fun e2 he2 => ?_
      conv => whnf
      obtain ⟨es, q, g1, _, ⟨_, g3⟩, _⟩ := id hO
      have htk : (xs.take i).length = i := by simp; omega
      have hne : N.get e1 = none := Hp.le_none hN he1
      have he12 : e1 ≠ e2 := fun e => by subst e; rw [Hp.set_get] at he2; cases he2
      have l1 : h0.le ((h0.set e1 ⟨10, false, xs[i].map R.av⟩).set e2 ⟨1, false, [[.slice e1 10 0 xs[i].length]]⟩) := Hp.le_trans (Hp.le_set _ he1) (Hp.le_set _ he2)
      refine Whole.intro (Hp.set_get _ _ _) rfl (Nat.le_refl 1) ?_
      conv => whnf
      refine Over.intro (l1 _ _ (hN _ _ g1)) rfl rfl ?_
      conv => whnf
      refine Must.intro ⟨by simp only; omega, by show (i + 1) * (tab.at 24).bytes ≤ _; rw [tb24]; omega⟩ ?_
      conv => whnf
      refine New.intro fun d' hd' => ?_
      conv => whnf
      obtain ⟨N', k1, k2, k3, k4⟩ := OwnRR.append (x := xs[i]) hO (Hp.le_trans hN l1) hd (Hp.le_trans hle l1) (by rw [Hp.set_other _ _ he12, Hp.set_get]) hne (Hp.le_none hle he1) (l1 _ _ (hN _ _ g1)) hd'
      rw [htk] at k2 k4
      rw [← List.take_succ_eq_append_getElem h] at k1
      simp (disch := omega) only [wrap_id]
      exact hK (i + 1, _, d') _ ⟨h, k4, N', k1, k2, k3⟩ (by simp only; omega) ⟨rfl, by repeat' (first | exact trivial | exact .inl rfl | apply And.intro), by repeat' (first | exact trivial | exact ⟨_, rfl, cle.refl _⟩ | apply And.intro), HSub.refl _⟩
    · have e : i = xs.length := by omega
      subst e
      rw [List.take_length] at hO
      refine AC.use1 (implStoreOk_ok _ c f a o xs (hx.le hle) hk) ?_
      conv => whnf
      have fin : ¬ (storeOk c f xs = true ∧ repOk l = true ∧ f ≠ 1000000) → Post (MadeSt H c (pushed c f xs l).1 (pushed c f xs l).2) (stAV c f d 0 xs.length) h0 := fun hn => by
        unfold pushed; rw [if_neg hn]
        exact .done ⟨d, 0, N, rfl, hO, hN, hd, hle⟩
      repeat' (first
        | (refine Br.no rfl ?_; conv => whnf)
        | (refine Br.yes rfl ?_; conv => whnf)
        | (refine AC.use1 (implReportOk_ok _ b p l (hy.le hle) hkl (by omega)) ?_; conv => whnf)
        | (refine Two.intro ?_ ?_ <;> conv => whnf)
        | (refine Drawn.intro (by kernel_rfl) ?_; conv => whnf)
        | (refine Br.dec (fun _ => ?_) (fun _ => ?_) <;> conv => whnf)
        | (refine Br.neg (fun _ => ?_) (fun _ => ?_) <;> conv => whnf)
        | (refine Br.both (fun _ => ?_) (fun _ => ?_) <;> conv => whnf))
      · exact fin (by simp_all)
      · exact fin (by simp_all)
      · exact fin (by simp_all)
      · have hok : storeOk c f xs = true ∧ repOk l = true ∧ f ≠ 1000000 := by simp_all
        have hcf : 1 ≤ c ∧ c ≤ 5 ∧ 0 ≤ f ∧ f ≤ 1000000 ∧ (xs.length : Int) ≤ c := by
          have := hok.1; simp [storeOk, inB] at this; omega
        refine AC.mono (clone_ok _ b p l (hy.le hle) hll) ?_
        rintro v h1 ⟨e1, he1, rfl, rfl⟩
        conv => whnf
        refine New.intro fun e2 he2 => ?_
        conv => whnf
        obtain ⟨es, q, g1, _, ⟨_, g3⟩, _⟩ := id hO
        have hne : N.get e1 = none := Hp.le_none hN he1
        have he12 : e1 ≠ e2 := fun e => by subst e; rw [Hp.set_get] at he2; cases he2
        have l1 : h0.le ((h0.set e1 ⟨10, false, l.map R.av⟩).set e2 ⟨1, false, [[.slice e1 10 0 l.length]]⟩) := Hp.le_trans (Hp.le_set _ he1) (Hp.le_set _ he2)
        refine Whole.intro (Hp.set_get _ _ _) rfl (Nat.le_refl 1) ?_
        conv => whnf
        refine Over.intro (l1 _ _ (hN _ _ g1)) rfl rfl ?_
        conv => whnf
        refine Must.intro ⟨by simp only; omega, by show (xs.length + 1) * (tab.at 24).bytes ≤ _; rw [tb24]; omega⟩ ?_
        conv => whnf
        refine New.intro fun d' hd' => ?_
        conv => whnf
        obtain ⟨N', k1, k2, k3, k4⟩ := OwnRR.append (x := l) hO (Hp.le_trans hN l1) hd (Hp.le_trans hle l1) (by rw [Hp.set_other _ _ he12, Hp.set_get]) hne (Hp.le_none hle he1) (l1 _ _ (hN _ _ g1)) hd'
        unfold pushed
        rw [if_pos hok]
        refine Br.dec (fun h5 => ?_) (fun h5 => ?_) <;> conv => whnf
        · refine Cut.intro (by omega) (by omega) (by show (xs.length : Int) + 1 ≤ ((xs.length + 1 : Nat) : Int); omega) ?_
          conv => whnf
          rw [if_pos (by have : ((xs.length + 1 : Nat) : Int) = (xs.length : Int) + 1 := by omega
                         rw [← this]; exact h5)]
          simp (disch := omega) only [wrap_id]
          obtain ⟨x0, r0, hx0⟩ : ∃ x0 r0, xs ++ [l] = x0 :: r0 := by
            cases xs with
            | nil => exact ⟨l, [], rfl⟩
            | cons y ys => exact ⟨y, ys ++ [l], rfl⟩
          have hlen : r0.length = xs.length := by have := congrArg List.length hx0; simp at this; omega
          rw [hx0] at k1 ⊢
          simp only [List.tail_cons]
          exact .done ⟨d', 1, N', by rw [hlen]; rfl, k1.tail, k2, k3, k4⟩
        · rw [if_neg (by have : ((xs.length + 1 : Nat) : Int) = (xs.length : Int) + 1 := by omega
                         rw [← this]; exact h5)]
          exact .done ⟨d', 0, N', by simp only [List.length_append, List.length_cons, List.length_nil]; rfl, k1, k2, k3, k4⟩
  · obtain ⟨N, k1, k2, k3, k4⟩ := OwnRR.empty (H := H) (a := e0) he0
    exact ⟨by simp, k4, N, by simpa using k1, k2, k3⟩
  · exact ⟨rfl, by repeat' (first | exact trivial | exact .inl rfl | apply And.intro), ⟨⟨_, rfl, cle.refl _⟩, ⟨_, rfl, cle.refl _⟩, ⟨_, rfl, .inl rfl, .inl rfl, .inr ⟨rfl, _, _, _, rfl⟩, trivial⟩, trivial⟩, HSub.refl _⟩

set_option maxRecDepth 100000 in
theorem l29Copy_ok (H : Hp) (c f : Int) (a : Addr) (o : Nat) (xs : List (List R)) (hx : SlRR H a o xs) (hk : KSS xs) :
    AC Try.prog 67 [stAV c f a o xs.length] H (MadeSt H c f xs) := by
  refine AC.post ?_
  refine AC_of_vc (T := tab) (D := D67) (esc := []) tab_ok mixed Try.func67 rfl rfl rfl ?_
  conv => whnf
  have hk1 := hk.1
  refine LoopVC.ghost 1 fun e0 he0 => ?_
  refine LoopVC.intro (fun z : Nat × Hp × Addr => (⟨Try.f67.ntmps, [(4, .int .i64 z.1), (1, .lptr 1 0), (2, .lptr 2 0), (3, .lptr 3 0)], [(1, [.int .i64 c, .int .i64 f, .slice a 1 o xs.length]), (2, [.int .i64 0, .int .i64 0, .nils]), (3, [.int .i64 c, .int .i64 f, .slice z.2.2 1 0 z.1])], z.2.1⟩ : St))
    (fun z => z.1 ≤ xs.length ∧ H.le z.2.1 ∧ ∃ N, OwnRR N z.2.2 0 (xs.take z.1) ∧ N.le z.2.1 ∧ Dj N H) (fun z => xs.length - z.1) (fun z hi K hK => ?_) (0, H.set e0 ⟨1, false, []⟩, e0) ?_ ?_
  · obtain ⟨i, h0, d⟩ := z
    obtain ⟨hi1, hle, N, hO, hN, hd⟩ := hi
    simp only at hi1 hle hO hN ⊢
    conv => whnf
    refine Br.dec (fun h => ?_) (fun h => ?_) <;> conv => whnf
    · have h : i < xs.length := by omega
      refine Drawn.intro (by kernel_rfl) ?_
      conv => whnf
      refine Idx.nat h ?_
      conv => whnf
      refine (hx.le hle).ld h fun b1 p1 hb1 => ?_
      conv => whnf
      obtain ⟨ra, ga⟩ : ∃ ra, h0.get a = some ra := by obtain ⟨q, ⟨ra, ga, _⟩, _⟩ := hx.le hle; exact ⟨ra, ga⟩
      refine Has.intro ga ?_
      conv => whnf
      refine New.intro fun e3 he3 => ?_
      conv => whnf
      obtain ⟨he3, hne3⟩ := Hp.none_set he3
      refine Has.intro (r := frz ra) (by rw [Hp.set_other _ _ (Ne.symm hne3), Hp.set_get]) ?_
      conv => whnf
      rw [Hp.thaw1 ga hne3]
      have hb1' : Sl (h0.set e3 ⟨10, false, []⟩) b1 10 p1 (xs[i].map R.av) := hb1.set he3
      have hw := fun K k => Sl.whole (K := K) hb1' k
      have hlen : (xs[i].map R.av).length = xs[i].length := List.length_map _
      rw [hlen] at hw
      refine hw _ ?_
      conv => whnf
      refine Over.intro (Hp.set_get _ _ _) rfl rfl ?_
      conv => whnf
      have hxl := (hk.2 _ (List.getElem_mem h)).2
      refine Must.intro ⟨Nat.le_refl 0, by rw [hlen, tb49]; omega⟩ ?_
      conv => whnf
      refine New.intro fun e1 he1 => ?_
      conv => whnf
      rw [Hp.set_del _ _ he3] at he1 ⊢
      simp only [List.length_map, Nat.zero_add, List.nil_append]
      refine New.intro fun e2 he2 => ?_
      conv => whnf
      obtain ⟨es, q, g1, _, ⟨_, g3⟩, _⟩ := id hO
      have htk : (xs.take i).length = i := by simp; omega
      have hne : N.get e1 = none := Hp.le_none hN he1
      have he12 : e1 ≠ e2 := fun e => by subst e; rw [Hp.set_get] at he2; cases he2
      have l1 : h0.le ((h0.set e1 ⟨10, false, xs[i].map R.av⟩).set e2 ⟨1, false, [[.slice e1 10 0 xs[i].length]]⟩) := Hp.le_trans (Hp.le_set _ he1) (Hp.le_set _ he2)
      refine Whole.intro (Hp.set_get _ _ _) rfl (Nat.le_refl 1) ?_
      conv => whnf
      refine Over.intro (l1 _ _ (hN _ _ g1)) rfl rfl ?_
      conv => whnf
      refine Must.intro ⟨by simp only; omega, by show (i + 1) * (tab.at 24).bytes ≤ _; rw [tb24]; omega⟩ ?_
      conv => whnf
      refine New.intro fun d' hd' => ?_
      conv => whnf
      obtain ⟨N', k1, k2, k3, k4⟩ := OwnRR.append (x := xs[i]) hO (Hp.le_trans hN l1) hd (Hp.le_trans hle l1) (by rw [Hp.set_other _ _ he12, Hp.set_get]) hne (Hp.le_none hle he1) (l1 _ _ (hN _ _ g1)) hd'
      rw [htk] at k2 k4
      rw [← List.take_succ_eq_append_getElem h] at k1
      simp (disch := omega) only [wrap_id]
      exact hK (i + 1, _, d') _ ⟨h, k4, N', k1, k2, k3⟩ (by simp only; omega) ⟨rfl, by repeat' (first | exact trivial | exact .inl rfl | apply And.intro), by repeat' (first | exact trivial | exact ⟨_, rfl, cle.refl _⟩ | apply And.intro), HSub.refl _⟩
    · have e : i = xs.length := by omega
      subst e
      rw [List.take_length] at hO
      exact .done ⟨d, 0, N, rfl, hO, hN, hd, hle⟩
  · obtain ⟨N, k1, k2, k3, k4⟩ := OwnRR.empty (H := H) (a := e0) he0
    exact ⟨by simp, k4, N, by simpa using k1, k2, k3⟩
  · exact ⟨rfl, by repeat' (first | exact trivial | exact .inl rfl | apply And.intro), ⟨⟨_, rfl, cle.refl _⟩, ⟨_, rfl, cle.refl _⟩, ⟨_, rfl, .inl rfl, .inl rfl, .inr ⟨rfl, _, _, _, rfl⟩, trivial⟩, trivial⟩, HSub.refl _⟩

end Go.Proofs.Ytdbedlomiedncaa.Vc
