/- Copies of slices of slices; marks on them. -/
import Derived.Test.YtdbedlomiedncaaB5
namespace Go.Proofs.Ytdbedlomiedncaa.Vc
open Go

set_option maxRecDepth 100000 in
theorem toRowSS_ok (H : Hp) (a : Addr) (o : Nat) (xs : List (List R)) (hx : SlRR H a o xs) (hk : KSS xs) :
    AC Try.prog 68 [.slice a 1 o xs.length] H fun v h => ∃ b N, v = .slice b 1 0 xs.length ∧ OwnRR N b 0 xs ∧ N.le h ∧ Dj N H ∧ H.le h := by
  refine AC_of_vc (T := tab) (D := D68) (esc := []) tab_ok mixed Try.func68 rfl rfl rfl ?_
  conv => whnf
  have hk1 := hk.1
  refine Must.intro (by refine ⟨by omega, by omega, ?_, by omega⟩; show (24 : Nat) * (xs.length : Int) ≤ _; omega) ?_
  conv => whnf
  refine New.intro fun b hb => ?_
  conv => whnf
  let Z : Nat → List (Addr × Nat × Nat) → List (List AV) := fun i q => q.map srow ++ List.replicate (xs.length - i) [.nils]
  refine LoopVC.intro (fun p : Nat × Hp => (⟨Try.f68.ntmps, [(4, .int .i64 p.1), (3, .slice b 1 0 xs.length), (0, .slice a 1 o xs.length)], [], p.2⟩ : St))
    (fun p => p.1 ≤ xs.length ∧ H.le p.2 ∧ ∃ N q, p.2.get b = some ⟨1, false, Z p.1 q⟩ ∧ N.le p.2 ∧ Dj N H ∧ N.get b = none ∧ q.length = p.1 ∧ (∀ i (h : i < q.length) (h' : i < xs.length), q[i].2.2 = xs[i].length ∧ ∃ ws, N.get q[i].1 = some ⟨10, false, ws⟩ ∧ (ws.drop q[i].2.1).take xs[i].length = xs[i].map R.av ∧ q[i].2.1 + xs[i].length ≤ ws.length) ∧ (∀ i j (h : i < q.length) (h' : j < q.length), q[i].1 = q[j].1 → i = j))
    (fun p => xs.length - p.1) (fun p hi K hK => ?_) (0, H.set b ⟨1, false, List.replicate xs.length [.nils]⟩) ⟨by simp, Hp.le_set _ hb, ⟨fun _ => none⟩, [], ?_, (fun _ _ h => by cases h), fun _ => .inl rfl, rfl, rfl, by simp, by simp⟩ ⟨rfl, by repeat' (first | exact trivial | exact .inl rfl | apply And.intro), by repeat' (first | exact trivial | exact ⟨_, rfl, cle.refl _⟩ | apply And.intro), HSub.refl _⟩
  · obtain ⟨i, h0⟩ := p
    obtain ⟨hi1, hle, N, q, hgb, hN, hd, hNb, hql, hq, hinj⟩ := hi
    simp only at hi1 hle hgb hN hql ⊢
    conv => whnf
    refine Br.dec (fun h => ?_) (fun h => ?_) <;> conv => whnf
    · have h : i < xs.length := by omega
      refine Idx.nat h ?_
      conv => whnf
      refine (hx.le hle).ld h fun b1 p1 hb1 => ?_
      conv => whnf
      refine AC.mono (toRowS' hb1 (hk.2 _ (List.getElem_mem h)).2) ?_
      rintro v h1 ⟨c, hc, rfl, rfl⟩
      conv => whnf
      refine Idx.nat h ?_
      conv => whnf
      have hbc : b ≠ c := Hp.ne_of hgb hc
      have hgb' : (h0.set c ⟨10, false, xs[i].map R.av⟩).get b = some ⟨1, false, Z i q⟩ := by rw [Hp.set_other _ _ hbc]; exact hgb
      have hz : (Z i q)[0 + i]? = some [.nils] := by
        simp only [Z, Nat.zero_add]
        rw [List.getElem?_append_right (by simp; omega), List.length_map, hql, Nat.sub_self, List.getElem?_replicate, if_pos (by omega)]
      refine Sto.intro hgb' rfl rfl hz ?_
      conv => whnf
      simp (disch := omega) only [wrap_id]
      have hNc : N.get c = none := Hp.le_none hN hc
      have hH : H.get b = none := hb
      have hHc : H.get c = none := Hp.le_none hle hc
      refine hK (i + 1, (h0.set c ⟨10, false, xs[i].map R.av⟩).set b ⟨1, false, (Z i q).set (0 + i) [.slice c 10 0 xs[i].length]⟩) _ ⟨h, ?_, N.set c ⟨10, false, xs[i].map R.av⟩, q ++ [(c, 0, xs[i].length)], Hp.set_get _ _ _ |>.trans ?_, ?_, ?_, ?_, by simp [hql], ?_, ?_⟩ (by simp only; omega) ⟨rfl, by repeat' (first | exact trivial | exact .inl rfl | apply And.intro), by repeat' (first | exact trivial | exact ⟨_, rfl, cle.refl _⟩ | apply And.intro), HSub.refl _⟩
      · intro x r hxr
        have : x ≠ b := Hp.ne_of hxr hb
        rw [Hp.set_other _ _ this]
        exact (Hp.le_trans hle (Hp.le_set _ hc)) _ _ hxr
      · congr 2
        simp only [Z, Nat.zero_add]
        have e : xs.length - i = (xs.length - (i + 1)) + 1 := by omega
        rw [List.set_append_right _ _ (by simp; omega), List.length_map, hql, Nat.sub_self, e, List.replicate_succ, List.set_cons_zero, List.map_append, List.append_assoc]
        rfl
      · intro x r hxr
        by_cases e : x = c
        · subst e; rw [Hp.set_get] at hxr; rw [Hp.set_other _ _ (Ne.symm hbc), Hp.set_get]; exact hxr
        · rw [Hp.set_other _ _ e] at hxr
          have : x ≠ b := Hp.ne_of hxr hNb
          rw [Hp.set_other _ _ this, Hp.set_other _ _ e]; exact hN _ _ hxr
      · intro x
        by_cases e : x = c
        · subst e; exact .inr hHc
        · rw [Hp.set_other _ _ e]; exact hd x
      · rw [Hp.set_other _ _ hbc]; exact hNb
      · intro j hj hj'
        by_cases e : j < q.length
        · rw [List.getElem_append_left e]
          obtain ⟨z1, ws, z2, z3⟩ := hq j e hj'
          exact ⟨z1, ws, by rw [Hp.set_other _ _ (Hp.ne_of z2 hNc)]; exact z2, z3⟩
        · have e1 : j = i := by simp at hj; omega
          subst e1
          rw [List.getElem_append_right (by omega)]
          simp only [hql, Nat.sub_self, List.getElem_singleton]
          exact ⟨trivial, _, Hp.set_get _ _ _, by rw [List.drop_zero, List.take_of_length_le (by simp)], by simp⟩
      · intro j k hj hk e
        simp only [List.length_append, List.length_cons, List.length_nil] at hj hk
        have no : ∀ m (hm : m < q.length), q[m].1 ≠ c := fun m hm e => by
          obtain ⟨_, ws, z2, _⟩ := hq m hm (by omega)
          rw [e, hNc] at z2; cases z2
        by_cases e1 : j < q.length <;> by_cases e2 : k < q.length
        · rw [List.getElem_append_left e1, List.getElem_append_left e2] at e; exact hinj j k e1 e2 e
        · rw [List.getElem_append_left e1, List.getElem_append_right (by omega)] at e
          simp at e; exact absurd e (no j e1)
        · rw [List.getElem_append_right (by omega), List.getElem_append_left e2] at e
          simp at e; exact absurd e.symm (no k e2)
        · omega
    · have e : i = xs.length := by omega
      subst e
      refine ⟨b, N.set b ⟨1, false, q.map srow⟩, rfl, ⟨_, q, Hp.set_get _ _ _, ?_, ⟨hql, by simp [hql]⟩, fun j hj hj' => ?_, hinj, fun j hj e => ?_⟩, fun x r hxr => ?_, fun x => ?_, hle⟩
      · rw [List.drop_zero, List.take_of_length_le (by simp [hql])]
      · obtain ⟨z1, ws, z2, z3⟩ := hq j hj hj'
        exact ⟨z1, ws, by rw [Hp.set_other _ _ (Hp.ne_of z2 hNb)]; exact z2, z3⟩
      · obtain ⟨z1, ws, z2, z3⟩ := hq j hj (by omega)
        rw [e, hNb] at z2; cases z2
      · by_cases e : x = b
        · subst e; rw [Hp.set_get] at hxr
          simp only [Z, Nat.sub_self, List.replicate_zero, List.append_nil] at hgb
          rw [hgb]; exact hxr
        · rw [Hp.set_other _ _ e] at hxr; exact hN _ _ hxr
      · by_cases e : x = b
        · subst e; exact .inr hb
        · rw [Hp.set_other _ _ e]; exact hd x
  · rw [Hp.set_get]; simp only [Z]; rfl

def mkRowss : Int → List Nat → List (List R)
  | _, [] => []
  | k, n :: ns => mkRows k n :: mkRowss (k + 10 * n) ns

theorem mkRowss_append : ∀ (k : Int) (ns : List Nat) (n : Nat), mkRowss k (ns ++ [n]) = mkRowss k ns ++ [mkRows (k + 10 * ns.sum) n]
  | k, [], n => by simp [mkRowss]
  | k, m :: ns, n => by
    rw [List.cons_append, mkRowss, mkRowss_append, mkRowss, List.cons_append]
    congr 4
    simp only [List.sum_cons]; omega

theorem mkRowss_length : ∀ (k : Int) (ns : List Nat), (mkRowss k ns).length = ns.length
  | _, [] => rfl
  | k, n :: ns => by rw [mkRowss, List.length_cons, mkRowss_length, List.length_cons]

theorem markRowS' {H : Hp} {a : Addr} {o : Nat} {x : List R} {ws : List (List AV)} {k : Int} (ha : H.get a = some ⟨10, false, ws⟩) (hx : (ws.drop o).take x.length = x.map R.av) (hl : x.length ≤ 1048576) (hk : 0 ≤ k ∧ k ≤ 1073741824) :
    AC Try.prog 15 [.slice a 10 o x.length, .int .i64 k] H fun v h => v = .int .i64 (k + 10 * x.length) ∧ h = H.set a ⟨10, false, ws.take o ++ (mkRows k x.length).map R.av ++ ws.drop (o + x.length)⟩ :=
  markRowS_ok H a o ⟨10, false, ws⟩ x k ha rfl rfl hx hl hk

theorem window_set {ws : List (List AV)} {o : Nat} {x : List R} {y : List R} (hx : (ws.drop o).take x.length = x.map R.av) (hy : y.length = x.length) :
    ((ws.take o ++ y.map R.av ++ ws.drop (o + x.length)).drop o).take x.length = y.map R.av := by
  by_cases h0 : x.length = 0
  · have : y = [] := List.length_eq_zero_iff.1 (by omega)
    rw [h0, this]; simp
  have hl : o + x.length ≤ ws.length := by
    have := congrArg List.length hx; simp at this; omega
  have h1 : (ws.take o).length = o := by simp; omega
  rw [List.append_assoc, List.drop_append_of_le_length (by omega), List.drop_of_length_le (by omega), List.nil_append, List.take_append_of_le_length (by simp; omega), List.take_of_length_le (by simp; omega)]

set_option maxRecDepth 100000 in
theorem markRowSS_ok (H N : Hp) (a : Addr) (o : Nat) (xs : List (List R)) (k : Int) (hO : OwnRR N a o xs) (hN : N.le H) (hk : KSS xs) (hk0 : 0 ≤ k ∧ k + 10 * (xs.map List.length).sum ≤ 1073741824) :
    AC Try.prog 71 [.slice a 1 o xs.length, .int .i64 k] H fun v h => v = .int .i64 (k + 10 * (xs.map List.length).sum) ∧ ∃ N', OwnRR N' a o (mkRowss k (xs.map List.length)) ∧ N'.le h ∧ ∀ b, N.get b = none → N'.get b = none ∧ h.get b = H.get b := by
  refine AC_of_vc (T := tab) (D := D71) (esc := []) tab_ok mixed Try.func71 rfl rfl rfl ?_
  conv => whnf
  have hk1 := hk.1
  obtain ⟨es, q, h1, h2, ⟨h3, h3'⟩, h4, h5, h6⟩ := hO
  refine LoopVC.intro (fun p : Nat × Hp => (⟨Try.f71.ntmps, [(5, .int .i64 p.1), (1, .int .i64 (k + 10 * (((xs.take p.1).map List.length).sum : Nat))), (0, .slice a 1 o xs.length)], [], p.2⟩ : St))
    (fun p => p.1 ≤ xs.length ∧ ∃ N', N'.le p.2 ∧ (∀ b, N.get b = none → N'.get b = none ∧ p.2.get b = H.get b) ∧ N'.get a = some ⟨1, false, es⟩ ∧
      ∀ i (h : i < q.length) (h' : i < xs.length), ∃ ws, N'.get q[i].1 = some ⟨10, false, ws⟩ ∧ (ws.drop q[i].2.1).take xs[i].length = (if i < p.1 then mkRows (k + 10 * (((xs.take i).map List.length).sum : Nat)) xs[i].length else xs[i]).map R.av ∧ q[i].2.1 + xs[i].length ≤ ws.length)
    (fun p => xs.length - p.1) (fun p hi K hK => ?_) (0, H) ⟨by simp, N, hN, fun b hb => ⟨hb, rfl⟩, h1, fun i hi hi' => ?_⟩ ⟨rfl, ⟨.inl rfl, .inl (by simp [alGet]), .inl rfl, trivial⟩, trivial, HSub.refl _⟩
  · obtain ⟨i, h0⟩ := p
    obtain ⟨hi1, N', hN', hout, hga, hq⟩ := hi
    simp only at hi1 hN' hout ⊢
    conv => whnf
    refine Br.dec (fun h => ?_) (fun h => ?_) <;> conv => whnf
    · have h : i < xs.length := by omega
      have hiq : i < q.length := by omega
      refine Idx.nat h ?_
      conv => whnf
      have hsl : Sl h0 a 1 o (q.map srow) := ⟨_, hN' _ _ hga, rfl, by rw [List.length_map, h3]; exact h2, by rw [List.length_map, h3]; exact h3'⟩
      refine hsl.ld hiq ?_
      conv => whnf
      obtain ⟨ws, g1, g2, g3⟩ := hq i hiq h
      rw [if_neg (Nat.lt_irrefl _)] at g2
      have hsum : ((xs.take (i + 1)).map List.length).sum = ((xs.take i).map List.length).sum + xs[i].length := by
        rw [List.take_succ_eq_append_getElem h, List.map_append, List.sum_append]; rfl
      have hle : ((xs.take (i + 1)).map List.length).sum ≤ (xs.map List.length).sum := by
        conv => rhs; rw [← List.take_append_drop (i + 1) xs, List.map_append, List.sum_append]
        omega
      rw [(h4 i hiq h).1]
      refine AC.mono (markRowS' (hN' _ _ g1) g2 (hk.2 _ (List.getElem_mem h)).2 ⟨by omega, by omega⟩) ?_
      rintro v h' ⟨rfl, rfl⟩
      conv => whnf
      simp (disch := omega) only [wrap_id]
      refine hK (i + 1, h0.set q[i].1 ⟨10, false, ws.take q[i].2.1 ++ (mkRows (k + 10 * (((xs.take i).map List.length).sum : Nat)) xs[i].length).map R.av ++ ws.drop (q[i].2.1 + xs[i].length)⟩) _ ⟨h, N'.set q[i].1 ⟨10, false, ws.take q[i].2.1 ++ (mkRows (k + 10 * (((xs.take i).map List.length).sum : Nat)) xs[i].length).map R.av ++ ws.drop (q[i].2.1 + xs[i].length)⟩, ?_, ?_, ?_, ?_⟩ (by simp only; omega) ⟨rfl, ⟨.inl rfl, .inl ?_, .inl rfl, trivial⟩, trivial, HSub.refl _⟩
      · intro x r hxr
        by_cases e : x = q[i].1
        · subst e; rw [Hp.set_get] at hxr ⊢; exact hxr
        · rw [Hp.set_other _ _ e] at hxr ⊢; exact hN' _ _ hxr
      · intro b hb
        have hne : b ≠ q[i].1 := fun e => by
          subst e; rw [(hout _ hb).1] at g1; cases g1
        rw [Hp.set_other _ _ hne, Hp.set_other _ _ hne]; exact hout b hb
      · rw [Hp.set_other _ _ (Ne.symm (h6 i hiq))]; exact hga
      · intro j hj hj'
        by_cases e : j = i
        · subst e
          refine ⟨_, Hp.set_get _ _ _, ?_, by simp [mkRows_length]; omega⟩
          simp only
          rw [if_pos (by omega), window_set g2 (mkRows_length _ _)]
        · obtain ⟨ws', z1, z2, z3⟩ := hq j hj hj'
          refine ⟨ws', ?_, ?_, z3⟩
          · rw [Hp.set_other _ _ (fun e' => e (h5 j i hj hiq e'))]; exact z1
          · rw [z2]; simp only
            by_cases e2 : j < i
            · rw [if_pos e2, if_pos (by omega)]
            · rw [if_neg e2, if_neg (by omega)]
      · show AV.int .i64 _ = AV.int .i64 _
        rw [hsum]; congr 1; omega
    · have e : i = xs.length := by omega
      subst e
      rw [List.take_length]
      refine ⟨rfl, N', ⟨es, q, hga, by rw [mkRowss_length, List.length_map]; exact h2, by rw [mkRowss_length, List.length_map]; exact ⟨h3, h3'⟩, fun j hj hj' => ?_, h5, h6⟩, hN', hout⟩
      have hjx : j < xs.length := by omega
      obtain ⟨ws, z1, z2, z3⟩ := hq j hj hjx
      rw [if_pos hjx] at z2
      have hm : (mkRowss k (xs.map List.length))[j] = mkRows (k + 10 * (((xs.take j).map List.length).sum : Nat)) xs[j].length := by
        have key : ∀ (ys : List (List R)) (k : Int) (j : Nat) (h : j < ys.length) (h' : j < (mkRowss k (ys.map List.length)).length), (mkRowss k (ys.map List.length))[j] = mkRows (k + 10 * (((ys.take j).map List.length).sum : Nat)) ys[j].length := by
          intro ys
          induction ys with
          | nil => intro k j h; simp at h
          | cons y ys ih =>
            intro k j h h'
            cases j with
            | zero => simp [mkRowss]
            | succ j =>
              simp only [List.map_cons, mkRowss, List.getElem_cons_succ, List.take_succ_cons, List.sum_cons]
              rw [ih _ j (by simpa using h)]
              congr 1; omega
        exact key xs k j hjx _
      rw [hm, mkRows_length]
      exact ⟨(h4 j hj hjx).1, ws, z1, z2, z3⟩
  · obtain ⟨_, ws, z1, z2, z3⟩ := h4 i hi hi'
    exact ⟨ws, z1, by simpa using z2, z3⟩

end Go.Proofs.Ytdbedlomiedncaa.Vc
