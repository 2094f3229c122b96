/- The reference's push; the law: the program's Push returns what the reference's returns. -/
import Derived.Test.YtdbedlomiedncaaB7
namespace Go.Proofs.Ytdbedlomiedncaa.Vc
open Go

set_option maxRecDepth 100000 in
theorem specPush_ok (H : Hp) (c f : Int) (a b : Addr) (o p : Nat) (xs : List (List R)) (l : List R) (hx : SlRR H a o xs) (hk : KSS xs) (hy : SlR H b p l) (hkl : KS l) (hll : l.length ≤ 1048576) :
    AC Try.prog 18 [stAV c f a o xs.length, .slice b 10 p l.length] H (MadeSt H c (pushed c f xs l).1 (pushed c f xs l).2) := by
  refine AC.post ?_
  refine AC_of_vc (T := tab) (D := D18) (esc := []) tab_ok mixed Try.func18 rfl rfl rfl ?_
  conv => whnf
  have hk1 := hk.1
  refine AC.mono (l29Copy_ok H c f a o xs hx hk) ?_
  rintro v h0 ⟨d, od, N, rfl, hO, hN, hd, hle⟩
  conv => whnf
  refine AC.use1 (specStoreOk_ok _ c f a o xs (hx.le hle) hk) ?_
  conv => whnf
  have fin : ¬ (storeOk c f xs = true ∧ repOk l = true ∧ f ≠ 1000000) → Post (MadeSt H c (pushed c f xs l).1 (pushed c f xs l).2) (stAV c f d od xs.length) h0 := fun hn => by
    unfold pushed; rw [if_neg hn]
    exact .done ⟨d, od, N, rfl, hO, hN, hd, hle⟩
  repeat' (first
    | (refine Br.no rfl ?_; conv => whnf)
    | (refine Br.yes rfl ?_; conv => whnf)
    | (refine AC.use1 (specReportOk_ok _ b p l (hy.le hle) hkl (by omega)) ?_; conv => whnf)
    | (refine Two.intro ?_ ?_ <;> conv => whnf)
    | (refine Drawn.intro (by kernel_rfl) ?_; conv => whnf)
    | (refine Br.dec (fun _ => ?_) (fun _ => ?_) <;> conv => whnf)
    | (refine Br.neg (fun _ => ?_) (fun _ => ?_) <;> conv => whnf)
    | (refine Br.both (fun _ => ?_) (fun _ => ?_) <;> conv => whnf))
  · exact fin (by simp_all)
  · exact fin (by simp_all)
  · exact fin (by simp_all)
  · have hok : storeOk c f xs = true ∧ repOk l = true ∧ f ≠ 1000000 := by simp_all
    have hcf : 1 ≤ c ∧ c ≤ 5 ∧ 0 ≤ f ∧ f ≤ 1000000 ∧ (xs.length : Int) ≤ c := by
      have := hok.1; simp [storeOk, inB] at this; omega
    refine New.intro fun e3 he3 => ?_
    conv => whnf
    have hy' : Sl (h0.set e3 ⟨10, false, []⟩) b 10 p (l.map R.av) := Sl.set (hy.le hle) he3
    have hw := fun K k => Sl.whole (K := K) hy' k
    have hlen : (l.map R.av).length = l.length := List.length_map _
    rw [hlen] at hw
    refine hw _ ?_
    conv => whnf
    refine Over.intro (Hp.set_get _ _ _) rfl rfl ?_
    conv => whnf
    refine Must.intro ⟨Nat.le_refl 0, by rw [hlen, tb49]; omega⟩ ?_
    conv => whnf
    refine New.intro fun e1 he1 => ?_
    conv => whnf
    rw [Hp.set_del _ _ he3] at he1 ⊢
    simp only [List.length_map, Nat.zero_add, List.nil_append]
    refine New.intro fun e2 he2 => ?_
    conv => whnf
    obtain ⟨es, q, g1, _, ⟨_, g3⟩, _⟩ := id hO
    have hne : N.get e1 = none := Hp.le_none hN he1
    have he12 : e1 ≠ e2 := fun e => by subst e; rw [Hp.set_get] at he2; cases he2
    have l1 : h0.le ((h0.set e1 ⟨10, false, l.map R.av⟩).set e2 ⟨1, false, [[.slice e1 10 0 l.length]]⟩) := Hp.le_trans (Hp.le_set _ he1) (Hp.le_set _ he2)
    refine Whole.intro (Hp.set_get _ _ _) rfl (Nat.le_refl 1) ?_
    conv => whnf
    refine Over.intro (l1 _ _ (hN _ _ g1)) rfl rfl ?_
    conv => whnf
    refine Must.intro ⟨by simp only; omega, by show (xs.length + 1) * (tab.at 24).bytes ≤ _; rw [tb24]; omega⟩ ?_
    conv => whnf
    refine New.intro fun d' hd' => ?_
    conv => whnf
    obtain ⟨N', k1, k2, k3, k4⟩ := OwnRR.append (x := l) hO (Hp.le_trans hN l1) hd (Hp.le_trans hle l1) (by rw [Hp.set_other _ _ he12, Hp.set_get]) hne (Hp.le_none hle he1) (l1 _ _ (hN _ _ g1)) hd'
    unfold pushed
    rw [if_pos hok]
    refine Br.dec (fun h5 => ?_) (fun h5 => ?_) <;> conv => whnf
    · refine Cut.intro (by omega) (by omega) (by show (xs.length : Int) + 1 ≤ ((xs.length + 1 : Nat) : Int); omega) ?_
      conv => whnf
      rw [if_pos (by have : ((xs.length + 1 : Nat) : Int) = (xs.length : Int) + 1 := by omega
                     rw [← this]; exact h5)]
      simp (disch := omega) only [wrap_id]
      obtain ⟨x0, r0, hx0⟩ : ∃ x0 r0, xs ++ [l] = x0 :: r0 := by
        cases xs with
        | nil => exact ⟨l, [], rfl⟩
        | cons y ys => exact ⟨y, ys ++ [l], rfl⟩
      have hlen : r0.length = xs.length := by have := congrArg List.length hx0; simp at this; omega
      rw [hx0] at k1 ⊢
      simp only [List.tail_cons]
      exact .done ⟨d', 1, N', by rw [hlen]; rfl, k1.tail, k2, k3, k4⟩
    · rw [if_neg (by have : ((xs.length + 1 : Nat) : Int) = (xs.length : Int) + 1 := by omega
                     rw [← this]; exact h5)]
      exact .done ⟨d', 0, N', by simp only [List.length_append, List.length_cons, List.length_nil]; rfl, k1, k2, k3, k4⟩

end Go.Proofs.Ytdbedlomiedncaa.Vc
