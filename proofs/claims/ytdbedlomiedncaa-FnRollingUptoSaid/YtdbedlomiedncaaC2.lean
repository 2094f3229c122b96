/- Reports merged: the reference. -/
import Derived.Test.YtdbedlomiedncaaC1
namespace Go.Proofs.Ytdbedlomiedncaa.Vc
open Go

theorem rowIx_here {l : List R} {k : List UInt8} {i : Nat} (h : i < l.length) (hn : NoTo (fun r : R => r.key == k) l i) (e : (l[i].key == k) = true) : rowIx l k = (i : Int) :=
  idxF_at h (fun j hj hji => hn j hj hji) e

set_option maxRecDepth 100000 in
theorem specMergeReport_ok (H : Hp) (a b : Addr) (o p : Nat) (x y : List R) (hx : SlR H a o x) (hy : SlR H b p y) (hsx : SB x) (hsy : SB y) (hl : x.length + y.length ≤ 1048576) :
    AC Try.prog 86 [.slice a 10 o x.length, .slice b 10 p y.length] H (MadeR H (mergeRep x y)) := by
  refine AC.post ?_
  refine AC_of_vc (T := tab) (D := D86) (esc := []) tab_ok mixed Try.func86 rfl rfl rfl ?_
  conv => whnf
  refine New.intro fun e0 he0 => ?_
  conv => whnf
  have hxe := Sl.set (r := ⟨10, false, []⟩) hx he0
  have hlx : (x.map R.av).length = x.length := List.length_map _
  have hw := fun K k => Sl.whole (K := K) hxe k
  rw [hlx] at hw
  refine hw _ ?_
  conv => whnf
  refine Over.intro (Hp.set_get _ _ _) rfl rfl ?_
  conv => whnf
  refine Must.intro ⟨Nat.le_refl 0, by rw [hlx, tb49]; omega⟩ ?_
  conv => whnf
  refine New.intro fun c0 hc0 => ?_
  conv => whnf
  rw [Hp.set_del _ _ he0] at hc0 ⊢
  simp only [List.length_map, Nat.zero_add]
  refine LoopVC.intro (fun z : Nat × Addr => (⟨Try.f86.ntmps, [(6, .int .i64 z.1), (5, .slice z.2 10 0 (mergeRep x (y.take z.1)).length), (1, .slice b 10 p y.length)], [], H.set z.2 ⟨10, false, (mergeRep x (y.take z.1)).map R.av⟩⟩ : St))
    (fun z => z.1 ≤ y.length ∧ H.get z.2 = none) (fun z => y.length - z.1) (fun z hi K hK => ?_) (0, c0) ⟨by omega, hc0⟩ ⟨rfl, by repeat' (first | exact trivial | exact .inl rfl | apply And.intro), by repeat' (first | exact trivial | exact ⟨_, rfl, cle.refl _⟩ | apply And.intro), HSub.refl _⟩
  obtain ⟨i, c⟩ := z
  obtain ⟨hi1, hc⟩ := hi
  simp only at hi1 hc ⊢
  conv => whnf
  refine Br.dec (fun h => ?_) (fun h => ?_) <;> conv => whnf
  · have h : i < y.length := by omega
    have hL1 : (mergeRep x (y.take i)).length ≤ x.length + i := by
      have := mergeRep_length x (y.take i)
      rw [List.length_take] at this; omega
    have hL2 : SB (mergeRep x (y.take i)) := mergeRep_sb hsx fun r hr => hsy r (List.mem_of_mem_take hr)
    have hnext := mergeRep_take (x := x) h
    generalize hLe : mergeRep x (y.take i) = L at hL1 hL2 hnext ⊢
    have hr := hsy _ (List.getElem_mem h)
    refine LoopVC.intro (fun z : Nat × Bool => (⟨Try.f86.ntmps, [(8, .int .i64 z.1), (7, .bool z.2), (6, .int .i64 i), (5, .slice c 10 0 L.length), (1, .slice b 10 p y.length)], [], H.set c ⟨10, false, (if z.2 = true then mergeOne L y[i] else L).map R.av⟩⟩ : St))
      (fun z => z.1 ≤ L.length ∧ if z.2 = true then 0 ≤ rowIx L y[i].key else NoTo (fun r : R => r.key == y[i].key) L z.1) (fun z => L.length - z.1 + if z.2 = true then 0 else 1) (fun z hj K2 hK2 => ?_) (0, false) ⟨by omega, fun _ _ h => by omega⟩ ⟨rfl, by repeat' (first | exact trivial | exact .inl rfl | apply And.intro), by repeat' (first | exact trivial | exact ⟨_, rfl, cle.refl _⟩ | apply And.intro), HSub.refl _⟩
    obtain ⟨j, f⟩ := z
    obtain ⟨hj1, hj2⟩ := hj
    simp only at hj1 hj2 ⊢
    conv => whnf
    have hld1 := fun K r k => (Sl.set (r := r) hy hc).ld (K := K) h k
    cases f with
    | true =>
      simp only [if_true] at hj2 ⊢
      obtain ⟨m, hm, hm'⟩ := rowIx_at (x := L) (k := y[i].key) (by omega)
      have hlen : (mergeOne L y[i]).length = L.length := by rw [mergeOne_at hm hm', List.length_set]
      repeat' (first
        | (refine Br.no rfl ?_; conv => whnf)
        | (refine Br.yes rfl ?_; conv => whnf)
        | (refine Two.intro ?_ ?_ <;> conv => whnf)
        | (refine Drawn.intro (by kernel_rfl) ?_; conv => whnf)
        | (refine Br.dec (fun _ => ?_) (fun _ => ?_) <;> conv => whnf)
        | (refine Br.neg (fun _ => ?_) (fun _ => ?_) <;> conv => whnf)
        | (refine Br.both (fun _ => ?_) (fun _ => ?_) <;> conv => whnf))
      all_goals
        simp (disch := omega) only [wrap_id]
        have hs := fun s' => hK (i + 1, c) s' ⟨‹i < y.length›, hc⟩ (by simp only; omega)
        simp only [hnext, hlen] at hs
        exact hs _ ⟨rfl, by repeat' (first | exact trivial | exact .inl rfl | apply And.intro), by repeat' (first | exact trivial | exact ⟨_, rfl, cle.refl _⟩ | apply And.intro), HSub.refl _⟩
    | false =>
      simp only [Bool.false_eq_true, if_false] at hj2 ⊢
      refine Br.dec (fun h2 => ?_) (fun h2 => ?_) <;> conv => whnf
      · have h2 : j < L.length := by omega
        repeat' (first
          | (refine Br.no rfl ?_; conv => whnf)
          | (refine Br.yes rfl ?_; conv => whnf)
          | (refine Idx.nat h ?_; conv => whnf)
          | (refine Idx.nat h2 ?_; conv => whnf)
          | (refine hld1 _ _ ?_; conv => whnf)
          | (refine SlR.new.ld h2 ?_; conv => whnf)
          | (refine AC.use1 (specMerge_ok _ L[j] y[i] (hL2 _ (List.getElem_mem h2)) hr) ?_; conv => whnf)
          | (refine Sto.intro (Hp.set_get _ _ _) rfl rfl (by rw [Nat.zero_add, List.getElem?_map, List.getElem?_eq_getElem h2] <;> rfl) ?_; conv => whnf)
          | (refine Two.intro ?_ ?_ <;> conv => whnf)
          | (refine Drawn.intro (by kernel_rfl) ?_; conv => whnf)
          | (refine Br.dec (fun _ => ?_) (fun _ => ?_) <;> conv => whnf)
          | (refine Br.neg (fun _ => ?_) (fun _ => ?_) <;> conv => whnf)
          | (refine Br.both (fun _ => ?_) (fun _ => ?_) <;> conv => whnf))
        · have hb : (L[j].key == y[i].key) = true := ‹(_ == _) = true›
          have hm := rowIx_here h2 hj2 hb
          simp (disch := omega) only [wrap_id]
          have hs := fun s' => hK2 (j + 1, true) s' ⟨h2, by simp only [if_true]; omega⟩ (by simp only [if_true]; simp; omega)
          simp only [if_true, mergeOne_at hm h2] at hs
          refine hs _ ⟨rfl, by repeat' (first | exact trivial | exact .inl rfl | apply And.intro), by repeat' (first | exact trivial | exact ⟨_, rfl, cle.refl _⟩ | apply And.intro), HSub.of_le (le_dirty ?_ fun b hb hb' => ?_)⟩
          · rw [Hp.set_get, List.map_set, Nat.zero_add] <;> rfl
          · rw [Hp.set_other _ _ hb, Hp.set_other _ _ hb]
        · have hb : (L[j].key == y[i].key) = false := ‹(_ == _) = false›
          simp (disch := omega) only [wrap_id]
          have hs := fun s' => hK2 (j + 1, false) s' ⟨h2, by simpa using hj2.succ h2 hb⟩ (by simp; omega)
          simp only [Bool.false_eq_true, if_false] at hs
          exact hs _ ⟨rfl, by repeat' (first | exact trivial | exact .inl rfl | apply And.intro), by repeat' (first | exact trivial | exact ⟨_, rfl, cle.refl _⟩ | apply And.intro), HSub.refl _⟩
      · have e : j = L.length := by omega
        subst e
        have hm : rowIx L y[i].key < 0 := by
          have := idxF_none (p := fun r : R => r.key == y[i].key) (x := L) fun j hj => hj2 j hj hj
          unfold rowIx; rw [this]; omega
        repeat' (first
          | (refine Br.no rfl ?_; conv => whnf)
          | (refine Br.yes rfl ?_; conv => whnf)
          | (refine Idx.nat h ?_; conv => whnf)
          | (refine hld1 _ _ ?_; conv => whnf)
          | (refine Two.intro ?_ ?_ <;> conv => whnf)
          | (refine Drawn.intro (by kernel_rfl) ?_; conv => whnf)
          | (refine Br.dec (fun _ => ?_) (fun _ => ?_) <;> conv => whnf)
          | (refine Br.neg (fun _ => ?_) (fun _ => ?_) <;> conv => whnf)
          | (refine Br.both (fun _ => ?_) (fun _ => ?_) <;> conv => whnf))
        refine AC.mono (l8Put_ok _ c 0 L y[i] SlR.new hm (by omega)) ?_
        rintro v h' ⟨c', hc', rfl, rfl⟩
        conv => whnf
        simp (disch := omega) only [wrap_id]
        have hs := fun s' => hK (i + 1, c') s' ⟨‹i < y.length›, (Hp.none_set hc').1⟩ (by simp only; omega)
        simp only [hnext, mergeOne_new hm] at hs
        have hcc : c' ≠ c := (Hp.none_set hc').2
        refine hs _ ⟨rfl, by repeat' (first | exact trivial | exact .inl rfl | apply And.intro), by repeat' (first | exact trivial | exact ⟨_, rfl, cle.refl _⟩ | apply And.intro), HSub.of_le (le_dirty (Hp.set_get _ _ _) fun b hb hb' => ?_)⟩
        have : b ≠ c := fun e => hb' (by rw [e]; exact hc)
        rw [Hp.set_other _ _ hb, Hp.set_other _ _ this]
  · have e : i = y.length := by omega
    subst e
    rw [List.take_length]
    exact .done ⟨c, hc, rfl, rfl⟩

end Go.Proofs.Ytdbedlomiedncaa.Vc
