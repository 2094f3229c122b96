/- slices.Insert, one row at a time. -/
import Derived.Test.YtdbedlomiedncaaB8
import Derived.Laws.Externs
import Derived.Lib.Overlaps
namespace Go.Proofs.Ytdbedlomiedncaa.Vc
open Go

noncomputable abbrev ovT : TypeId := (Try.f101).params[0]!
noncomputable abbrev ovR : TypeId := (Try.f101).resultTypes[0]!
theorem overlaps_find : Extern.find Try.f101 = some (Extern.SlicesOverlaps.overlaps #[ovT, ovT] #[ovR]) := by kernel_rfl
theorem overlaps_und : Try.prog.underlying ovT = some (.slice 49) := by kernel_rfl

theorem overlaps_call (args : Array Value) (w : World) : (callFunc 101 args).run Try.prog w = ((Extern.SlicesOverlaps.overlaps #[ovT, ovT] #[ovR] args).run Try.prog w).andThen fun v w' => .ok (.value v) w' :=
  run_callFunc_extern Try.func101 (by kernel_rfl) (by kernel_rfl) (by kernel_rfl) overlaps_find args w

theorem overlaps_ret {args : Array Value} {w : World} {v : Value} (h : (Extern.SlicesOverlaps.overlaps #[ovT, ovT] #[ovR] args).run Try.prog w = .ok v w) : (callFunc 101 args).run Try.prog w = .ok (.value v) w := by
  rw [overlaps_call, h]; rfl

theorem overlaps_ok (H : Hp) (a b : Addr) (ra rb : Row) (o p l m : Nat) (ga : H.get a = some ra) (roa : ra.ro = false) (gb : H.get b = some rb) (hab : a ≠ b) (hl : 0 < l) (hm : 0 < m) :
    AC Try.prog 101 [.slice a 10 o l, .slice b 10 p m] H fun v h => v = .bool false ∧ h = H := by
  unfold AC
  intro w vs hs hv
  right
  match vs, hv with
  | [x, y], hv =>
    simp only [VRs, VR, and_true] at hv
    obtain ⟨hx, hy⟩ := hv
    rcases hx with ⟨hsa, ca, na, rfl, h1, h2, h3⟩ | h
    · rcases hy with ⟨hsb, cb, nb, rfl, k1, k2, k3⟩ | h
      · rcases hs.rows _ _ ga with ⟨_, _, c, E, fr, hb, hlr, hfr, _⟩ | ⟨hn, _⟩
        · rcases hs.rows _ _ gb with ⟨_, _, c', E', fr', hb', hlr', _, _⟩ | ⟨hn, _⟩
          · have hbl : a.block ≠ b.block := fun e => hab (hs.excl _ _ _ _ ga gb roa hsa hsb e)
            have hna : na = c.size := by unfold bs at h2; rw [hb] at h2; simpa using h2.symm
            have hnb : nb = c'.size := by unfold bs at k2; rw [hb'] at k2; simpa using k2.symm
            subst hna hnb
            have hsz := (tab_ok.get (t := 49) (by rfl)).sizeOf
            refine ⟨.bool false, w, ?_, .bool false, H, by simp [VR], ⟨rfl, rfl⟩, hs, Fr.refl _ _⟩
            have hf1 := hfr roa (a.off + o * 10) (by omega)
            have hf2 := hfr roa c.size (Nat.le_refl _)
            rw [addr_mk hsa, addr_mk hsb]
            exact overlaps_ret (Lib.run_overlaps_apart (P := Try.prog) w ovT ovR _ overlaps_und 10 hsz ⟨a.block, a.off + o * 10, none⟩ ⟨b.block, b.off + p * 10, none⟩ l ca m cb hbl E E' c.size c'.size
              (by unfold World.shape?; rw [hb]) (by unfold World.shape?; rw [hb']) (by omega) (by unfold World.frozen?; simp only [hb]; simp; omega) (by unfold World.frozen?; simp only [hb]; simp; omega))
          · exact absurd hsb hn
        · exact absurd hsa hn
      · omega
    · omega
  | [], hv => simp [VRs] at hv
  | [_], hv => simp [VRs] at hv
  | _ :: _ :: _ :: _, hv => simp [VRs] at hv
theorem Cut.as {l h : Int} {n : Nat} {K : Nat → Nat → Prop} (l' h' : Nat) (e1 : l = l') (e2 : h = h') (h2 : l' ≤ h') (h3 : h' ≤ n) (k : K l' h') : Cut l h n K := by subst e1 e2; exact Cut.intro (by omega) (by omega) (by omega) k

theorem HSub.of_le {h h' : Hp} (x : ∀ b r, h'.get b = some r → h.get b = some r) : HSub h' h := fun b r hb => ⟨r, x b r hb, rfl, id, List.prefix_rfl⟩
theorem Hp.get_del_some {h : Hp} {a b : Addr} {r : Row} (e : (h.del a).get b = some r) : h.get b = some r ∧ b ≠ a := by
  simp only [Hp.del] at e; split at e
  · cases e
  · rename_i h1; exact ⟨e, h1⟩
theorem Hp.del_ne {h : Hp} {a b : Addr} (e : b ≠ a) : (h.del a).get b = h.get b := by simp [Hp.del, e]

theorem ins_made {α} (X : List α) (r z : α) (i : Nat) (h : i < X.length) :
    List.take (i + 1) (List.take i (List.take i X ++ List.replicate (X.length + 1 - i) z) ++ [r].take 1 ++ List.drop (i + 1) (List.take i X ++ List.replicate (X.length + 1 - i) z)) ++ (X.drop i).take (X.length - i) ++ List.drop (i + 1 + (X.length - i)) (List.take i (List.take i X ++ List.replicate (X.length + 1 - i) z) ++ [r].take 1 ++ List.drop (i + 1) (List.take i X ++ List.replicate (X.length + 1 - i) z)) = X.take i ++ r :: X.drop i := by
  obtain ⟨L, Y, rfl, rfl⟩ : ∃ L Y, X = L ++ Y ∧ i = L.length := ⟨X.take i, X.drop i, by simp, by simp; omega⟩
  have e : (L ++ Y).length + 1 - L.length = Y.length + 1 := by simp; omega
  have e2 : (L ++ Y).length - L.length = Y.length := by simp
  rw [e, e2]
  simp only [List.take_left', List.drop_left', List.replicate_succ]
  have a1 : List.drop (L.length + 1) (L ++ z :: List.replicate Y.length z) = List.replicate Y.length z := by
    rw [← List.drop_drop, List.drop_left]; rfl
  have a2 : List.take (L.length + 1) (L ++ [r].take 1 ++ List.replicate Y.length z) = L ++ [r] := by
    rw [List.append_assoc, List.take_append, List.take_of_length_le (by omega)]; simp
  have a3 : List.drop (L.length + 1 + Y.length) (L ++ [r].take 1 ++ List.replicate Y.length z) = [] := by
    apply List.drop_eq_nil_of_le; simp; omega
  rw [a1, a2, a3]; simp

theorem ins_fit {α} (X : List α) (r : α) (i : Nat) (h : i < X.length) :
    List.take i (List.take (i + 1) X ++ (X.drop i).take (X.length - i) ++ List.drop (i + 1 + (X.length - i)) X) ++ [r].take 1 ++ List.drop (i + 1) (List.take (i + 1) X ++ (X.drop i).take (X.length - i) ++ List.drop (i + 1 + (X.length - i)) X) = X.take i ++ r :: X.drop i := by
  have a1 : List.drop (i + 1 + (X.length - i)) X = [] := List.drop_eq_nil_of_le (by omega)
  have a2 : (X.drop i).take (X.length - i) = X.drop i := List.take_of_length_le (by simp)
  have a3 : (List.take (i + 1) X).length = i + 1 := by simp; omega
  rw [a1, a2, List.append_nil, List.drop_left' a3, List.take_append_of_le_length (by omega), List.take_take, show min i (i + 1) = i from by omega]
  simp

set_option maxRecDepth 100000 in
theorem insert_ok (H : Hp) (a b : Addr) (x : List R) (r : R) (i : Nat) (ga : H.get a = some ⟨10, false, x.map R.av⟩) (gb : H.get b = some ⟨10, false, [r.av]⟩) (hab : a ≠ b) (hi : i ≤ x.length) (hl : x.length ≤ 1048576) :
    AC Try.prog 83 [.slice a 10 0 x.length, .int .i64 i, .slice b 10 0 1] H fun v h => ∃ a', (H.del a).get a' = none ∧ v = .slice a' 10 0 (x.length + 1) ∧ h = (H.del a).set a' ⟨10, false, (x.take i ++ r :: x.drop i).map R.av⟩ := by
  refine AC.post (AC.cap fun c hc => ?_)
  refine AC_of_vc (T := tab) (D := D83) (esc := []) tab_ok mixed Try.func83 rfl rfl rfl ?_
  conv => whnf
  have hxl : (x.map R.av).length = x.length := List.length_map _
  rcases Nat.lt_or_ge i x.length with h1 | h1
  · refine Cut.as i x.length rfl rfl (by omega) (by omega) ?_
    conv => whnf
    refine Br.yes (decide_eq_true (by omega)) ?_
    conv => whnf
    refine Br.no rfl ?_
    conv => whnf
    refine Br.dec (fun h => ?_) (fun h => ?_) <;> conv => whnf
    · exfalso; omega
    simp (disch := omega) only [wrap_id]
    refine Br.dec (fun h2 => ?_) (fun h2 => ?_) <;> conv => whnf
    all_goals simp (disch := omega) only [wrap_id]
    · refine Cut.as 0 i rfl rfl (by omega) (by omega) ?_
      conv => whnf
      refine Br.yes (decide_eq_true (by omega)) ?_
      conv => whnf
      simp (disch := omega) only [wrap_id, Int.toNat_natCast, Int.toNat_zero, Nat.sub_zero, Nat.zero_add]
      refine Must.intro ⟨by omega, by omega, by rw [tb49]; omega⟩ ?_
      conv => whnf
      refine Whole.intro ga rfl (by rw [hxl]; omega) ?_
      conv => whnf
      refine New.intro fun d hd => ?_
      conv => whnf
      have hk : ((x.length : Int) + ((1 : Nat) : Int) - i).toNat = x.length + 1 - i := by omega
      refine Cut.as i (x.length + 1) rfl (by omega) (by omega) (by omega) ?_
      conv => whnf
      have hda : d ≠ a := fun e => by subst e; rw [ga] at hd; cases hd
      have hdb : d ≠ b := fun e => by subst e; rw [gb] at hd; cases hd
      refine Over.intro (Hp.set_get _ _ _) rfl rfl ?_
      conv => whnf
      refine Has.intro ((Hp.set_other _ _ (Ne.symm hdb)).trans gb) ?_
      conv => whnf
      have hk1 : min (x.length + 1 - i) 1 = 1 := by omega
      have hk2 : min (x.length + 1 - (i + 1)) (x.length - i) = x.length - i := by omega
      refine Must.intro ⟨rfl, by simp; omega, by rw [hk1]; exact Nat.le_refl 1⟩ ?_
      conv => whnf
      refine Drawn.intro (by kernel_rfl) ?_
      conv => whnf
      refine Cut.as (i + 1) (x.length + 1) (by simp (disch := omega) only [wrap_id] <;> omega) (by omega) (by omega) (by omega) ?_
      conv => whnf
      refine Cut.as i x.length (by omega) (by omega) (by omega) (by omega) ?_
      conv => whnf
      refine Br.yes (decide_eq_true (by omega)) ?_
      conv => whnf
      refine Over.intro (Hp.set_get _ _ _) rfl rfl ?_
      conv => whnf
      refine Has.intro ((Hp.set_other _ _ (Ne.symm hda)).trans ((Hp.set_other _ _ (Ne.symm hda)).trans ga)) ?_
      conv => whnf
      refine Must.intro ⟨rfl, by simp; omega, by simp; omega⟩ ?_
      conv => whnf
      rw [Hp.set_set, Hp.set_set]
      refine .sub ((H.del a).set d _) (HSub.set (HSub.of_le fun b r hb => (Hp.get_del_some hb).1) rfl id List.prefix_rfl) (.done ⟨d, ?_, ?_, congrArg _ (congrArg _ ?_)⟩)
      · exact (Hp.del_ne hda).trans hd
      · rw [hk, show i + (x.length + 1 - i) = x.length + 1 from by omega]
      · simp only [Nat.zero_add, hk1, hk2, hk, List.drop_zero]
        have := ins_made (x.map R.av) r.av (tab.at 49).zero i (by omega)
        rw [hxl] at this
        rw [this, List.map_append, List.map_take, List.map_cons, List.map_drop]
    · refine Cut.as 0 (x.length + 1) rfl rfl (by omega) (by omega) ?_
      conv => whnf
      refine Br.yes (decide_eq_true (by omega)) ?_
      conv => whnf
      simp (disch := omega) only [wrap_id]
      refine Cut.as (i + 1) (x.length + 1) (by omega) (by omega) (by omega) (by omega) ?_
      conv => whnf
      refine Br.yes (decide_eq_true (by omega)) ?_
      conv => whnf
      refine AC.use1 (overlaps_ok H b a _ _ 0 (0 + 0 + (i+1)) 1 (x.length + 1 - (i + 1)) gb rfl ga (Ne.symm hab) (by omega) (by omega)) ?_
      conv => whnf
      refine Br.yes rfl ?_
      conv => whnf
      refine Drawn.intro (by kernel_rfl) ?_
      conv => whnf
      refine Cut.as (i + 1) (x.length + 1) (by simp (disch := omega) only [wrap_id] <;> omega) (by omega) (by omega) (by omega) ?_
      conv => whnf
      refine Br.yes (decide_eq_true (by omega)) ?_
      conv => whnf
      refine Cut.as i (x.length + 1) (by omega) (by omega) (by omega) (by omega) ?_
      conv => whnf
      refine Br.yes (decide_eq_true (by omega)) ?_
      conv => whnf
      refine Over.intro ga rfl rfl ?_
      conv => whnf
      refine Has.intro ga ?_
      conv => whnf
      refine Must.intro ⟨rfl, by simp; omega, by simp; omega⟩ ?_
      conv => whnf
      refine Cut.as i (x.length + 1) (by omega) (by omega) (by omega) (by omega) ?_
      conv => whnf
      refine Br.yes (decide_eq_true (by omega)) ?_
      conv => whnf
      refine Over.intro (Hp.set_get _ _ _) rfl rfl ?_
      conv => whnf
      refine Has.intro ((Hp.set_other _ _ (Ne.symm hab)).trans gb) ?_
      conv => whnf
      have hk1 : min (x.length + 1 - i) 1 = 1 := by omega
      refine Must.intro ⟨rfl, by simp; omega, by rw [hk1]; exact Nat.le_refl 1⟩ ?_
      conv => whnf
      rw [Hp.set_set]
      refine .done ⟨a, by simp [Hp.del], rfl, ?_⟩
      rw [Hp.del_set]
      have hk2 : min (x.length + 1 - (i + 1)) (x.length + 1 - i) = x.length - i := by omega
      refine congrArg _ (congrArg _ ?_)
      have := ins_fit (x.map R.av) r.av i (by omega)
      rw [hxl] at this
      simp only [Nat.zero_add, hk1, hk2, List.drop_zero]
      rw [this, List.map_append, List.map_take, List.map_cons, List.map_drop]
  · have hi' : i = x.length := by omega
    subst hi'
    refine Cut.as x.length x.length rfl rfl (by omega) (by omega) ?_
    conv => whnf
    refine Br.dec (fun h => ?_) (fun h => ?_) <;> conv => whnf
    all_goals
      refine Br.no rfl ?_; conv => whnf
      refine Br.yes (decide_eq_true rfl) ?_; conv => whnf
      refine Whole.intro gb rfl (Nat.le_refl 1) ?_; conv => whnf
      refine Over.intro ga rfl rfl ?_; conv => whnf
      refine Must.intro ⟨by rw [hxl]; omega, by rw [tb49]; show (x.length + 1) * 88 ≤ _; omega⟩ ?_; conv => whnf
      refine New.intro fun d hd => ?_; conv => whnf
      refine .done ⟨d, hd, rfl, congrArg _ (congrArg _ ?_)⟩
      show List.take x.length (List.drop 0 (x.map R.av)) ++ [r.av] = _
      rw [List.drop_zero, List.take_of_length_le (by omega), List.take_of_length_le (by omega), List.drop_length, List.map_append]; rfl

end Go.Proofs.Ytdbedlomiedncaa.Vc
