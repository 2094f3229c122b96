/- The reference's window; series and moving sums. -/
import Derived.Test.YtdbedlomiedncaaD5
import Derived.Test.YtdbedlomiedncaaC1
namespace Go.Proofs.Ytdbedlomiedncaa.Vc
open Go

set_option maxRecDepth 100000 in
theorem specWindow_ok (H : Hp) (c f : Int) (a : Addr) (o : Nat) (xs : List (List R)) (i : Int) (hx : SlRR H a o xs) (hk : KSS xs) :
    AC Try.prog 47 [stAV c f a o xs.length, .int .i64 i] H (MadeW H (windowOf c f xs i)) := by
  refine AC_of_vc (T := tab) (D := D47) (esc := []) tab_ok mixed Try.func47 rfl rfl rfl ?_
  conv => whnf
  refine AC.use1 (specStoreOk_ok H c f a o xs hx hk) ?_
  conv => whnf
  have hk1 := hk.1
  refine Br.both (fun hok => ?_) (fun hok => ?_) <;> conv => whnf
  · repeat' (first
      | (refine Br.no rfl ?_; conv => whnf)
      | (refine Br.yes rfl ?_; conv => whnf)
      | (refine Two.intro ?_ ?_ <;> conv => whnf)
      | (refine Drawn.intro (by kernel_rfl) ?_; conv => whnf)
      | (refine Br.dec (fun _ => ?_) (fun _ => ?_) <;> conv => whnf)
      | (refine Br.neg (fun _ => ?_) (fun _ => ?_) <;> conv => whnf)
      | (refine Br.both (fun _ => ?_) (fun _ => ?_) <;> conv => whnf))
    refine New.intro fun d hd => ?_
    conv => whnf
    have e : windowOf c f xs i = ([], false) := by unfold windowOf; rw [if_neg (by simp_all)]
    rw [e]; exact ⟨d, hd, rfl, rfl⟩
  · have hok : storeOk c f xs = true := by simpa using hok
    have hcf : 1 ≤ c ∧ c ≤ 5 ∧ 0 ≤ f ∧ f ≤ 1000000 ∧ (xs.length : Int) ≤ c := by
      have := hok; simp [storeOk, inB] at this; omega
    simp (disch := omega) only [wrap_id]
    refine AC.use1 (l1In_ok _ _ _ _) ?_
    conv => whnf
    refine Br.both (fun hin => ?_) (fun hin => ?_) <;> conv => whnf
    · have hin : ¬ (f ≤ i ∧ i < f + xs.length) := by simp at hin; omega
      refine New.intro fun d hd => ?_
      conv => whnf
      have e : windowOf c f xs i = ([], false) := by unfold windowOf; rw [if_neg (fun h => hin h.2)]
      rw [e]; exact ⟨d, hd, rfl, rfl⟩
    · have hin : f ≤ i ∧ i < f + xs.length := by simp at hin; omega
      have hj : (i - f).toNat < xs.length := by omega
      have e : windowOf c f xs i = (xs[(i - f).toNat], true) := by
        unfold windowOf; rw [if_pos ⟨hok, hin⟩, List.getD_eq_getElem?_getD, List.getElem?_eq_getElem hj]; rfl
      repeat' (first
        | (refine Br.no rfl ?_; conv => whnf)
        | (refine Br.yes rfl ?_; conv => whnf)
        | (refine Two.intro ?_ ?_ <;> conv => whnf)
        | (refine Drawn.intro (by kernel_rfl) ?_; conv => whnf)
        | (refine Br.dec (fun _ => ?_) (fun _ => ?_) <;> conv => whnf)
        | (refine Br.neg (fun _ => ?_) (fun _ => ?_) <;> conv => whnf)
        | (refine Br.both (fun _ => ?_) (fun _ => ?_) <;> conv => whnf))
      refine New.intro fun e0 he0 => ?_
      conv => whnf
      simp (disch := omega) only [wrap_id]
      refine Idx.at (i - f).toNat (by omega) hj ?_
      conv => whnf
      refine (hx.set he0).ld hj fun b p hb => ?_
      conv => whnf
      have hlen : (xs[(i - f).toNat].map R.av).length = xs[(i - f).toNat].length := List.length_map _
      have hll := (hk.2 _ (List.getElem_mem hj)).2
      have hw := fun K k => Sl.whole (K := K) hb k
      rw [hlen] at hw
      refine hw _ ?_
      conv => whnf
      refine Over.intro (Hp.set_get _ _ _) rfl rfl ?_
      conv => whnf
      refine Must.intro ⟨Nat.le_refl 0, by rw [hlen, tb49]; omega⟩ ?_
      conv => whnf
      refine New.intro fun d hd => ?_
      conv => whnf
      rw [Hp.set_del _ _ he0] at hd ⊢
      rw [e]
      exact ⟨d, hd, by simp only [hlen, Nat.zero_add]; rfl, rfl⟩

/-! ### series -/

def series (rs : List (List R)) (k : List UInt8) : List Int := rs.map fun l => (findRow l k).1.rank

def iCell (x : Int) : List AV := [.int .i64 x]

set_option maxRecDepth 100000 in
theorem implSeries_ok (H : Hp) (a : Addr) (o : Nat) (rs : List (List R)) (k : List UInt8) (hx : SlRR H a o rs) (hk : KSS rs) :
    AC Try.prog 53 [.slice a 1 o rs.length, .str k] H fun v h => ∃ c, H.get c = none ∧ v = .slice c 1 0 rs.length ∧ h = H.set c ⟨1, false, (series rs k).map iCell⟩ := by
  refine AC.post ?_
  refine AC_of_vc (T := tab) (D := D53) (esc := []) tab_ok mixed Try.func53 rfl rfl rfl ?_
  conv => whnf
  have hk1 := hk.1
  refine New.intro fun c0 hc0 => ?_
  conv => whnf
  refine LoopVC.intro (fun z : Nat × Addr => (⟨Try.f53.ntmps, [(13, .int .i64 z.1), (12, .int .i64 rs.length), (11, .slice a 1 o rs.length), (5, .slice z.2 1 0 z.1), (1, .str k)], [], H.set z.2 ⟨1, false, (series (rs.take z.1) k).map iCell⟩⟩ : St))
    (fun z => z.1 ≤ rs.length ∧ H.get z.2 = none) (fun z => rs.length - z.1) (fun z hi K hK => ?_) (0, c0) ⟨by omega, hc0⟩ ⟨rfl, by repeat' (first | exact trivial | exact .inl rfl | apply And.intro), by repeat' (first | exact trivial | exact ⟨_, rfl, cle.refl _⟩ | apply And.intro), HSub.refl _⟩
  obtain ⟨i, c⟩ := z
  obtain ⟨hi1, hc⟩ := hi
  simp only at hi1 hc ⊢
  conv => whnf
  refine Br.dec (fun h => ?_) (fun h => ?_) <;> conv => whnf
  · have h : i < rs.length := by omega
    refine Idx.nat h ?_
    conv => whnf
    refine (hx.set hc).ld h fun b p hb => ?_
    conv => whnf
    refine AC.use1 (implFindRow_ok _ b p rs[i] k hb (hk.at h).2) ?_
    conv => whnf
    refine AC.use1 (implRank_ok _ _) ?_
    conv => whnf
    have cl := Cln.init ⟨1, false, (series (rs.take i) k).map iCell⟩ hc
    have g := Hp.set_get H c ⟨1, false, (series (rs.take i) k).map iCell⟩
    have hsl : (series (rs.take i) k).length = i := by simp [series]; omega
    refine New.intro fun e2 he2 => ?_
    conv => whnf
    have cla2 := fun r => Cln.new (r := r) cl he2
    have ga2 := fun r => Hp.keep_new (r := r) he2 g
    refine Whole.intro (Hp.set_get _ _ _) rfl (Nat.le_refl 1) ?_
    conv => whnf
    refine Over.intro (ga2 _) rfl rfl ?_
    conv => whnf
    refine Must.intro ⟨by simp [hsl], by rw [tb3]; show (_ + 1) * 8 ≤ _; omega⟩ ?_
    conv => whnf
    refine New.intro fun c2 hc2 => ?_
    conv => whnf
    have cl2 := fun r => ((cla2 _).move (r := r) hc2).2
    have hf2 := ((cla2 _).move (r := ⟨1, false, []⟩) hc2).1
    simp (disch := omega) only [wrap_id]
    refine hK (i + 1, c2) _ ⟨h, hf2⟩ (by simp only; omega) ⟨rfl, by repeat' (first | exact trivial | exact .inl rfl | apply And.intro), by repeat' (first | exact trivial | exact ⟨_, rfl, cle.refl _⟩ | apply And.intro), (cl2 _).sub ?_⟩
    have e : series (rs.take (i + 1)) k = series (rs.take i) k ++ [(findRow rs[i] k).1.rank] := by
      rw [List.take_succ_eq_append_getElem h, series, List.map_append]; rfl
    rw [Hp.set_get, e, List.map_append]
    show some (Row.mk 1 false (List.take i (List.drop 0 ((series (rs.take i) k).map iCell)) ++ _)) = _
    rw [List.drop_zero, List.take_of_length_le (by rw [List.length_map]; omega)]
    rfl
  · have e : i = rs.length := by omega
    subst e
    rw [List.take_length]
    exact .done ⟨c, hc, rfl, rfl⟩

/-! ### moving sums -/

def movAt (l : List Int) (n i : Nat) : Int := (l.take (i + 1)).sum - (l.take (i + 1 - n)).sum
def moving (l : List Int) (n : Nat) : List Int := (List.range l.length).map (movAt l n)

theorem sum_bnd {l : List Int} (h : ∀ x ∈ l, 0 ≤ x ∧ x ≤ 281474976710656) : 0 ≤ l.sum ∧ l.sum ≤ 281474976710656 * l.length := by
  induction l with
  | nil => simp
  | cons x l ih =>
    have h1 := h x (by simp)
    have h2 := ih fun y hy => h y (by simp [hy])
    simp only [List.sum_cons, List.length_cons]; omega

set_option maxRecDepth 100000 in
theorem implMoving_ok (H : Hp) (a : Addr) (o n : Nat) (l : List Int) (hx : Sl H a 1 o (l.map iCell)) (hl : l.length ≤ 8) (hb : ∀ x ∈ l, 0 ≤ x ∧ x ≤ 281474976710656) (hn : 1 ≤ n) (hn2 : n ≤ 8) :
    AC Try.prog 52 [.slice a 1 o l.length, .int .i64 n] H fun v h => ∃ c, H.get c = none ∧ v = .slice c 1 0 l.length ∧ h = H.set c ⟨1, false, (moving l n).map iCell⟩ := by
  refine AC.post ?_
  refine AC_of_vc (T := tab) (D := D52) (esc := []) tab_ok mixed Try.func52 rfl rfl rfl ?_
  conv => whnf
  refine New.intro fun c0 hc0 => ?_
  conv => whnf
  refine LoopVC.intro (fun z : Nat × Addr => (⟨Try.f52.ntmps, [(12, .int .i64 z.1), (11, .int .i64 l.length), (10, .slice a 1 o l.length), (6, .int .i64 (if z.1 = 0 then 0 else movAt l n (z.1 - 1))), (5, .slice z.2 1 0 z.1), (1, .int .i64 n), (0, .slice a 1 o l.length)], [], H.set z.2 ⟨1, false, ((List.range z.1).map (movAt l n)).map iCell⟩⟩ : St))
    (fun z => z.1 ≤ l.length ∧ H.get z.2 = none) (fun z => l.length - z.1) (fun z hi K hK => ?_) (0, c0) ⟨by omega, hc0⟩ ⟨rfl, by repeat' (first | exact trivial | exact .inl rfl | apply And.intro), by repeat' (first | exact trivial | exact ⟨_, rfl, cle.refl _⟩ | apply And.intro), HSub.refl _⟩
  obtain ⟨i, c⟩ := z
  obtain ⟨hi1, hc⟩ := hi
  simp only at hi1 hc ⊢
  conv => whnf
  refine Br.dec (fun h => ?_) (fun h => ?_) <;> conv => whnf
  · have h : i < l.length := by omega
    have hsn : ∀ r, Sl (H.set c r) a 1 o (l.map iCell) := fun r => hx.set hc
    have hs1 := sum_bnd (l := l.take i) fun x hx => hb x (List.mem_of_mem_take hx)
    have hs2 := sum_bnd (l := l.take (i + 1 - n)) fun x hx => hb x (List.mem_of_mem_take hx)
    have hs3 := sum_bnd (l := l.take (i - n)) fun x hx => hb x (List.mem_of_mem_take hx)
    rw [List.length_take] at hs1 hs2 hs3
    have hxi := hb _ (List.getElem_mem h)
    have hsum1 : (l.take (i + 1)).sum = (l.take i).sum + l[i] := by rw [List.take_succ_eq_append_getElem h, List.sum_append, List.sum_cons, List.sum_nil, Int.add_zero]
    have hprev : (if i = 0 then 0 else movAt l n (i - 1)) = (l.take i).sum - (l.take (i - n)).sum := by
      split
      · rename_i e; subst e; simp
      · unfold movAt; rw [show i - 1 + 1 = i from by omega]
    rw [hprev]
    refine Idx.nat h ?_
    conv => whnf
    refine (hsn _).ld h ?_
    conv => whnf
    refine Br.dec (fun h1 => ?_) (fun h1 => ?_) <;> conv => whnf
    · exfalso; omega
    simp (disch := omega) only [wrap_id]
    have fin : ∀ (s : Int) (e2 c2 : Addr) (s' : St), s = movAt l n i → H.get c2 = none → Wk s' (⟨Try.f52.ntmps, [(12, .int .i64 ((i + 1 : Nat) : Int)), (11, .int .i64 l.length), (10, .slice a 1 o l.length), (6, .int .i64 s), (5, .slice c2 1 0 (i + 1)), (1, .int .i64 n), (0, .slice a 1 o l.length)], [], H.set c2 ⟨1, false, ((List.range (i + 1)).map (movAt l n)).map iCell⟩⟩ : St) → K s' := fun s e2 c2 s' hs hf hw => by
      refine hK (i + 1, c2) s' ⟨h, hf⟩ (by simp only; omega) ?_
      subst hs
      simpa using hw
    have cl := Cln.init ⟨1, false, ((List.range i).map (movAt l n)).map iCell⟩ hc
    have g := Hp.set_get H c ⟨1, false, ((List.range i).map (movAt l n)).map iCell⟩
    refine Br.dec (fun h2 => ?_) (fun h2 => ?_) <;> conv => whnf
    · have hin : i - n < l.length := by omega
      have hsum2 : (l.take (i + 1 - n)).sum = (l.take (i - n)).sum + l[i - n] := by
        rw [show i + 1 - n = i - n + 1 from by omega, List.take_succ_eq_append_getElem hin, List.sum_append, List.sum_cons, List.sum_nil, Int.add_zero]
      refine Idx.at (i - n) (by simp (disch := omega) only [wrap_id] <;> omega) hin ?_
      conv => whnf
      refine (hsn _).ld hin ?_
      conv => whnf
      simp (disch := omega) only [wrap_id]
      have hmov : (l.take i).sum - (l.take (i - n)).sum + l[i] - l[i - n] = movAt l n i := by
        show _ = (l.take (i + 1)).sum - _
        rw [hsum1, hsum2]; omega
      refine New.intro fun e2 he2 => ?_
      conv => whnf
      have cla2 := fun r => Cln.new (r := r) (cl) he2
      have ga2 := fun r => Hp.keep_new (r := r) he2 (g)
      refine Whole.intro (Hp.set_get _ _ _) rfl (Nat.le_refl 1) ?_
      conv => whnf
      refine Over.intro (ga2 _) rfl rfl ?_
      conv => whnf
      refine Must.intro ⟨by simp, by rw [tb3]; show (_ + 1) * 8 ≤ _; omega⟩ ?_
      conv => whnf
      refine New.intro fun c2 hc2 => ?_
      conv => whnf
      have cl2 := fun r => ((cla2 _).move (r := r) hc2).2
      have hf2 := ((cla2 _).move (r := ⟨1, false, []⟩) hc2).1
      simp (disch := omega) only [wrap_id]
      refine fin _ e2 c2 _ hmov hf2 ⟨rfl, by repeat' (first | exact trivial | exact .inl rfl | apply And.intro), by repeat' (first | exact trivial | exact ⟨_, rfl, cle.refl _⟩ | apply And.intro), (cl2 _).sub ?_⟩
      rw [Hp.set_get, List.range_succ, List.map_append, List.map_append]
      show some (Row.mk 1 false (List.take i (List.drop 0 (((List.range i).map (movAt l n)).map iCell)) ++ [[AV.int .i64 _]])) = some (Row.mk 1 false (_ ++ [[AV.int .i64 (movAt l n i)]]))
      rw [List.drop_zero, List.take_of_length_le (by simp), hmov]
    · have hmov : (l.take i).sum - (l.take (i - n)).sum + l[i] = movAt l n i := by
        show _ = (l.take (i + 1)).sum - _
        rw [hsum1, show i + 1 - n = 0 from by omega, show i - n = 0 from by omega]; simp
      refine New.intro fun e2 he2 => ?_
      conv => whnf
      have cla2 := fun r => Cln.new (r := r) (cl) he2
      have ga2 := fun r => Hp.keep_new (r := r) he2 (g)
      refine Whole.intro (Hp.set_get _ _ _) rfl (Nat.le_refl 1) ?_
      conv => whnf
      refine Over.intro (ga2 _) rfl rfl ?_
      conv => whnf
      refine Must.intro ⟨by simp, by rw [tb3]; show (_ + 1) * 8 ≤ _; omega⟩ ?_
      conv => whnf
      refine New.intro fun c2 hc2 => ?_
      conv => whnf
      have cl2 := fun r => ((cla2 _).move (r := r) hc2).2
      have hf2 := ((cla2 _).move (r := ⟨1, false, []⟩) hc2).1
      simp (disch := omega) only [wrap_id]
      refine fin _ e2 c2 _ hmov hf2 ⟨rfl, by repeat' (first | exact trivial | exact .inl rfl | apply And.intro), by repeat' (first | exact trivial | exact ⟨_, rfl, cle.refl _⟩ | apply And.intro), (cl2 _).sub ?_⟩
      rw [Hp.set_get, List.range_succ, List.map_append, List.map_append]
      show some (Row.mk 1 false (List.take i (List.drop 0 (((List.range i).map (movAt l n)).map iCell)) ++ [[AV.int .i64 _]])) = some (Row.mk 1 false (_ ++ [[AV.int .i64 (movAt l n i)]]))
      rw [List.drop_zero, List.take_of_length_le (by simp), hmov]
  · have e : i = l.length := by omega
    subst e
    exact .done ⟨c, hc, rfl, rfl⟩

end Go.Proofs.Ytdbedlomiedncaa.Vc
