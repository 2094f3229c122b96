/- Reports merged. -/
import Derived.Test.YtdbedlomiedncaaB9
import Derived.Test.YtdbedlomiedncaaLPush
namespace Go.Proofs.Ytdbedlomiedncaa.Vc
open Go

def gtr (a b : List UInt8) : Bool := !(isLss a b || a == b)

/-- where a new row goes -/
def insAt (l : List R) (k : List UInt8) : Nat := l.findIdx fun x => gtr x.key k
def ins (l : List R) (r : R) : List R := l.take (insAt l r.key) ++ r :: l.drop (insAt l r.key)

/-- one row more in a report -/
def mergeOne (l : List R) (r : R) : List R :=
  if h : l.findIdx (fun x => x.key == r.key) < l.length then l.set (l.findIdx fun x => x.key == r.key) (l[l.findIdx fun x => x.key == r.key].merge r) else ins l r

def mergeRep (x y : List R) : List R := y.foldl mergeOne x
def overall (rs : List (List R)) : List R := rs.foldl mergeRep []

def SB (x : List R) : Prop := ∀ r ∈ x, r.sb

theorem insAt_le (l : List R) (k : List UInt8) : insAt l k ≤ l.length := List.findIdx_le_length

theorem ins_length (l : List R) (r : R) : (ins l r).length = l.length + 1 := by
  have := insAt_le l r.key
  simp [ins]; omega

theorem mem_ins {l : List R} {r x : R} (h : x ∈ ins l r) : x ∈ l ∨ x = r := by
  simp only [ins, List.mem_append, List.mem_cons] at h
  rcases h with h | h | h
  · exact .inl (List.mem_of_mem_take h)
  · exact .inr h
  · exact .inl (List.mem_of_mem_drop h)

theorem merge_sb {a b : R} (ha : a.sb) (hb : b.sb) : (a.merge b).sb := by
  unfold R.merge
  split
  · exact hb
  · split
    · exact ha
    · split
      · exact ha
      · show _ ∧ _; simp only; omega

theorem merge_key {a b : R} (h : a.key = b.key) : (a.merge b).key = a.key := by
  unfold R.merge
  split
  · exact h.symm
  · split
    · rfl
    · split <;> rfl

theorem mergeOne_length (l : List R) (r : R) : (mergeOne l r).length ≤ l.length + 1 ∧ l.length ≤ (mergeOne l r).length := by
  unfold mergeOne
  split
  · simp
  · rw [ins_length]; omega

theorem mergeOne_sb {l : List R} {r : R} (h : SB l) (hr : r.sb) : SB (mergeOne l r) := by
  unfold mergeOne
  split
  · rename_i hi
    intro x hx
    rcases List.mem_or_eq_of_mem_set hx with h1 | h1
    · exact h x h1
    · rw [h1]; exact merge_sb (h _ (List.getElem_mem hi)) hr
  · intro x hx
    rcases mem_ins hx with h1 | h1
    · exact h x h1
    · rw [h1]; exact hr

theorem mergeRep_take {x y : List R} {i : Nat} (h : i < y.length) : mergeRep x (y.take (i + 1)) = mergeOne (mergeRep x (y.take i)) y[i] := by
  unfold mergeRep
  rw [List.take_succ_eq_append_getElem h, List.foldl_append]; rfl

theorem mergeRep_length (x : List R) : ∀ (y : List R), (mergeRep x y).length ≤ x.length + y.length := by
  intro y
  induction y generalizing x with
  | nil => simp [mergeRep]
  | cons r y ih =>
    show (mergeRep (mergeOne x r) y).length ≤ _
    have := ih (mergeOne x r)
    have := mergeOne_length x r
    simp; omega

theorem mergeRep_sb {x y : List R} (hx : SB x) (hy : SB y) : SB (mergeRep x y) := by
  induction y generalizing x with
  | nil => exact hx
  | cons r y ih => exact ih (mergeOne_sb hx (hy r (by simp))) fun z hz => hy z (by simp [hz])

/-- a report that a function makes -/
def MadeR (H : Hp) (z : List R) (v : AV) (h : Hp) : Prop := ∃ c, H.get c = none ∧ v = .slice c 10 0 z.length ∧ h = H.set c ⟨10, false, z.map R.av⟩

theorem le_dirty {H H' : Hp} {c : Addr} {r : Row} (h0 : H'.get c = some r) (h : ∀ b, b ≠ c → H.get b ≠ none → H'.get b = H.get b) (b : Addr) (r' : Row) (hb : (H.set c r).get b = some r') : H'.get b = some r' := by
  by_cases e : b = c
  · subst e; rw [Hp.set_get] at hb; rw [h0]; exact hb
  · rw [Hp.set_other _ _ e] at hb
    rw [h b e (by rw [hb]; simp)]; exact hb

theorem mergeOne_at {l : List R} {r : R} {j : Nat} (hj : rowIx l r.key = (j : Int)) (h : j < l.length) : mergeOne l r = l.set j (l[j].merge r) := by
  unfold rowIx idxF at hj
  split at hj
  · rename_i h'
    have e : l.findIdx (fun x => x.key == r.key) = j := by omega
    subst e
    unfold mergeOne; rw [dif_pos h']
  · omega

theorem mergeOne_new {l : List R} {r : R} (hj : rowIx l r.key < 0) : mergeOne l r = ins l r := by
  unfold rowIx idxF at hj
  split at hj
  · omega
  · rename_i h'
    unfold mergeOne; rw [dif_neg h']

set_option maxRecDepth 100000 in
theorem mergeRep1_ok (H : Hp) (d : Addr) (x r : R) (hd : H.get d = some ⟨10, false, [r.av]⟩) : AC Try.prog 82 [.agg x.av, .ptr d 10 0 0] H fun v h => v = .bool (gtr x.key r.key) ∧ h = H := by
  refine AC_of_vc (T := tab) (D := D82) (esc := []) tab_ok mixed Try.func82 rfl rfl rfl ?_
  conv => whnf
  refine Ld.intro hd rfl rfl ?_
  conv => whnf
  exact ⟨rfl, rfl⟩

set_option maxRecDepth 100000 in
theorem implMergeReport_ok (H : Hp) (a b : Addr) (o p : Nat) (x y : List R) (hx : SlR H a o x) (hy : SlR H b p y) (hsx : SB x) (hsy : SB y) (hl : x.length + y.length ≤ 1048576) :
    AC Try.prog 34 [.slice a 10 o x.length, .slice b 10 p y.length] H (MadeR H (mergeRep x y)) := by
  refine AC.post ?_
  refine AC_of_vc (T := tab) (D := D34) (esc := [7]) tab_ok mixed Try.func34 rfl rfl rfl ?_
  conv => whnf
  refine AC.mono (clone_ok H a o x hx (by omega)) ?_
  rintro v h ⟨c0, hc0, rfl, rfl⟩
  conv => whnf
  refine LoopVC.intro (fun z : Nat × Addr => (⟨Try.f34.ntmps, [(14, .int .i64 z.1), (13, .int .i64 y.length), (12, .slice b 10 p y.length), (5, .slice z.2 10 0 (mergeRep x (y.take z.1)).length)], [], H.set z.2 ⟨10, false, (mergeRep x (y.take z.1)).map R.av⟩⟩ : St))
    (fun z => z.1 ≤ y.length ∧ H.get z.2 = none) (fun z => y.length - z.1) (fun z hi K hK => ?_) (0, c0) ⟨by omega, hc0⟩ ⟨rfl, by repeat' (first | exact trivial | exact .inl rfl | apply And.intro), by repeat' (first | exact trivial | exact ⟨_, rfl, cle.refl _⟩ | apply And.intro), HSub.refl _⟩
  obtain ⟨i, c⟩ := z
  obtain ⟨hi1, hc⟩ := hi
  simp only at hi1 hc ⊢
  conv => whnf
  refine Br.dec (fun h => ?_) (fun h => ?_) <;> conv => whnf
  · have h : i < y.length := by omega
    have hL1 : (mergeRep x (y.take i)).length ≤ x.length + i := by
      have := mergeRep_length x (y.take i)
      rw [List.length_take] at this; omega
    have hL2 : SB (mergeRep x (y.take i)) := mergeRep_sb hsx fun r hr => hsy r (List.mem_of_mem_take hr)
    have hnext := mergeRep_take (x := x) h
    generalize hLe : mergeRep x (y.take i) = L at hL1 hL2 hnext ⊢
    have hr := hsy _ (List.getElem_mem h)
    refine Idx.nat h ?_
    conv => whnf
    refine (hy.set (r := ⟨10, false, L.map R.av⟩) hc).ld h ?_
    conv => whnf
    refine New.intro fun d hd => ?_
    conv => whnf
    have hcd : c ≠ d := fun e => by subst e; rw [Hp.set_get] at hd; cases hd
    have hdH : H.get d = none := (Hp.none_set hd).1
    repeat' (first
      | (refine Br.no rfl ?_; conv => whnf)
      | (refine Br.yes rfl ?_; conv => whnf)
      | (refine Sto.intro (Hp.set_get _ _ _) rfl rfl rfl ?_; conv => whnf)
      | (refine Ld.intro (Hp.set_get _ _ _) rfl rfl ?_; conv => whnf)
      | (refine Two.intro ?_ ?_ <;> conv => whnf)
      | (refine Drawn.intro (by kernel_rfl) ?_; conv => whnf)
      | (refine Br.dec (fun _ => ?_) (fun _ => ?_) <;> conv => whnf)
      | (refine Br.neg (fun _ => ?_) (fun _ => ?_) <;> conv => whnf)
      | (refine Br.both (fun _ => ?_) (fun _ => ?_) <;> conv => whnf))
    rw [Hp.set_set]
    show AC _ _ _ ((H.set c ⟨10, false, L.map R.av⟩).set d ⟨10, false, [y[i].av]⟩) _
    have sL : ∀ r, SlR ((H.set c ⟨10, false, L.map R.av⟩).set d r) c 0 L := fun r => SlR.new.set hd
    refine AC.use1 (rowAt_ok _ c 0 L y[i].key (sL _) (by omega)) ?_
    conv => whnf
    refine Br.dec (fun h2 => ?_) (fun h2 => ?_) <;> conv => whnf
    · obtain ⟨j, hj, hj'⟩ := rowIx_at (x := L) (k := y[i].key) (by omega)
      rw [hj]
      repeat' (first
        | (refine Br.no rfl ?_; conv => whnf)
        | (refine Br.yes rfl ?_; conv => whnf)
        | (refine Idx.nat hj' ?_; conv => whnf)
        | (refine (sL _).ld hj' ?_; conv => whnf)
        | (refine Ld.intro (Hp.set_get _ _ _) rfl rfl ?_; conv => whnf)
        | (refine AC.use1 (implMerge_ok _ L[j] y[i] (hL2 _ (List.getElem_mem hj')) hr) ?_; conv => whnf)
        | (refine Sto.intro ((Hp.set_other _ _ hcd).trans (Hp.set_get _ _ _)) rfl rfl (by rw [Nat.zero_add, List.getElem?_map, List.getElem?_eq_getElem hj'] <;> rfl) ?_; conv => whnf)
        | (refine Two.intro ?_ ?_ <;> conv => whnf)
        | (refine Drawn.intro (by kernel_rfl) ?_; conv => whnf)
        | (refine Br.dec (fun _ => ?_) (fun _ => ?_) <;> conv => whnf)
        | (refine Br.neg (fun _ => ?_) (fun _ => ?_) <;> conv => whnf)
        | (refine Br.both (fun _ => ?_) (fun _ => ?_) <;> conv => whnf))
      simp (disch := omega) only [wrap_id]
      have hm : mergeRep x (y.take (i + 1)) = L.set j (L[j].merge y[i]) := by rw [hnext, mergeOne_at hj hj']
      have hs := fun s' => hK (i + 1, c) s' ⟨h, hc⟩ (by simp only; omega)
      simp only [hm, List.length_set] at hs
      refine hs _ ⟨rfl, by repeat' (first | exact trivial | exact .inl rfl | apply And.intro), by repeat' (first | exact trivial | exact ⟨_, rfl, cle.refl _⟩ | apply And.intro), HSub.of_le (le_dirty ?_ fun b hb hb' => ?_)⟩
      · rw [Hp.set_get, List.map_set, Nat.zero_add] <;> rfl
      · have : b ≠ d := fun e => hb' (by rw [e]; exact hdH)
        rw [Hp.set_other _ _ hb, Hp.set_other _ _ this, Hp.set_other _ _ hb]
    · refine AC.use1 (indexFuncR_ok _ c 0 L _ _ (fun x => gtr x.key y[i].key) (sL _) (by omega) fun r _ => mergeRep1_ok _ d r y[i] (Hp.set_get _ _ _)) ?_
      conv => whnf
      have hm : mergeRep x (y.take (i + 1)) = ins L y[i] := by rw [hnext, mergeOne_new (by omega)]
      obtain ⟨k, hk, hk1, hk2⟩ : ∃ k, k = insAt L y[i].key ∧ (idxF (fun x => gtr x.key y[i].key) L < 0 → k = L.length) ∧ (¬ idxF (fun x => gtr x.key y[i].key) L < 0 → idxF (fun x => gtr x.key y[i].key) L = k) := by
        refine ⟨_, rfl, fun h => ?_, fun h => ?_⟩ <;> unfold idxF insAt at *
        · have := List.findIdx_le_length (xs := L) (p := fun x => gtr x.key y[i].key)
          split at h <;> omega
        · split at h
          · rename_i h'; rw [if_pos h']
          · omega
      have hkl := insAt_le L y[i].key
      rw [← hk] at hkl
      have fin : ∀ e a', (((H.set c ⟨10, false, L.map R.av⟩).set d ⟨10, false, [y[i].av]⟩).get e = none) → (((((H.set c ⟨10, false, L.map R.av⟩).set d ⟨10, false, [y[i].av]⟩).set e ⟨10, false, [y[i].av]⟩).del c).get a' = none) →
          HSub (H.set a' ⟨10, false, (ins L y[i]).map R.av⟩) (((((H.set c ⟨10, false, L.map R.av⟩).set d ⟨10, false, [y[i].av]⟩).set e ⟨10, false, [y[i].av]⟩).del c).set a' ⟨10, false, (ins L y[i]).map R.av⟩) ∧ H.get a' = none := fun e a' he ha' => by
        have heH : H.get e = none := (Hp.none_set (Hp.none_set he).1).1
        have key : ∀ b, H.get b ≠ none → ((((H.set c ⟨10, false, L.map R.av⟩).set d ⟨10, false, [y[i].av]⟩).set e ⟨10, false, [y[i].av]⟩).del c).get b = H.get b := fun b hb => by
          have h1 : b ≠ c := fun e => hb (by rw [e]; exact hc)
          have h2 : b ≠ d := fun e => hb (by rw [e]; exact hdH)
          have h3 : b ≠ e := fun e => hb (by rw [e]; exact heH)
          rw [Hp.del_ne h1, Hp.set_other _ _ h3, Hp.set_other _ _ h2, Hp.set_other _ _ h1]
        refine ⟨HSub.of_le (le_dirty (Hp.set_get _ _ _) fun b hb hb' => ?_), ?_⟩
        · rw [Hp.set_other _ _ hb, key b hb']
        · by_cases h0 : H.get a' = none
          · exact h0
          · rw [← key a' h0]; exact ha'
      have hins : ins L y[i] = L.take k ++ y[i] :: L.drop k := by rw [hk]; rfl
      have hinl : (ins L y[i]).length = L.length + 1 := ins_length _ _
      refine Br.dec (fun h3 => ?_) (fun h3 => ?_) <;> conv => whnf
      · have hk1 := hk1 h3
        subst hk1
        refine Ld.intro (Hp.set_get _ _ _) rfl rfl ?_
        conv => whnf
        refine New.intro fun e he => ?_
        conv => whnf
        have hec : e ≠ c := fun h => by subst h; rw [Hp.set_other _ _ hcd, Hp.set_get] at he; cases he
        refine AC.mono (insert_ok _ c e L y[i] L.length ((Hp.set_other _ _ (Ne.symm hec)).trans ((Hp.set_other _ _ hcd).trans (Hp.set_get _ _ _))) (Hp.set_get _ _ _) (Ne.symm hec) (by omega) (by omega)) ?_
        rintro v h ⟨a', ha', rfl, rfl⟩
        conv => whnf
        simp (disch := omega) only [wrap_id]
        rw [← hins]
        obtain ⟨f1, f2⟩ := fin e a' he ha'
        have hs := fun s' => hK (i + 1, a') s' ⟨‹i < y.length›, f2⟩ (by simp only; omega)
        simp only [hm, hinl] at hs
        exact hs _ ⟨rfl, by repeat' (first | exact trivial | exact .inl rfl | apply And.intro), by repeat' (first | exact trivial | exact ⟨_, rfl, cle.refl _⟩ | apply And.intro), f1⟩
      · have hk2 := hk2 h3
        rw [hk2]
        refine Ld.intro (Hp.set_get _ _ _) rfl rfl ?_
        conv => whnf
        refine New.intro fun e he => ?_
        conv => whnf
        have hec : e ≠ c := fun h => by subst h; rw [Hp.set_other _ _ hcd, Hp.set_get] at he; cases he
        refine AC.mono (insert_ok _ c e L y[i] k ((Hp.set_other _ _ (Ne.symm hec)).trans ((Hp.set_other _ _ hcd).trans (Hp.set_get _ _ _))) (Hp.set_get _ _ _) (Ne.symm hec) (by omega) (by omega)) ?_
        rintro v h ⟨a', ha', rfl, rfl⟩
        conv => whnf
        simp (disch := omega) only [wrap_id]
        rw [← hins]
        obtain ⟨f1, f2⟩ := fin e a' he ha'
        have hs := fun s' => hK (i + 1, a') s' ⟨‹i < y.length›, f2⟩ (by simp only; omega)
        simp only [hm, hinl] at hs
        exact hs _ ⟨rfl, by repeat' (first | exact trivial | exact .inl rfl | apply And.intro), by repeat' (first | exact trivial | exact ⟨_, rfl, cle.refl _⟩ | apply And.intro), f1⟩
  · have e : i = y.length := by omega
    subst e
    rw [List.take_length]
    exact .done ⟨c, hc, rfl, rfl⟩

end Go.Proofs.Ytdbedlomiedncaa.Vc
