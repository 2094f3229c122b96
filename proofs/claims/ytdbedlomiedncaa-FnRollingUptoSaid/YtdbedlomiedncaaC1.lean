/- Reports merged: the reference. -/
import Derived.Test.YtdbedlomiedncaaC0
namespace Go.Proofs.Ytdbedlomiedncaa.Vc
open Go

/-- what is put out up to a row -/
def putTo (l : List R) (r : R) (i : Nat) : List R := if insAt l r.key < i then l.take (insAt l r.key) ++ r :: (l.drop (insAt l r.key)).take (i - insAt l r.key) else l.take i

theorem putTo_end (l : List R) (r : R) : (if insAt l r.key < l.length then putTo l r l.length else putTo l r l.length ++ [r]) = ins l r := by
  unfold putTo ins
  have := insAt_le l r.key
  split
  · rw [List.take_of_length_le (l := l.drop _) (by simp)]
  · have e : insAt l r.key = l.length := by omega
    rw [e]; simp

theorem putTo_here {l : List R} {r : R} {i : Nat} (h : i < l.length) (e : insAt l r.key = i) : putTo l r (i + 1) = putTo l r i ++ [r] ++ [l[i]] := by
  unfold putTo
  rw [if_pos (by omega), if_neg (by omega), e]
  rw [show i + 1 - i = 1 from by omega, List.drop_eq_getElem_cons h, List.take_succ_cons]; simp

theorem putTo_succ {l : List R} {r : R} {i : Nat} (h : i < l.length) (e : insAt l r.key ≠ i) : putTo l r (i + 1) = putTo l r i ++ [l[i]] := by
  unfold putTo
  by_cases h1 : insAt l r.key < i
  · rw [if_pos (by omega), if_pos h1, show i + 1 - insAt l r.key = (i - insAt l r.key) + 1 from by omega, List.take_add_one]
    rw [List.getElem?_drop, show insAt l r.key + (i - insAt l r.key) = i from by omega, List.getElem?_eq_getElem h]; simp
  · rw [if_neg (by omega), if_neg h1, List.take_succ_eq_append_getElem h]

theorem putTo_length {l : List R} {r : R} {i : Nat} (h : i ≤ l.length) : (putTo l r i).length ≤ i + 1 := by
  unfold putTo
  split
  · simp; omega
  · simp; omega

/-- the place of the new row, seen from a row -/
theorem insAt_lt {l : List R} {k : List UInt8} {i : Nat} (h : i < l.length) (hi : ¬ insAt l k < i) : gtr l[i].key k = decide (insAt l k = i) := by
  by_cases e : insAt l k = i
  · rw [decide_eq_true e]
    have := (List.findIdx_eq h).1 e
    exact this.1
  · rw [decide_eq_false e]
    have : i < l.findIdx (fun x => gtr x.key k) := by unfold insAt at *; omega
    simpa using List.not_of_lt_findIdx this

theorem rowIx_no {l : List R} {k : List UInt8} (h : rowIx l k < 0) {i : Nat} (hi : i < l.length) : (l[i].key == k) = false := by
  unfold rowIx idxF at h
  split at h
  · omega
  · have : i < l.findIdx (fun x : R => x.key == k) := by omega
    simpa using List.not_of_lt_findIdx this

/-- h is H with one new row at c, and perhaps with others -/
structure Cln (H h : Hp) (c : Addr) : Prop where
  fresh : H.get c = none
  old : ∀ b, H.get b ≠ none → h.get b = H.get b

theorem Cln.init {H : Hp} {c : Addr} (r : Row) (hc : H.get c = none) : Cln H (H.set c r) c := ⟨hc, fun b hb => Hp.set_other _ _ fun e => hb (by rw [e]; exact hc)⟩
theorem Cln.at {H h : Hp} {c : Addr} (x : Cln H h c) (r : Row) : Cln H (h.set c r) c := ⟨x.fresh, fun b hb => (Hp.set_other _ _ fun e => hb (by rw [e]; exact x.fresh)).trans (x.old b hb)⟩
theorem Cln.out {H h : Hp} {c e : Addr} (x : Cln H h c) (he : h.get e = none) : H.get e = none := by
  by_cases h0 : H.get e = none
  · exact h0
  · rw [← x.old e h0]; exact he
theorem Cln.new {H h : Hp} {c e : Addr} {r : Row} (x : Cln H h c) (he : h.get e = none) : Cln H (h.set e r) c :=
  ⟨x.fresh, fun b hb => (Hp.set_other _ _ fun h' => hb (by rw [h']; exact x.out he)).trans (x.old b hb)⟩
theorem Cln.move {H h : Hp} {c c' : Addr} {r : Row} (x : Cln H h c) (hc' : (h.del c).get c' = Option.none) : H.get c' = Option.none ∧ Cln H ((h.del c).set c' r) c' := by
  have h1 : ∀ b, H.get b ≠ Option.none → (h.del c).get b = H.get b := fun b hb => (Hp.del_ne fun e => hb (by rw [e]; exact x.fresh)).trans (x.old b hb)
  have h2 : H.get c' = Option.none := by
    by_cases h0 : H.get c' = Option.none
    · exact h0
    · rw [← h1 c' h0]; exact hc'
  exact ⟨h2, h2, fun b hb => (Hp.set_other _ _ fun e => hb (by rw [e]; exact h2)).trans (h1 b hb)⟩
theorem Cln.sub {H h : Hp} {c : Addr} {r : Row} (x : Cln H h c) (g : h.get c = some r) : HSub (H.set c r) h := HSub.of_le (le_dirty g fun b _ hb => x.old b hb)

theorem Hp.keep_new {h : Hp} {c e : Addr} {r x : Row} (he : h.get e = none) (g : h.get c = some x) : (h.set e r).get c = some x := (Hp.set_other _ r (Hp.ne_of g he)).trans g

theorem SlR.of_cln {H h : Hp} {a c : Addr} {o : Nat} {l : List R} (hx : SlR H a o l) (x : Cln H h c) : SlR h a o l := by
  obtain ⟨r, h1, h2⟩ := hx
  exact ⟨r, (x.old a (by rw [h1]; simp)).trans h1, h2⟩

set_option maxRecDepth 100000 in
theorem l8Put_ok (H : Hp) (a : Addr) (o : Nat) (l : List R) (r : R) (hx : SlR H a o l) (hn : rowIx l r.key < 0) (hl : l.length ≤ 1048576) :
    AC Try.prog 106 [.slice a 10 o l.length, .agg r.av] H (MadeR H (ins l r)) := by
  refine AC.post ?_
  refine AC_of_vc (T := tab) (D := D106) (esc := []) tab_ok mixed Try.func106 rfl rfl rfl ?_
  conv => whnf
  refine New.intro fun c0 hc0 => ?_
  conv => whnf
  refine LoopVC.intro (fun z : Nat × Addr => (⟨Try.f106.ntmps, [(7, .int .i64 z.1), (6, .bool (decide (insAt l r.key < z.1))), (5, .slice z.2 10 0 (putTo l r z.1).length), (0, .slice a 10 o l.length), (3, .lptr 3 0)], [(3, r.av)], H.set z.2 ⟨10, false, (putTo l r z.1).map R.av⟩⟩ : St))
    (fun z => z.1 ≤ l.length ∧ H.get z.2 = none) (fun z => l.length - z.1) (fun z hi K hK => ?_) (0, c0) ⟨by omega, hc0⟩ ?_
  · obtain ⟨i, c⟩ := z
    obtain ⟨hi1, hc⟩ := hi
    simp only at hi1 hc ⊢
    conv => whnf
    refine Br.dec (fun h => ?_) (fun h => ?_) <;> conv => whnf
    · have h : i < l.length := by omega
      have hld := fun K k => (hx.set (r := ⟨10, false, (putTo l r i).map R.av⟩) hc).ld (K := K) h k
      repeat' (first
        | (refine Br.no rfl ?_; conv => whnf)
        | (refine Br.yes rfl ?_; conv => whnf)
        | (refine Br.no (rowIx_no hn h) ?_; conv => whnf)
        | (refine Idx.nat h ?_; conv => whnf)
        | (refine hld _ ?_; conv => whnf)
        | (refine Two.intro ?_ ?_ <;> conv => whnf)
        | (refine Drawn.intro (by kernel_rfl) ?_; conv => whnf)
        | (refine Br.dec (fun _ => ?_) (fun _ => ?_) <;> conv => whnf)
        | (refine Br.neg (fun _ => ?_) (fun _ => ?_) <;> conv => whnf)
        | (refine Br.both (fun _ => ?_) (fun _ => ?_) <;> conv => whnf))
      · have e : insAt l r.key = i := by
          have h1 : ¬ insAt l r.key < i := by simpa using ‹decide (insAt l r.key < i) = false›
          have := insAt_lt h h1
          have h2 : gtr l[i].key r.key = true := by unfold gtr; rw [‹(_ || _) = false›]; rfl
          rw [h2] at this; simpa using this.symm
        have hpl := putTo_length (l := l) (r := r) (i := i) (by omega)
        have cl := Cln.init ⟨10, false, (putTo l r i).map R.av⟩ hc
        have g := Hp.set_get H c ⟨10, false, (putTo l r i).map R.av⟩
        refine New.intro fun e2 he2 => ?_
        conv => whnf
        have cla2 := fun r => Cln.new (r := r) (cl) he2
        have ga2 := fun r => Hp.keep_new (r := r) he2 (g)
        refine Whole.intro (Hp.set_get _ _ _) rfl (Nat.le_refl 1) ?_
        conv => whnf
        refine Over.intro (ga2 _) rfl rfl ?_
        conv => whnf
        refine Must.intro ⟨by simp, by rw [tb49]; show (_ + 1) * 88 ≤ _; omega⟩ ?_
        conv => whnf
        refine New.intro fun c2 hc2 => ?_
        conv => whnf
        have cl2 := fun r => ((cla2 _).move (r := r) hc2).2
        have hf2 := ((cla2 _).move (r := ⟨10, false, []⟩) hc2).1
        have hld2 := fun r K k => (hx.of_cln (cl2 r)).ld (K := K) h k
        repeat' (first
          | (refine Br.no rfl ?_; conv => whnf)
          | (refine Br.yes rfl ?_; conv => whnf)
          | (refine Idx.nat h ?_; conv => whnf)
          | (refine hld2 _ _ ?_; conv => whnf)
          | (refine Two.intro ?_ ?_ <;> conv => whnf)
          | (refine Drawn.intro (by kernel_rfl) ?_; conv => whnf)
          | (refine Br.dec (fun _ => ?_) (fun _ => ?_) <;> conv => whnf)
          | (refine Br.neg (fun _ => ?_) (fun _ => ?_) <;> conv => whnf)
          | (refine Br.both (fun _ => ?_) (fun _ => ?_) <;> conv => whnf))
        refine New.intro fun e3 he3 => ?_
        conv => whnf
        have cla3 := fun r => Cln.new (r := r) (cl2 _) he3
        have ga3 := fun r => Hp.keep_new (r := r) he3 (Hp.set_get _ _ _)
        refine Whole.intro (Hp.set_get _ _ _) rfl (Nat.le_refl 1) ?_
        conv => whnf
        refine Over.intro (ga3 _) rfl rfl ?_
        conv => whnf
        refine Must.intro ⟨by simp, by rw [tb49]; show (_ + 1) * 88 ≤ _; (simp only [List.length_take, List.length_drop, List.length_cons]; omega)⟩ ?_
        conv => whnf
        refine New.intro fun c3 hc3 => ?_
        conv => whnf
        have cl3 := fun r => ((cla3 _).move (r := r) hc3).2
        have hf3 := ((cla3 _).move (r := ⟨10, false, []⟩) hc3).1
        simp (disch := omega) only [wrap_id]
        have hpl2 := putTo_here h e
        have hs := fun s' => hK (i + 1, c3) s' ⟨‹i < l.length›, hf3⟩ (by simp only; omega)
        simp only [e, Nat.lt_succ_self, decide_true, hpl2, List.length_append, List.length_cons, List.length_nil] at hs
        refine hs _ ⟨rfl, by repeat' (first | exact trivial | exact .inl rfl | apply And.intro), by repeat' (first | exact trivial | exact ⟨_, rfl, cle.refl _⟩ | apply And.intro), (cl3 _).sub ?_⟩
        rw [Hp.set_get]
        simp [rep, List.take_of_length_le, R.av]
      · have hpl := putTo_length (l := l) (r := r) (i := i) (by omega)
        have ne : insAt l r.key ≠ i := by
          intro e
          have := insAt_lt (l := l) (k := r.key) (i := i) h (by omega)
          unfold gtr at this
          rw [‹(_ || _) = true›] at this
          simp at this; exact this e
        have cl := Cln.init ⟨10, false, (putTo l r i).map R.av⟩ hc
        have g := Hp.set_get H c ⟨10, false, (putTo l r i).map R.av⟩
        refine New.intro fun e2 he2 => ?_
        conv => whnf
        have cla2 := fun r => Cln.new (r := r) (cl) he2
        have ga2 := fun r => Hp.keep_new (r := r) he2 (g)
        refine Whole.intro (Hp.set_get _ _ _) rfl (Nat.le_refl 1) ?_
        conv => whnf
        refine Over.intro (ga2 _) rfl rfl ?_
        conv => whnf
        refine Must.intro ⟨by simp, by rw [tb49]; show (_ + 1) * 88 ≤ _; omega⟩ ?_
        conv => whnf
        refine New.intro fun c2 hc2 => ?_
        conv => whnf
        have cl2 := fun r => ((cla2 _).move (r := r) hc2).2
        have hf2 := ((cla2 _).move (r := ⟨10, false, []⟩) hc2).1
        simp (disch := omega) only [wrap_id]
        have hpl2 := putTo_succ (l := l) (r := r) h ne
        have hs := fun s' => hK (i + 1, c2) s' ⟨‹i < l.length›, hf2⟩ (by simp only; omega)
        simp only [hpl2, List.length_append, List.length_cons, List.length_nil, decide_eq_decide.2 (show insAt l r.key < i + 1 ↔ insAt l r.key < i by omega)] at hs
        refine hs _ ⟨rfl, by repeat' (first | exact trivial | exact .inl rfl | apply And.intro), by repeat' (first | exact trivial | exact ⟨_, rfl, cle.refl _⟩ | apply And.intro), (cl2 _).sub ?_⟩
        rw [Hp.set_get]
        simp [rep, List.take_of_length_le, R.av]
      · have hpl := putTo_length (l := l) (r := r) (i := i) (by omega)
        have ne : insAt l r.key ≠ i := by
          have : insAt l r.key < i := by simpa using ‹decide (insAt l r.key < i) = true›
          omega
        have cl := Cln.init ⟨10, false, (putTo l r i).map R.av⟩ hc
        have g := Hp.set_get H c ⟨10, false, (putTo l r i).map R.av⟩
        refine New.intro fun e2 he2 => ?_
        conv => whnf
        have cla2 := fun r => Cln.new (r := r) (cl) he2
        have ga2 := fun r => Hp.keep_new (r := r) he2 (g)
        refine Whole.intro (Hp.set_get _ _ _) rfl (Nat.le_refl 1) ?_
        conv => whnf
        refine Over.intro (ga2 _) rfl rfl ?_
        conv => whnf
        refine Must.intro ⟨by simp, by rw [tb49]; show (_ + 1) * 88 ≤ _; omega⟩ ?_
        conv => whnf
        refine New.intro fun c2 hc2 => ?_
        conv => whnf
        have cl2 := fun r => ((cla2 _).move (r := r) hc2).2
        have hf2 := ((cla2 _).move (r := ⟨10, false, []⟩) hc2).1
        simp (disch := omega) only [wrap_id]
        have hpl2 := putTo_succ (l := l) (r := r) h ne
        have hs := fun s' => hK (i + 1, c2) s' ⟨‹i < l.length›, hf2⟩ (by simp only; omega)
        simp only [hpl2, List.length_append, List.length_cons, List.length_nil, decide_eq_decide.2 (show insAt l r.key < i + 1 ↔ insAt l r.key < i by omega)] at hs
        refine hs _ ⟨rfl, by repeat' (first | exact trivial | exact .inl rfl | apply And.intro), by repeat' (first | exact trivial | exact ⟨_, rfl, cle.refl _⟩ | apply And.intro), (cl2 _).sub ?_⟩
        rw [Hp.set_get]
        simp [rep, List.take_of_length_le, R.av]
    · have e : i = l.length := by omega
      subst e
      have hpe := putTo_end l r
      have hpl := putTo_length (l := l) (r := r) (i := l.length) (by omega)
      repeat' (first
        | (refine Br.no rfl ?_; conv => whnf)
        | (refine Br.yes rfl ?_; conv => whnf)
        | (refine Two.intro ?_ ?_ <;> conv => whnf)
        | (refine Drawn.intro (by kernel_rfl) ?_; conv => whnf)
        | (refine Br.dec (fun _ => ?_) (fun _ => ?_) <;> conv => whnf)
        | (refine Br.neg (fun _ => ?_) (fun _ => ?_) <;> conv => whnf)
        | (refine Br.both (fun _ => ?_) (fun _ => ?_) <;> conv => whnf))
      · have h1 : ¬ insAt l r.key < l.length := by simpa using ‹decide (insAt l r.key < l.length) = false›
        rw [if_neg h1] at hpe
        have cl := Cln.init ⟨10, false, (putTo l r l.length).map R.av⟩ hc
        have g := Hp.set_get H c ⟨10, false, (putTo l r l.length).map R.av⟩
        refine New.intro fun e2 he2 => ?_
        conv => whnf
        have cla2 := fun r => Cln.new (r := r) (cl) he2
        have ga2 := fun r => Hp.keep_new (r := r) he2 (g)
        refine Whole.intro (Hp.set_get _ _ _) rfl (Nat.le_refl 1) ?_
        conv => whnf
        refine Over.intro (ga2 _) rfl rfl ?_
        conv => whnf
        refine Must.intro ⟨by simp, by rw [tb49]; show (_ + 1) * 88 ≤ _; omega⟩ ?_
        conv => whnf
        refine New.intro fun c2 hc2 => ?_
        conv => whnf
        have cl2 := fun r => ((cla2 _).move (r := r) hc2).2
        have hf2 := ((cla2 _).move (r := ⟨10, false, []⟩) hc2).1
        refine .sub _ ((cl2 _).sub (Hp.set_get _ _ _)) (.done ⟨c2, hf2, ?_, congrArg _ (congrArg _ ?_)⟩)
        · rw [← hpe]; simp
        · rw [← hpe]; simp [rep, List.take_of_length_le, R.av]
      · have h1 : insAt l r.key < l.length := by simpa using ‹decide (insAt l r.key < l.length) = true›
        rw [if_pos h1] at hpe
        rw [hpe]
        exact .done ⟨c, hc, rfl, rfl⟩
  · have e : putTo l r 0 = [] := by unfold putTo; rw [if_neg (by omega)]; rfl
    simp only [e, Nat.not_lt_zero, decide_false]
    exact ⟨rfl, by repeat' (first | exact trivial | exact .inl rfl | apply And.intro), by repeat' (first | exact trivial | exact ⟨_, rfl, cle.refl _⟩ | apply And.intro), HSub.refl _⟩

end Go.Proofs.Ytdbedlomiedncaa.Vc
