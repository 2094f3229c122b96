/- Rows found by a test; slices of slices of rows; totals. -/
import Derived.Test.YtdbedlomiedncaaB2
namespace Go.Proofs.Ytdbedlomiedncaa.Vc
open Go

/-- the first place where p holds, or -1 -/
def idxF {α : Type} (p : α → Bool) (x : List α) : Int := if x.findIdx p < x.length then (x.findIdx p : Int) else -1

theorem idxF_at {α : Type} {p : α → Bool} {x : List α} {i : Nat} (hi : i < x.length) (h : ∀ j (hj : j < x.length), j < i → p x[j] = false) (hp : p x[i] = true) : idxF p x = i := by
  have e : x.findIdx p = i := (List.findIdx_eq hi).2 ⟨hp, fun j hj => h j (by omega) hj⟩
  unfold idxF; rw [e, if_pos hi]

theorem idxF_none {α : Type} {p : α → Bool} {x : List α} (h : ∀ j (hj : j < x.length), p x[j] = false) : idxF p x = -1 := by
  have e : x.findIdx p = x.length := by
    rw [List.findIdx_eq_length]; intro y hy
    obtain ⟨i, hi, rfl⟩ := List.mem_iff_getElem.1 hy
    exact h i hi
  unfold idxF; rw [e, if_neg (Nat.lt_irrefl _)]

def NoTo {α : Type} (p : α → Bool) (x : List α) (n : Nat) : Prop := ∀ j (hj : j < x.length), j < n → p x[j] = false

theorem NoTo.succ {α : Type} {p : α → Bool} {x : List α} {n : Nat} (h : NoTo p x n) (hn : n < x.length) (h' : p x[n] = false) : NoTo p x (n + 1) := fun j hj hjn => by
  by_cases e : j = n
  · subst e; exact h'
  · exact h j hj (by omega)

set_option maxRecDepth 100000 in
theorem indexFuncR_ok (H : Hp) (a : Addr) (o : Nat) (x : List R) (g : Nat) (cs : List AV) (p : R → Bool) (hx : SlR H a o x) (hl : x.length ≤ 4611686018427387904)
    (hg : ∀ r ∈ x, AC Try.prog g (.agg r.av :: cs) H fun v h => v = .bool (p r) ∧ h = H) : AC Try.prog 81 [.slice a 10 o x.length, .func g cs] H fun v h => v = .int .i64 (idxF p x) ∧ h = H := by
  refine AC_of_vc (T := tab) (D := D81) (esc := []) tab_ok mixed Try.func81 rfl rfl rfl ?_
  conv => whnf
  refine LoopVC.intro (fun i : Nat => (⟨Try.f81.ntmps, [(8, .int .i64 i), (7, .int .i64 x.length), (0, .slice a 10 o x.length), (1, .func g cs)], [], H⟩ : St)) (fun i => i ≤ x.length ∧ NoTo p x i) (fun i => x.length - i) (fun i hi K hK => ?_) 0 ⟨by omega, fun _ _ h => by omega⟩ ⟨rfl, by repeat' (first | exact trivial | exact .inl rfl | apply And.intro), by repeat' (first | exact trivial | exact ⟨_, rfl, cle.refl _⟩ | apply And.intro), HSub.refl _⟩
  obtain ⟨hi1, hi2⟩ := hi
  conv => whnf
  refine Br.dec (fun h => ?_) (fun h => ?_) <;> conv => whnf
  · have h : i < x.length := by omega
    refine Idx.nat h ?_
    conv => whnf
    refine hx.ld h ?_
    conv => whnf
    refine AC.use1 (hg _ (List.getElem_mem h)) ?_
    conv => whnf
    refine Br.both (fun h' => ?_) (fun h' => ?_) <;> conv => whnf
    · exact ⟨by rw [idxF_at h (fun j hj hj' => hi2 j hj hj') h'], rfl⟩
    · simp (disch := omega) only [wrap_id]
      exact hK (i + 1) _ ⟨h, hi2.succ h h'⟩ (by omega) ⟨rfl, by repeat' (first | exact trivial | exact .inl rfl | apply And.intro), by repeat' (first | exact trivial | exact ⟨_, rfl, cle.refl _⟩ | apply And.intro), HSub.refl _⟩
  · have e : i = x.length := by omega
    subst e
    exact ⟨by rw [idxF_none (fun j hj => hi2 j hj hj)], rfl⟩

/-- a slice of rows, as a cell bears it -/
def srow (q : Addr × Nat × Nat) : List AV := [.slice q.1 10 q.2.1 q.2.2]

/-- the first number below n where p holds, or -1 -/
def idxN (p : Nat → Bool) (n : Nat) : Int := idxF p (List.range n)

theorem idxN_at {p : Nat → Bool} {n i : Nat} (hi : i < n) (h : ∀ j, j < i → p j = false) (hp : p i = true) : idxN p n = i :=
  idxF_at (by simpa using hi) (fun j hj hji => by simpa using h j hji) (by simpa using hp)

theorem idxN_none {p : Nat → Bool} {n : Nat} (h : ∀ j, j < n → p j = false) : idxN p n = -1 :=
  idxF_none fun j hj => by simpa using h j (by simpa using hj)

theorem idxN_has {p : Nat → Bool} {n : Nat} : decide (0 ≤ idxN p n) = (List.range n).any p := by
  unfold idxN idxF
  by_cases h : (List.range n).findIdx p < (List.range n).length
  · rw [if_pos h]
    rw [List.findIdx_lt_length] at h
    have : (List.range n).any p = true := by rw [List.any_eq_true]; exact h
    rw [this]; simp
  · rw [if_neg h]
    rw [List.findIdx_lt_length] at h
    have : (List.range n).any p = false := by rw [List.any_eq_false]; intro x hx hp; exact h ⟨x, hx, hp⟩
    rw [this]; rfl

set_option maxRecDepth 100000 in
theorem indexFuncS_ok (H : Hp) (a : Addr) (o : Nat) (x : List (Addr × Nat × Nat)) (g : Nat) (cs : List AV) (p : Nat → Bool) (hx : Sl H a 1 o (x.map srow)) (hl : x.length ≤ 4611686018427387904)
    (hg : ∀ i (h : i < x.length), AC Try.prog g (.slice x[i].1 10 x[i].2.1 x[i].2.2 :: cs) H fun v h => v = .bool (p i) ∧ h = H) : AC Try.prog 110 [.slice a 1 o x.length, .func g cs] H fun v h => v = .int .i64 (idxN p x.length) ∧ h = H := by
  refine AC_of_vc (T := tab) (D := D110) (esc := []) tab_ok mixed Try.func110 rfl rfl rfl ?_
  conv => whnf
  refine LoopVC.intro (fun i : Nat => (⟨Try.f110.ntmps, [(8, .int .i64 i), (7, .int .i64 x.length), (0, .slice a 1 o x.length), (1, .func g cs)], [], H⟩ : St)) (fun i => i ≤ x.length ∧ ∀ j, j < i → p j = false) (fun i => x.length - i) (fun i hi K hK => ?_) 0 ⟨by omega, fun _ h => by omega⟩ ⟨rfl, by repeat' (first | exact trivial | exact .inl rfl | apply And.intro), by repeat' (first | exact trivial | exact ⟨_, rfl, cle.refl _⟩ | apply And.intro), HSub.refl _⟩
  obtain ⟨hi1, hi2⟩ := hi
  conv => whnf
  refine Br.dec (fun h => ?_) (fun h => ?_) <;> conv => whnf
  · have h : i < x.length := by omega
    refine Idx.nat h ?_
    conv => whnf
    refine hx.ld h ?_
    conv => whnf
    refine AC.use1 (hg _ h) ?_
    conv => whnf
    refine Br.both (fun h' => ?_) (fun h' => ?_) <;> conv => whnf
    · exact ⟨by rw [idxN_at h hi2 h'], rfl⟩
    · simp (disch := omega) only [wrap_id]
      refine hK (i + 1) _ ⟨h, fun j hj => ?_⟩ (by omega) ⟨rfl, by repeat' (first | exact trivial | exact .inl rfl | apply And.intro), by repeat' (first | exact trivial | exact ⟨_, rfl, cle.refl _⟩ | apply And.intro), HSub.refl _⟩
      by_cases e : j = i
      · subst e; exact h'
      · exact hi2 j (by omega)
  · have e : i = x.length := by omega
    subst e
    exact ⟨by rw [idxN_none hi2], rfl⟩

theorem Sl.set {H : Hp} {a b : Addr} {e o : Nat} {es : List (List AV)} {r : Row} (h : Sl H a e o es) (hb : H.get b = none) : Sl (H.set b r) a e o es := by
  obtain ⟨r, h1, h2, h3⟩ := h
  exact ⟨r, by rw [Hp.set_other _ _ (Hp.ne_of h1 hb)]; exact h1, h2, h3⟩

set_option maxRecDepth 100000 in
theorem rowAt1_ok (H : Hp) (b : Addr) (rb : Row) (k : List UInt8) (r : R) (hb : H.get b = some rb) (he : rb.e = 1) (hes : rb.es[0]? = some [.str k]) : AC Try.prog 100 [.agg r.av, .ptr b 1 0 0] H fun v h => v = .bool (r.key == k) ∧ h = H := by
  refine AC_of_vc (T := tab) (D := D100) (esc := []) tab_ok mixed Try.func100 rfl rfl rfl ?_
  conv => whnf
  refine Ld.intro hb he hes ?_
  conv => whnf
  exact ⟨rfl, rfl⟩

/-- the first row of a key -/
def rowIx (x : List R) (k : List UInt8) : Int := idxF (fun r => r.key == k) x

theorem SlR.set {H : Hp} {a b : Addr} {o : Nat} {x : List R} {r : Row} (h : SlR H a o x) (hb : H.get b = none) : SlR (H.set b r) a o x := Sl.set h hb

set_option maxRecDepth 100000 in
theorem rowAt_ok (H : Hp) (a : Addr) (o : Nat) (x : List R) (k : List UInt8) (hx : SlR H a o x) (hl : x.length ≤ 4611686018427387904) : AC Try.prog 80 [.slice a 10 o x.length, .str k] H fun v h => v = .int .i64 (rowIx x k) ∧ h = H := by
  refine AC.post ?_
  refine AC_of_vc (T := tab) (D := D80) (esc := [3]) tab_ok mixed Try.func80 rfl rfl rfl ?_
  conv => whnf
  refine New.intro fun b hb => ?_
  conv => whnf
  refine AC.use1 (indexFuncR_ok _ a o x _ _ (fun r => r.key == k) (hx.set hb) hl fun r _ => rowAt1_ok _ b _ k r (Hp.set_get _ _ _) rfl rfl) ?_
  conv => whnf
  exact .sub H (HSub.drop _ hb) (.done ⟨rfl, rfl⟩)

theorem rowIx_at {x : List R} {k : List UInt8} (h : ¬ rowIx x k < 0) : ∃ i : Nat, rowIx x k = (i : Int) ∧ i < x.length := by
  unfold rowIx idxF at *
  split at h
  · rename_i h'; rw [if_pos h']; exact ⟨_, rfl, h'⟩
  · omega

/-- the row of a key, and whether there is one -/
def findRow (x : List R) (k : List UInt8) : R × Bool := match x.find? (fun r => r.key == k) with
  | some r => (r, true)
  | none => (R.zero, false)

theorem findRow_at {x : List R} {k : List UInt8} {i : Nat} (hi : i < x.length) (h : ∀ j (hj : j < x.length), j < i → (x[j].key == k) = false) (hp : (x[i].key == k) = true) : findRow x k = (x[i], true) := by
  have : x.find? (fun r => r.key == k) = some x[i] := by
    rw [List.find?_eq_some_iff_getElem]
    exact ⟨hp, i, hi, rfl, fun j hj => by simpa using h j (by omega) hj⟩
  unfold findRow; rw [this]

theorem findRow_none {x : List R} {k : List UInt8} (h : ∀ j (hj : j < x.length), (x[j].key == k) = false) : findRow x k = (R.zero, false) := by
  have : x.find? (fun r => r.key == k) = none := by
    rw [List.find?_eq_none]; intro y hy
    obtain ⟨i, hi, rfl⟩ := List.mem_iff_getElem.1 hy
    simpa using h i hi
  unfold findRow; rw [this]

theorem rowIx_find {x : List R} {k : List UInt8} : (rowIx x k < 0 → findRow x k = (R.zero, false)) ∧ ∀ i : Nat, rowIx x k = (i : Int) → ∀ h : i < x.length, findRow x k = (x[i], true) := by
  unfold rowIx idxF
  by_cases h : x.findIdx (fun r => r.key == k) < x.length
  · rw [if_pos h]
    refine ⟨fun h' => by omega, fun i e hi => ?_⟩
    have e : x.findIdx (fun r => r.key == k) = i := by omega
    obtain ⟨h1, h2⟩ := (List.findIdx_eq hi).1 e
    exact findRow_at hi (fun j hj hji => h2 j hji) h1
  · rw [if_neg h]
    refine ⟨fun _ => findRow_none fun j hj => ?_, fun i e => by omega⟩
    have e : x.findIdx (fun r => r.key == k) = x.length := by have := List.findIdx_le_length (xs := x) (p := fun r => r.key == k); omega
    rw [List.findIdx_eq_length] at e
    exact e _ (List.getElem_mem hj)

set_option maxRecDepth 100000 in
theorem implFindRow_ok (H : Hp) (a : Addr) (o : Nat) (x : List R) (k : List UInt8) (hx : SlR H a o x) (hl : x.length ≤ 4611686018427387904) : AC Try.prog 35 [.slice a 10 o x.length, .str k] H fun v h => v = .tuple [.agg (findRow x k).1.av, .bool (findRow x k).2] ∧ h = H := by
  refine AC_of_vc (T := tab) (D := D35) (esc := []) tab_ok mixed Try.func35 rfl rfl rfl ?_
  conv => whnf
  refine AC.use1 (rowAt_ok _ a o x k hx hl) ?_
  conv => whnf
  refine Br.dec (fun h => ?_) (fun h => ?_) <;> conv => whnf
  · exact ⟨by rw [rowIx_find.1 h] <;> rfl, rfl⟩
  · obtain ⟨i, e, hi⟩ := rowIx_at h
    rw [e]
    refine Idx.nat hi ?_
    conv => whnf
    refine hx.ld hi ?_
    conv => whnf
    exact ⟨by rw [rowIx_find.2 i e hi] <;> rfl, rfl⟩

set_option maxRecDepth 100000 in
theorem specFindRow_ok (H : Hp) (a : Addr) (o : Nat) (x : List R) (k : List UInt8) (hx : SlR H a o x) (hl : x.length ≤ 4611686018427387904) : AC Try.prog 51 [.slice a 10 o x.length, .str k] H fun v h => v = .tuple [.agg (findRow x k).1.av, .bool (findRow x k).2] ∧ h = H := by
  refine AC_of_vc (T := tab) (D := D51) (esc := []) tab_ok mixed Try.func51 rfl rfl rfl ?_
  conv => whnf
  refine LoopVC.intro (fun i : Nat => (⟨Try.f51.ntmps, [(6, .int .i64 i), (0, .slice a 10 o x.length), (1, .str k), (4, .lptr 4 0)], [(4, R.zero.av)], H⟩ : St)) (fun i => i ≤ x.length ∧ NoTo (fun r : R => r.key == k) x i) (fun i => x.length - i) (fun i hi K hK => ?_) 0 ⟨by omega, fun _ _ h => by omega⟩ ⟨rfl, by repeat' (first | exact trivial | exact .inl rfl | apply And.intro), by repeat' (first | exact trivial | exact ⟨_, rfl, cle.refl _⟩ | apply And.intro), HSub.refl _⟩
  obtain ⟨hi1, hi2⟩ := hi
  conv => whnf
  refine Br.dec (fun h => ?_) (fun h => ?_) <;> conv => whnf
  · have h : i < x.length := by omega
    refine Idx.nat h ?_
    conv => whnf
    refine hx.ld h ?_
    conv => whnf
    refine Br.both (fun h' => ?_) (fun h' => ?_) <;> conv => whnf
    · refine Idx.nat h ?_
      conv => whnf
      refine hx.ld h ?_
      conv => whnf
      exact ⟨by rw [findRow_at h (fun j hj hji => hi2 j hj hji) h']; rfl, rfl⟩
    · simp (disch := omega) only [wrap_id]
      exact hK (i + 1) _ ⟨h, hi2.succ h h'⟩ (by omega) ⟨rfl, by repeat' (first | exact trivial | exact .inl rfl | apply And.intro), by repeat' (first | exact trivial | exact ⟨_, rfl, cle.refl _⟩ | apply And.intro), HSub.refl _⟩
  · have e : i = x.length := by omega
    subst e
    exact ⟨by rw [findRow_none (fun j hj => hi2 j hj hj)]; rfl, rfl⟩

/-- a slice of slices of rows -/
def SlRR (H : Hp) (a : Addr) (o : Nat) (rs : List (List R)) : Prop := ∃ q : List (Addr × Nat × Nat), Sl H a 1 o (q.map srow) ∧ q.length = rs.length ∧ ∀ i (h : i < q.length) (h' : i < rs.length), q[i].2.2 = rs[i].length ∧ SlR H q[i].1 q[i].2.1 rs[i]

theorem SlRR.ld {H : Hp} {a : Addr} {o i : Nat} {rs : List (List R)} {K : List AV → Prop} (h : SlRR H a o rs) (hi : i < rs.length) (k : ∀ b p, SlR H b p rs[i] → K [.slice b 10 p rs[i].length]) : Ld H a 1 (o + i) K := by
  obtain ⟨q, h1, h2, h3⟩ := h
  refine h1.ld (i := i) (by omega) ?_
  obtain ⟨e, h4⟩ := h3 i (by omega) hi
  have := k _ _ h4
  rw [← e] at this
  exact this

theorem SlRR.set {H : Hp} {a b : Addr} {o : Nat} {rs : List (List R)} {r : Row} (h : SlRR H a o rs) (hb : H.get b = none) : SlRR (H.set b r) a o rs := by
  obtain ⟨q, h1, h2, h3⟩ := h
  exact ⟨q, h1.set hb, h2, fun i hi hi' => ⟨(h3 i hi hi').1, (h3 i hi hi').2.set hb⟩⟩

/-- sizes that memory bears -/
def KSS (rs : List (List R)) : Prop := rs.length ≤ 1048576 ∧ ∀ x ∈ rs, KS x ∧ x.length ≤ 1048576

theorem KSS.at {rs : List (List R)} (h : KSS rs) {i : Nat} (hi : i < rs.length) : KS rs[i] ∧ rs[i].length ≤ 4611686018427387904 := by
  obtain ⟨h1, h2⟩ := h.2 _ (List.getElem_mem hi); exact ⟨h1, by omega⟩

set_option maxRecDepth 100000 in
theorem storeOk1_ok (H : Hp) (a : Addr) (o : Nat) (x : List R) (hx : SlR H a o x) (hk : KS x) (hl : x.length ≤ 4611686018427387904) : AC Try.prog 92 [.slice a 10 o x.length] H fun v h => v = .bool (!repOk x) ∧ h = H := by
  refine AC_of_vc (T := tab) (D := D92) (esc := []) tab_ok mixed Try.func92 rfl rfl rfl ?_
  conv => whnf
  refine AC.use1 (implReportOk_ok _ a o x hx hk hl) ?_
  conv => whnf
  exact ⟨rfl, rfl⟩

set_option maxRecDepth 100000 in
theorem containsBad_ok (H : Hp) (a : Addr) (o : Nat) (rs : List (List R)) (hx : SlRR H a o rs) (hk : KSS rs) : AC Try.prog 91 [.slice a 1 o rs.length, .func 92 []] H fun v h => v = .bool (!rs.all repOk) ∧ h = H := by
  refine AC_of_vc (T := tab) (D := D91) (esc := []) tab_ok mixed Try.func91 rfl rfl rfl ?_
  conv => whnf
  obtain ⟨q, h1, h2, h3⟩ := hx
  have hk1 := hk.1
  rw [← h2]
  have key : ∀ i (h : i < q.length) (h' : i < rs.length), AC Try.prog 92 [.slice q[i].1 10 q[i].2.1 q[i].2.2] H fun v h => v = .bool (!repOk rs[i]) ∧ h = H := fun i h h' => by
    obtain ⟨e, h4⟩ := h3 i h h'
    have := storeOk1_ok H _ _ _ h4 (hk.at h').1 (hk.at h').2
    rw [← e] at this; exact this
  refine AC.use1 (indexFuncS_ok H a o q _ [] (fun i => !repOk (rs.getD i [])) h1 (by omega) fun i hi => ?_) ?_
  · have := key i hi (by omega)
    rw [List.getD_eq_getElem?_getD, List.getElem?_eq_getElem (by omega : i < rs.length)]
    exact this
  conv => whnf
  refine ⟨?_, rfl⟩
  have e := idxN_has (p := fun i => !repOk (rs.getD i [])) (n := q.length)
  refine congrArg AV.bool (e.trans ?_)
  rw [h2, Bool.eq_iff_iff]
  simp only [List.any_eq_true, List.mem_range, Bool.not_eq_true', List.all_eq_false]
  constructor
  · rintro ⟨i, hi, hp⟩
    refine ⟨rs[i], List.getElem_mem hi, ?_⟩
    simpa [List.getD_eq_getElem?_getD, List.getElem?_eq_getElem hi] using hp
  · rintro ⟨x, hx, hp⟩
    obtain ⟨i, hi, rfl⟩ := List.mem_iff_getElem.1 hx
    refine ⟨i, hi, ?_⟩
    simpa [List.getD_eq_getElem?_getD, List.getElem?_eq_getElem hi] using hp

noncomputable def storeOk (c f : Int) (rs : List (List R)) : Bool := inB c 1 5 && decide ((rs.length : Int) ≤ c) && inB f 0 1000000 && (f == 0 || (rs.length : Int) == c) && rs.all repOk

set_option maxRecDepth 100000 in
theorem implStoreOk_ok (H : Hp) (c f : Int) (a : Addr) (o : Nat) (rs : List (List R)) (hx : SlRR H a o rs) (hk : KSS rs) : AC Try.prog 45 [.agg [.int .i64 c, .int .i64 f, .slice a 1 o rs.length]] H fun v h => v = .bool (storeOk c f rs) ∧ h = H := by
  refine AC_of_vc (T := tab) (D := D45) (esc := []) tab_ok mixed Try.func45 rfl rfl rfl ?_
  conv => whnf
  repeat' (first
    | (refine Br.no rfl ?_; conv => whnf)
    | (refine Br.yes rfl ?_; conv => whnf)
    | (refine AC.use1 (within_ok _ _ _ _) ?_; conv => whnf)
    | (refine AC.use1 (containsBad_ok _ a o rs hx hk) ?_; conv => whnf)
    | (refine Two.intro ?_ ?_ <;> conv => whnf)
    | (refine Drawn.intro (by kernel_rfl) ?_; conv => whnf)
    | (refine Br.dec (fun _ => ?_) (fun _ => ?_) <;> conv => whnf)
    | (refine Br.neg (fun _ => ?_) (fun _ => ?_) <;> conv => whnf)
    | (refine Br.both (fun _ => ?_) (fun _ => ?_) <;> conv => whnf))
  all_goals (refine ⟨?_, rfl⟩; simp_all [storeOk, inB] <;> omega)

set_option maxRecDepth 100000 in
theorem specStoreOk_ok (H : Hp) (c f : Int) (a : Addr) (o : Nat) (rs : List (List R)) (hx : SlRR H a o rs) (hk : KSS rs) : AC Try.prog 43 [.agg [.int .i64 c, .int .i64 f, .slice a 1 o rs.length]] H fun v h => v = .bool (storeOk c f rs) ∧ h = H := by
  refine AC_of_vc (T := tab) (D := D43) (esc := []) tab_ok mixed Try.func43 rfl rfl rfl ?_
  conv => whnf
  have hk1 := hk.1
  refine LoopVC.intro (fun i : Nat => (⟨Try.f43.ntmps, [(3, .int .i64 i), (1, .lptr 1 0)], [(1, [.int .i64 c, .int .i64 f, .slice a 1 o rs.length])], H⟩ : St)) (fun i => i ≤ rs.length ∧ (rs.take i).all repOk = true) (fun i => rs.length - i) (fun i hi K hK => ?_) 0 ⟨by omega, rfl⟩ ⟨rfl, by repeat' (first | exact trivial | exact .inl rfl | apply And.intro), by repeat' (first | exact trivial | exact ⟨_, rfl, cle.refl _⟩ | apply And.intro), HSub.refl _⟩
  obtain ⟨hi1, hi2⟩ := hi
  conv => whnf
  refine Br.dec (fun h => ?_) (fun h => ?_) <;> conv => whnf
  · have h : i < rs.length := by omega
    refine Idx.nat h ?_
    conv => whnf
    refine hx.ld h fun b p hb => ?_
    conv => whnf
    refine AC.use1 (specReportOk_ok _ b p _ hb (hk.at h).1 (hk.at h).2) ?_
    conv => whnf
    refine Br.both (fun h' => ?_) (fun h' => ?_) <;> conv => whnf
    · refine ⟨?_, rfl⟩
      have : rs.all repOk = false := all_no h (by simpa using h')
      simp [storeOk, this]
    · simp (disch := omega) only [wrap_id]
      exact hK (i + 1) _ ⟨h, by rw [all_take h hi2]; simpa using h'⟩ (by omega) ⟨rfl, by repeat' (first | exact trivial | exact .inl rfl | apply And.intro), by repeat' (first | exact trivial | exact ⟨_, rfl, cle.refl _⟩ | apply And.intro), HSub.refl _⟩
  · have e : i = rs.length := by omega
    subst e
    rw [List.take_length] at hi2
    have hs : storeOk c f rs = (inB c 1 5 && decide ((rs.length : Int) ≤ c) && inB f 0 1000000 && (f == 0 || (rs.length : Int) == c)) := by rw [storeOk, hi2, Bool.and_true]
    clear hi2
    repeat' (first
      | (refine Br.no rfl ?_; conv => whnf)
      | (refine Br.yes rfl ?_; conv => whnf)
      | (refine AC.use1 (l1In_ok _ _ _ _) ?_; conv => whnf)
      | (refine Two.intro ?_ ?_ <;> conv => whnf)
      | (refine Drawn.intro (by kernel_rfl) ?_; conv => whnf)
      | (refine Br.dec (fun _ => ?_) (fun _ => ?_) <;> conv => whnf)
      | (refine Br.neg (fun _ => ?_) (fun _ => ?_) <;> conv => whnf)
      | (refine Br.both (fun _ => ?_) (fun _ => ?_) <;> conv => whnf))
    all_goals (refine ⟨?_, rfl⟩; rw [hs]; clear hs; simp_all [inB] <;> omega)

end Go.Proofs.Ytdbedlomiedncaa.Vc
