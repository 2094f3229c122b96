/- The heap: what rows say of a world; loads, stores and new blocks. -/
import Derived.Test.YtdbedlomiedncaaVc4
namespace Go.Proofs.Ytdbedlomiedncaa.Vc
open Go

def Real (w : World) (a : Addr) (r : Row) : Prop := a.spot = none ∧ 0 < r.e ∧ ∃ c E fr, w.heap[a.block]? = some (.cells c E fr) ∧ a.off + r.es.length * r.e ≤ c.size ∧
  (r.ro = false → ∀ i, i ≤ c.size → ¬ (fr.1 ≤ i ∧ i < fr.2)) ∧
  ∀ (i : Nat) cs, r.es[i]? = some cs → cs.length = r.e ∧ allCells cs = true ∧ VRs (bs w) cs ((c.toList.drop (a.off + i * r.e)).take r.e)

def RowOk (w : World) (a : Addr) (r : Row) : Prop := Real w a r ∨ (a.spot ≠ none ∧ r.es = [])

structure Sat (w : World) (H : Hp) : Prop where
  rows : ∀ a r, H.get a = some r → RowOk w a r
  excl : ∀ a r a' r', H.get a = some r → H.get a' = some r' → r.ro = false → a.spot = none → a'.spot = none → a.block = a'.block → a = a'
  ghost : ∃ N, ∀ k, N ≤ k → H.get ⟨0, 0, some k⟩ = none

/-- blocks that may be written -/
def own (H : Hp) (b : Nat) : Prop := ∃ a r, H.get a = some r ∧ r.ro = false ∧ a.spot = none ∧ a.block = b

/-- blocks that rows lie in -/
def blk (H : Hp) (b : Nat) : Prop := ∃ a r, H.get a = some r ∧ a.spot = none ∧ a.block = b

structure Fr (w0 : World) (H0 : Hp) (w : World) (H : Hp) : Prop where
  size : w0.heap.size ≤ w.heap.size
  keep : ∀ b, b < w0.heap.size → ¬ own H0 b → w.heap[b]? = w0.heap[b]?
  owns : ∀ b, own H b → own H0 b ∨ w0.heap.size ≤ b
  blks : ∀ a r, H.get a = some r → a.spot = none → (∃ r0, H0.get a = some r0) ∨ own H0 a.block ∨ w0.heap.size ≤ a.block
  bl : BLe (bs w0) (bs w)
  os : w.os = w0.os
  out : w.output = w0.output
  tape : w.tape = w0.tape

theorem Fr.refl (w : World) (H : Hp) : Fr w H w H := ⟨Nat.le_refl _, fun _ _ _ => rfl, fun _ h => .inl h, fun _ r h _ => .inl ⟨r, h⟩, BLe.refl _, rfl, rfl, rfl⟩

theorem Fr.blk {w0 H0 w H} (h : Fr w0 H0 w H) {b : Nat} (hb : blk H b) : blk H0 b ∨ w0.heap.size ≤ b := by
  obtain ⟨a, r, h1, h2, h3⟩ := hb
  rcases h.blks a r h1 h2 with ⟨r0, h4⟩ | ⟨x, rx, h4, h5, h6, h7⟩ | h4
  · exact .inl ⟨a, r0, h4, h2, h3⟩
  · exact .inl ⟨x, rx, h4, h6, by rw [h7]; exact h3⟩
  · exact .inr (by omega)

theorem Fr.trans {w0 H0 w H w' H'} (h : Fr w0 H0 w H) (h' : Fr w H w' H') : Fr w0 H0 w' H' where
  size := Nat.le_trans h.size h'.size
  keep b hb ho := by
    rw [h'.keep b (Nat.lt_of_lt_of_le hb h.size) (fun hc => by rcases h.owns b hc with h1 | h1; exact ho h1; omega), h.keep b hb ho]
  owns b hb := by
    rcases h'.owns b hb with h1 | h1
    · exact h.owns b h1
    · right; have := h.size; omega
  blks a r hb hs := by
    rcases h'.blks a r hb hs with ⟨r1, h1⟩ | h1 | h1
    · exact h.blks a r1 h1 hs
    · rcases h.owns _ h1 with h2 | h2
      · exact .inr (.inl h2)
      · exact .inr (.inr h2)
    · right; right; have := h.size; omega
  bl := h.bl.trans h'.bl
  os := h'.os.trans h.os
  out := h'.out.trans h.out
  tape := h'.tape.trans h.tape

/-! ### changes of a world -/

def World.drawn' (w : World) (n : Nat) : World := { w with drawn := n }
def pushB (w : World) (o : Obj) : World := { w with heap := w.heap.push o }
def putB (w : World) (g : Nat) (o : Obj) : World := { w with heap := w.heap.setIfInBounds g o }

theorem pushB_get (w : World) (o : Obj) (b : Nat) : (pushB w o).heap[b]? = if b = w.heap.size then some o else w.heap[b]? := by
  simp only [pushB, Array.getElem?_push]

theorem putB_get (w : World) (g : Nat) (o : Obj) (b : Nat) (hg : g < w.heap.size) : (putB w g o).heap[b]? = if b = g then some o else w.heap[b]? := by
  simp only [putB, Array.getElem?_setIfInBounds]
  by_cases h : g = b
  · subst h; simp [hg]
  · rw [if_neg h, if_neg (fun e => h e.symm)]

theorem lt_of_get {w : World} {b : Nat} {o : Obj} (h : w.heap[b]? = some o) : b < w.heap.size := by
  rcases Nat.lt_or_ge b w.heap.size with h' | h'
  · exact h'
  · rw [Array.getElem?_eq_none h'] at h; cases h

theorem bs_push (w : World) (o : Obj) : BLe (bs w) (bs (pushB w o)) := by
  intro b n h
  unfold bs at *
  rw [pushB_get]
  by_cases e : b = w.heap.size
  · subst e; simp at h
  · rw [if_neg e]; exact h

theorem bs_put {w : World} {g : Nat} {c c' : Array Value} {E fr E' fr'} (h : w.heap[g]? = some (.cells c E fr)) (hs : c'.size = c.size) : bs (putB w g (.cells c' E' fr')) = bs w := by
  funext b
  unfold bs
  rw [putB_get _ _ _ _ (lt_of_get h)]
  by_cases e : b = g
  · subst e; rw [if_pos rfl, h]; simp only [hs]
  · rw [if_neg e]

theorem bs_lt {w : World} {b n : Nat} (h : bs w b = some n) : b < w.heap.size := by
  unfold bs at h
  split at h
  · rename_i h'; exact lt_of_get h'
  · cases h

/-- nothing that rows speak of is in a block that isn't there yet -/
theorem Real.lt {w a r} (h : Real w a r) : a.block < w.heap.size := by
  obtain ⟨_, _, c, E, fr, h, _⟩ := h; exact lt_of_get h

theorem Real.congr {w w' : World} {a r} (h : Real w a r) (hb : w'.heap[a.block]? = w.heap[a.block]?) (hl : BLe (bs w) (bs w')) : Real w' a r := by
  obtain ⟨h1, h2, c, E, fr, h3, h4, h5, h6⟩ := h
  refine ⟨h1, h2, c, E, fr, by rw [hb]; exact h3, h4, h5, fun i cs hi => ?_⟩
  obtain ⟨x, y, z⟩ := h6 i cs hi
  exact ⟨x, y, z.mono hl⟩

theorem RowOk.congr {w w' : World} {a r} (h : RowOk w a r) (hb : a.spot = none → w'.heap[a.block]? = w.heap[a.block]?) (hl : BLe (bs w) (bs w')) : RowOk w' a r := by
  rcases h with h | h
  · exact .inl (h.congr (hb h.1) hl)
  · exact .inr h

/-- a world with more draws is as good -/
theorem Sat.congr {w w' : World} {H} (h : Sat w H) (hh : w'.heap = w.heap) : Sat w' H := by
  have hb : bs w' = bs w := by funext b; unfold bs; rw [hh]
  exact ⟨fun a r hr => (h.rows a r hr).congr (fun _ => by rw [hh]) (by rw [hb]; exact BLe.refl _), h.excl, h.ghost⟩

theorem Hp.get_set (H : Hp) (a b : Addr) (r : Row) : (H.set a r).get b = if b = a then some r else H.get b := rfl
theorem Hp.get_del (H : Hp) (a b : Addr) : (H.del a).get b = if b = a then none else H.get b := rfl

theorem ghost_set {H : Hp} {a r} (h : ∃ N, ∀ k, N ≤ k → H.get ⟨0, 0, some k⟩ = none) : ∃ N, ∀ k, N ≤ k → (H.set a r).get ⟨0, 0, some k⟩ = none := by
  obtain ⟨N, h⟩ := h
  cases ha : a.spot with
  | none =>
    refine ⟨N, fun k hk => ?_⟩
    rw [Hp.get_set, if_neg (fun e => by rw [← e] at ha; cases ha)]; exact h k hk
  | some m =>
    refine ⟨max N (m + 1), fun k hk => ?_⟩
    rw [Hp.get_set, if_neg (fun e => by rw [← e] at ha; injection ha with ha; omega)]; exact h k (by omega)

theorem ghost_del {H : Hp} {a} (h : ∃ N, ∀ k, N ≤ k → H.get ⟨0, 0, some k⟩ = none) : ∃ N, ∀ k, N ≤ k → (H.del a).get ⟨0, 0, some k⟩ = none := by
  obtain ⟨N, h⟩ := h
  refine ⟨N, fun k hk => ?_⟩
  rw [Hp.get_del]; split
  · rfl
  · exact h k hk

theorem Sat.del {w H} (h : Sat w H) (a : Addr) : Sat w (H.del a) := by
  refine ⟨fun b r hb => ?_, fun b r b' r' hb hb' => ?_, ghost_del h.ghost⟩
  · rw [Hp.get_del] at hb; split at hb
    · cases hb
    · exact h.rows b r hb
  · rw [Hp.get_del] at hb hb'; split at hb <;> split at hb' <;> first | (cases hb; done) | (cases hb'; done) | exact h.excl b r b' r' hb hb'

/-- a new block -/
theorem Sat.push {w H} (h : Sat w H) (c : Array Value) (E : TypeId) (fr : Nat × Nat) (r : Row) (he : 0 < r.e) (hl : r.es.length * r.e ≤ c.size) (hfr : r.ro = false → ∀ i, i ≤ c.size → ¬ (fr.1 ≤ i ∧ i < fr.2))
    (hc : ∀ (i : Nat) cs, r.es[i]? = some cs → cs.length = r.e ∧ allCells cs = true ∧ VRs (bs w) cs ((c.toList.drop (i * r.e)).take r.e)) :
    Sat (pushB w (.cells c E fr)) (H.set ⟨w.heap.size, 0, none⟩ r) := by
  refine ⟨fun b r' hb => ?_, fun b r1 b' r2 hb hb' h1 h2 h3 h4 => ?_, ghost_set h.ghost⟩
  · rw [Hp.get_set] at hb
    split at hb
    · rename_i e; subst e; injection hb with hb; subst hb
      refine .inl ⟨rfl, he, c, E, fr, by rw [pushB_get]; simp, by simpa using hl, hfr, fun i cs hi => ?_⟩
      obtain ⟨x, y, z⟩ := hc i cs hi
      exact ⟨x, y, by simpa using z.mono (bs_push _ _)⟩
    · refine (h.rows b r' hb).congr (fun hs => ?_) (bs_push _ _)
      rcases h.rows b r' hb with hr | hr
      · rw [pushB_get, if_neg (by have := hr.lt; omega)]
      · exact absurd hs hr.1
  · have lt : ∀ {x r}, H.get x = some r → x.spot = none → x.block < w.heap.size := fun hx hs => by
      rcases h.rows _ _ hx with hr | hr
      · exact hr.lt
      · exact absurd hs hr.1
    rw [Hp.get_set] at hb hb'
    split at hb <;> split at hb'
    · rename_i e1 e2; rw [e1, e2]
    · rename_i e1 e2; have := lt hb' h3; subst e1; simp at h4; omega
    · rename_i e1 e2; have := lt hb h2; subst e2; simp at h4; omega
    · exact h.excl b r1 b' r2 hb hb' h1 h2 h3 h4

theorem Fr.push {w H} (o : Obj) (r : Row) : Fr w H (pushB w o) (H.set ⟨w.heap.size, 0, none⟩ r) where
  size := by simp [pushB]
  keep b hb _ := by rw [pushB_get, if_neg (by omega)]
  owns b hb := by
    obtain ⟨a, r', h1, h2, h3, h4⟩ := hb
    rw [Hp.get_set] at h1
    split at h1
    · rename_i e; subst e; right; simp at h4; omega
    · exact .inl ⟨a, r', h1, h2, h3, h4⟩
  blks a r' h1 h3 := by
    rw [Hp.get_set] at h1
    split at h1
    · rename_i e; subst e; right; right; simp
    · exact .inl ⟨r', h1⟩
  bl := bs_push _ _
  os := rfl
  out := rfl
  tape := rfl

theorem fresh_block {w H} (h : Sat w H) : H.get ⟨w.heap.size, 0, none⟩ = none := by
  cases hg : H.get ⟨w.heap.size, 0, none⟩ with
  | none => rfl
  | some r =>
    rcases h.rows _ _ hg with hr | hr
    · have := hr.lt; simp at this
    · exact absurd rfl hr.1

/-- another value for a row that may be written -/
theorem Sat.put {w H} (h : Sat w H) {a : Addr} {r : Row} (ha : H.get a = some r) (hro : r.ro = false) {c c' : Array Value} {E fr} (hb : w.heap[a.block]? = some (.cells c E fr)) (hs : c'.size = c.size) (es : List (List AV))
    (hreal : a.spot = none) (hl : a.off + es.length * r.e ≤ c.size)
    (hc : ∀ (i : Nat) cs, es[i]? = some cs → cs.length = r.e ∧ allCells cs = true ∧ VRs (bs w) cs ((c'.toList.drop (a.off + i * r.e)).take r.e)) :
    Sat (putB w a.block (.cells c' E fr)) (H.set a { r with es := es }) := by
  have hlt := lt_of_get hb
  have hbs := bs_put (E' := E) (fr' := fr) hb hs
  refine ⟨fun b r' hr' => ?_, fun b r1 b' r2 hb1 hb2 h1 h2 h3 h4 => ?_, ghost_set h.ghost⟩
  · rw [Hp.get_set] at hr'
    split at hr'
    · rename_i e; subst e; injection hr' with hr'; subst hr'
      rcases h.rows _ _ ha with ⟨h1, h2, c0, E0, fr0, h3, h4, h5, h6⟩ | hr
      · rw [hb] at h3; injection h3 with h3; injection h3 with e1 e2 e3; subst e1; subst e2; subst e3
        refine .inl ⟨h1, h2, c', E, fr, by rw [putB_get _ _ _ _ hlt]; simp, by rw [hs]; exact hl, fun hx i hi => h5 hx i (by omega), fun i cs hi => ?_⟩
        obtain ⟨x, y, z⟩ := hc i cs hi
        exact ⟨x, y, by rw [hbs]; exact z⟩
      · exact absurd hreal hr.1
    · rename_i hne
      refine (h.rows b r' hr').congr (fun hs' => ?_) (by rw [hbs]; exact BLe.refl _)
      rw [putB_get _ _ _ _ hlt, if_neg (fun e => hne ((h.excl a r b r' ha hr' hro hreal hs' e.symm).symm))]
  · rw [Hp.get_set] at hb1 hb2
    have key : ∀ x rx, H.get x = some rx → x.spot = none → a.block = x.block → a = x := fun x rx hx hs hxb => h.excl a r x rx ha hx hro hreal hs hxb
    split at hb1 <;> split at hb2
    · rename_i e1 e2; rw [e1, e2]
    · rename_i e1 e2; subst e1; exact key _ _ hb2 h3 h4
    · rename_i e1 e2; subst e2; exact (key _ _ hb1 h2 h4.symm).symm
    · exact h.excl b r1 b' r2 hb1 hb2 h1 h2 h3 h4

theorem Fr.put {w H} {a : Addr} {r r' : Row} (ha : H.get a = some r) (hro : r.ro = false) (hreal : a.spot = none) {c c' : Array Value} {E fr} (hb : w.heap[a.block]? = some (.cells c E fr)) (hs : c'.size = c.size) :
    Fr w H (putB w a.block (.cells c' E fr)) (H.set a r') where
  size := by simp [putB]
  keep b hlt ho := by
    rw [putB_get _ _ _ _ (lt_of_get hb), if_neg (fun e => ho (by subst e; exact ⟨a, r, ha, hro, hreal, rfl⟩))]
  owns b hb' := by
    obtain ⟨x, rx, h1, h2, h3, h4⟩ := hb'
    rw [Hp.get_set] at h1
    split at h1
    · rename_i e; subst e; left; exact ⟨x, r, ha, hro, hreal, h4⟩
    · exact .inl ⟨x, rx, h1, h2, h3, h4⟩
  blks x rx h1 h3 := by
    rw [Hp.get_set] at h1
    split at h1
    · rename_i e; subst e; exact .inl ⟨r, ha⟩
    · exact .inl ⟨rx, h1⟩
  bl := by rw [bs_put hb hs]; exact BLe.refl _
  os := rfl
  out := rfl
  tape := rfl

/-! ### loads and stores -/

section
variable {P : Program} {T : Tab}

theorem cell_at {w : World} {b o : Nat} {c : Array Value} {E fr} (h : w.heap[b]? = some (.cells c E fr)) : w.cell? ⟨b, o, none⟩ = c[o]? := by
  simp [World.cell?, h]

theorem addr_mk {a : Addr} (h : a.spot = none) (n : Nat) : a.add n = ⟨a.block, a.off + n, none⟩ := by
  obtain ⟨b, o, sp⟩ := a
  simp only at h; subst h
  unfold Addr.add
  by_cases hn : n = 0 <;> simp [hn]

theorem run_loadCells_at {w : World} {b o n : Nat} {c : Array Value} {E fr} (h : w.heap[b]? = some (.cells c E fr)) (hl : o + n ≤ c.size) :
    (loadCells ⟨b, o, none⟩ n).run P w = .ok ((c.toList.drop o).take n).toArray w := by
  have hn : ((c.toList.drop o).take n).length = n := by simp; omega
  have := run_loadCells_list (P := P) w ⟨b, o, none⟩ ((c.toList.drop o).take n) (fun j v hj => by
    have e := addr_mk (a := ⟨b, o, none⟩) rfl j
    rw [e, cell_at h]
    have hlt : j < n := by
      rcases Nat.lt_or_ge j n with h' | h'
      · exact h'
      · rw [List.getElem?_eq_none (by omega)] at hj; cases hj
    rw [List.getElem?_take_of_lt hlt, List.getElem?_drop] at hj
    simpa using hj)
  rw [hn] at this
  exact this

/-- the load of a variable's part -/
theorem run_load' (hT : TabOk P T) {t : Nat} {cs : List AV} {f : Nat} {K : AV → Prop} {w : World} {b o : Nat} {c : Array Value} {E fr} (h : partV (T.at t) cs f K) (hcs : allCells cs = true)
    (hb : w.heap[b]? = some (.cells c E fr)) (hv : VRs (bs w) cs ((c.toList.drop o).take cs.length)) :
    ∃ v x, K v ∧ v.flat = true ∧ VR (bs w) v x ∧ ∀ w' : World, w'.heap[b]? = w.heap[b]? → (loadVar t ⟨b, o + f, none⟩).run P w' = .ok x w' := by
  obtain ⟨hok, v, hK, hfl, hp⟩ := partV_elim (B := bs w) h
  obtain ⟨x, hx, hc⟩ := hp _ hv
  have hlen := hv.length
  refine ⟨v, x, hK, hfl hcs, hx, fun w' hb' => ?_⟩
  rw [hb] at hb'
  have ha := (hT.get hok).isAgg w'
  have hs := (hT.get hok).sizeOf w'
  unfold loadVar
  rcases hc with ⟨hd, hl, rfl⟩ | ⟨hd, hc⟩
  · rw [hd] at ha
    rw [List.length_take] at hl
    simp only [List.length_drop] at hl
    have hlen' : o + cs.length ≤ c.toList.length ∨ cs.length = 0 := by
      rw [List.length_take, List.length_drop] at hlen; omega
    have hle : o + f + (T.at t).size ≤ c.size ∨ (T.at t).size = 0 := by
      have : c.toList.length = c.size := by simp
      rw [List.length_take, List.length_drop] at hlen; omega
    have e : (((c.toList.drop o).take cs.length).drop f).take (T.at t).size = (c.toList.drop (o + f)).take (T.at t).size := by
      rw [List.drop_take, List.take_take, List.drop_drop, Nat.min_eq_left (by omega)]
    rcases hle with hle | hz
    · simp only [Sem.run_bind, ha, hs, Result.andThen_ok, if_true, run_loadCells_at hb' hle, Sem.run_pure, e]
    · have : (loadCells (⟨b, o + f, none⟩ : Addr) 0).run P w' = .ok #[] w' := by simp [loadCells, loadCellsFrom]
      simp only [Sem.run_bind, ha, hs, Result.andThen_ok, if_true, hz, this, Sem.run_pure, List.take_zero]
  · rw [hd] at ha
    have hlt : f < cs.length := by
      rcases Nat.lt_or_ge f cs.length with h' | h'
      · exact h'
      · rw [List.getElem?_eq_none (by rw [← hlen]; exact h')] at hc; cases hc
    rw [List.getElem?_take_of_lt hlt, List.getElem?_drop] at hc
    have hcell : w'.cell? ⟨b, o + f, none⟩ = some x := by rw [cell_at hb']; simpa using hc
    simp [ha, hcell]

theorem run_load (hT : TabOk P T) {t : Nat} {cs : List AV} {f : Nat} {K : AV → Prop} {w : World} {b o : Nat} {c : Array Value} {E fr} (h : partV (T.at t) cs f K) (hcs : allCells cs = true)
    (hb : w.heap[b]? = some (.cells c E fr)) (hv : VRs (bs w) cs ((c.toList.drop o).take cs.length)) :
    ∃ v x, K v ∧ v.flat = true ∧ VR (bs w) v x ∧ (loadVar t ⟨b, o + f, none⟩).run P w = .ok x w := by
  obtain ⟨v, x, h1, h2, h3, h4⟩ := run_load' hT h hcs hb hv
  exact ⟨v, x, h1, h2, h3, h4 w rfl⟩

theorem putB_self {w : World} {g : Nat} {o : Obj} (h : w.heap[g]? = some o) : putB w g o = w := by
  have : w.heap.setIfInBounds g o = w.heap := by
    apply Array.ext_getElem?
    intro j
    rw [Array.getElem?_setIfInBounds]
    split
    · rename_i e; subst e; rw [h]; simp [lt_of_get h]
    · rfl
  unfold putB; rw [this]

/-- the world after cells were written -/
theorem run_storeCells (g o E : Nat) (fz : Nat × Nat) : ∀ (vs : List Value) (i : Nat) (cur : Array Value) (w : World), w.heap[g]? = some (.cells cur E fz) → (∀ j, j < cur.size → ¬ (fz.1 ≤ j ∧ j < fz.2)) → o + i + vs.length ≤ cur.size → (∀ v ∈ vs, v.oneCell' = true) →
    (storeCells ⟨g, o, none⟩ vs i).run P w = .ok () (putB w g (.cells (cur.toList.take (o + i) ++ vs ++ cur.toList.drop (o + i + vs.length)).toArray E fz))
  | [], i, cur, w, hg, _, _, _ => by
    simp only [storeCells, List.append_nil, List.length_nil, Nat.add_zero, List.take_append_drop, Array.toArray_toList, Sem.run_pure]
    rw [putB_self hg]
  | v :: rest, i, cur, w, hg, hfz, hl, h1 => by
    have hi : o + i < cur.size := by simp at hl; omega
    have hcell : w.cell? ⟨g, o + i, none⟩ = some cur[o + i] := by rw [cell_at hg]; simp [hi]
    have hfro : w.frozen? ⟨g, o + i, none⟩ = false := by
      obtain ⟨lo, hi'⟩ := fz
      have := hfz _ hi
      simp only [World.frozen?, hg, Bool.and_eq_false_iff, decide_eq_false_iff_not]
      simp only at this
      omega
    have hset : w.setCell ⟨g, o + i, none⟩ v = putB w g (.cells (cur.setIfInBounds (o + i) v) E fz) := by
      unfold World.setCell putB
      congr 1
      apply Array.ext_getElem?
      intro j
      rw [Array.getElem?_modify, Array.getElem?_setIfInBounds]
      split
      · rename_i e; subst e; rw [hg]; simp [lt_of_get hg]
      · rfl
    have hlt := lt_of_get hg
    have ih := run_storeCells g o E fz rest (i + 1) (cur.setIfInBounds (o + i) v) (putB w g (.cells (cur.setIfInBounds (o + i) v) E fz)) (by rw [putB_get _ _ _ _ hlt]; simp) (by simpa using hfz) (by simp at hl ⊢; omega) (fun u hu => h1 u (List.mem_cons_of_mem _ hu))
    simp only [storeCells, Sem.run_bind, addr_mk (a := ⟨g, o, none⟩) rfl i]
    rw [run_store P w _ v .plain (h1 v List.mem_cons_self), hcell]
    simp only [hfro, Bool.false_eq_true, if_false, Result.andThen_ok, hset]
    rw [ih]
    congr 1
    unfold putB
    congr 1
    simp only [Array.setIfInBounds_setIfInBounds]
    congr 3
    have hlt' : o + i < cur.toList.length := by simpa using hi
    rw [Array.toList_setIfInBounds]
    have e2 : (cur.toList.set (o + i) v).take (o + (i + 1)) = cur.toList.take (o + i) ++ [v] := by
      rw [List.take_set, show o + (i + 1) = (o + i) + 1 from by omega, List.take_succ_eq_append_getElem hlt', List.set_append_right _ _ (by simp; omega)]
      have h0 : o + i - min (o + i) cur.size = 0 := by omega
      simp [h0]
    have e3 : (cur.toList.set (o + i) v).drop (o + (i + 1) + rest.length) = cur.toList.drop (o + i + (rest.length + 1)) := by
      rw [List.drop_set_of_lt (by omega)]
      congr 1; omega
    rw [e2, e3]
    simp

end
end Go.Proofs.Ytdbedlomiedncaa.Vc
