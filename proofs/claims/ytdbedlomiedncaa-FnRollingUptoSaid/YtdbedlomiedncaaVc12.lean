/- A region whose order is open does what its condition says. -/
import Derived.Test.YtdbedlomiedncaaVc11
namespace Go.Proofs.Ytdbedlomiedncaa.Vc
open Go

section
variable {P : Program} {T : Tab} {w0 : Base} {H0 : Hp} {δ : Nat → Nat} {s : St} {a : Act} {w : World} {esc : List Nat}

/-- what a load reads, and where -/
theorem load_place (hT : TabOk P T) (hr : RelD w0 H0 δ s a w) {o : Oper} {K : Place → AV → Prop} (h : placeOf s o fun p => loadOp T s o (K p)) :
    ∃ p b v x, K p v ∧ ER δ (bs w) v x ∧ b < w.heap.size ∧ (∀ w' : World, w'.heap[b]? = w.heap[b]? → (execOp a.eval o).run P w' = .ok (.value x) w') ∧
      ((∃ ad, p = .heap ad ∧ ad.spot = none ∧ ad.block = b ∧ ∃ y, s.hp.get ad = some y) ∨ (∃ d, p = .loc d ∧ (∃ cs, locGet s.loc d = some cs) ∧ δ d = b)) := by
  obtain ⟨dst, op, type, pos, after, guard⟩ := o
  unfold placeOf at h
  split at h
  · rename_i t y heq
    simp only at heq
    subst heq
    have hx := hr.ev y
    split at h
    · rename_i b e i f ev
      rw [ev] at hx; simp only [ER, VR] at hx
      have h' := parts_elim (K := fun L H => _) h
      simp only [ev] at h'
      obtain ⟨r, cs, hg, rfl, hi, h'⟩ := Ld_elim h'
      rcases hr.sat.rows _ _ hg with hreal | ⟨hn, _⟩
      · have hlt := hreal.lt
        obtain ⟨hsp, he, c, E, fr, hb, hl, _, hc⟩ := hreal
        obtain ⟨h1, h2, h3⟩ := hc i cs hi
        rw [← h1] at h3
        obtain ⟨v, x, hK, hfl, hv, hrun⟩ := run_load' hT (o := b.off + i * r.e) h' h2 hb (by rw [h1] at *; exact h3)
        refine ⟨_, b.block, v, x, hK, .of_VR hv, hlt, fun w' hw' => ?_, .inl ⟨b, rfl, hsp, rfl, _, hg⟩⟩
        have := hrun w' hw'
        rw [Nat.add_assoc, ← addr_mk hsp] at this
        simp [execOp, Instr.loadAt, hx.2, Instr.sureAddr, this]
      · exact absurd hx.1 hn
    · rename_i d f ev
      rw [ev] at hx; simp only [ER] at hx
      have h' := parts_elim (K := fun L H => _) h
      simp only [ev] at h'
      split at h'
      · rename_i cs hl
        obtain ⟨hlo, _, hnb⟩ := hr.loc d cs hl
        have hlt := hlo.lt
        obtain ⟨c, E, fr, hb, hv, hc, _⟩ := hlo
        have e : (c.toList.drop 0).take cs.length = c.toList := by rw [List.drop_zero, hv.length, List.take_length]
        obtain ⟨v, x, h1, h2, h3, h4⟩ := run_load' hT (o := 0) h' hc hb (by rw [e]; exact hv)
        refine ⟨_, δ d, v, x, h1, .of_VR h3, hlt, fun w' hw' => ?_, .inr ⟨d, rfl, ⟨cs, hl⟩, rfl⟩⟩
        have := h4 w' hw'
        rw [Nat.zero_add] at this
        simp [execOp, Instr.loadAt, hx, Instr.sureAddr, this]
      · exact h'.elim
    · exact h.elim
  · exact h.elim

/-! ### rows laid by -/


def Laid (H0 H h : Hp) (l : List (Addr × Row)) (ps : List (Nat × Place)) : Prop :=
  (∀ b x, (b, x) ∈ l → H0.get b = some x ∧ h.get b = some (frz x)) ∧ (∀ b, (∀ x, (b, x) ∉ l) → h.get b = H.get b) ∧ (∀ i b, (i, Place.heap b) ∈ ps → ∃ x, (b, x) ∈ l)

theorem keepH_elim {H0 : Hp} : ∀ {ps : List (Nat × Place)} {H : Hp} {K : Hp → List (Addr × Row) → Prop}, keepH H0 ps H K → ∃ h l, K h l ∧ Laid H0 H h l ps
  | [], H, K, h => ⟨H, [], h, fun _ _ h => absurd h (by simp), fun _ _ => rfl, fun _ _ h => absurd h (by simp)⟩
  | (i, .none) :: r, H, K, h => by
    obtain ⟨h', l, hK, h1, h2, h3⟩ := keepH_elim (ps := r) (H := H) (K := K) h
    exact ⟨h', l, hK, h1, h2, fun j b hb => h3 j b (by simpa using hb)⟩
  | (i, .loc d) :: r, H, K, h => by
    obtain ⟨h', l, hK, h1, h2, h3⟩ := keepH_elim (ps := r) (H := H) (K := K) h
    exact ⟨h', l, hK, h1, h2, fun j b hb => h3 j b (by simpa using hb)⟩
  | (i, .old) :: r, H, K, h => by
    obtain ⟨h', l, hK, h1, h2, h3⟩ := keepH_elim (ps := r) (H := H) (K := K) h
    exact ⟨h', l, hK, h1, h2, fun j b hb => h3 j b (by simpa using hb)⟩
  | (i, .heap b) :: r, H, K, h => by
    obtain ⟨x, hx, h⟩ := Has_elim h
    obtain ⟨h', l, hK, h1, h2, h3⟩ := keepH_elim (ps := r) h
    refine ⟨h', _, hK, fun c y hy => ?_, fun c hc => ?_, fun j c hc => ?_⟩
    · rcases List.mem_cons.1 hy with e | hy
      · injection e with e1 e2; subst e1; subst e2
        refine ⟨hx, ?_⟩
        by_cases hl : ∃ z, (c, z) ∈ l
        · obtain ⟨z, hz⟩ := hl
          obtain ⟨p, q⟩ := h1 c z hz
          rw [hx] at p; injection p with p; rw [p]; exact q
        · rw [h2 c (fun z hz => hl ⟨z, hz⟩), Hp.get_set, if_pos rfl]
      · exact h1 c y hy
    · rw [h2 c (fun z hz => hc z (List.mem_cons_of_mem _ hz)), Hp.get_set, if_neg]
      intro e; subst e; exact hc x List.mem_cons_self
    · rcases List.mem_cons.1 hc with e | hc
      · injection e with e1 e2; injection e2 with e2; subst e2; exact ⟨x, List.mem_cons_self⟩
      · obtain ⟨z, hz⟩ := h3 j c hc; exact ⟨z, List.mem_cons_of_mem _ hz⟩

theorem thaw_elim : ∀ {l : List (Addr × Row)} {h : Hp} {K : Hp → Prop}, thaw l h K → ∃ h', K h' ∧ (∀ b, (∃ x, (b, x) ∈ l) → ∃ x, (b, x) ∈ l ∧ h'.get b = some x ∧ ∃ y, h.get b = some y) ∧ (∀ b, (∀ x, (b, x) ∉ l) → h'.get b = h.get b)
  | [], h, K, hh => ⟨h, hh, fun _ ⟨_, h⟩ => absurd h (by simp), fun _ _ => rfl⟩
  | (c, z) :: r, h, K, hh => by
    obtain ⟨y, hy, hh⟩ := Has_elim hh
    obtain ⟨h', hK, h1, h2⟩ := thaw_elim (l := r) hh
    refine ⟨h', hK, fun b hb => ?_, fun b hb => ?_⟩
    · by_cases hl : ∃ x, (b, x) ∈ r
      · obtain ⟨x, hx, hx', q, hq⟩ := h1 b hl
        refine ⟨x, List.mem_cons_of_mem _ hx, hx', ?_⟩
        rw [Hp.get_set] at hq
        by_cases e : b = c
        · subst e; exact ⟨y, hy⟩
        · rw [if_neg e] at hq; exact ⟨q, hq⟩
      · obtain ⟨x, hx⟩ := hb
        rcases List.mem_cons.1 hx with e | hx
        · injection e with e1 e2; subst e1; subst e2
          exact ⟨x, List.mem_cons_self, by rw [h2 b (fun q hq => hl ⟨q, hq⟩), Hp.get_set, if_pos rfl], y, hy⟩
        · exact absurd ⟨x, hx⟩ hl
    · rw [h2 b (fun x hx => hb x (List.mem_cons_of_mem _ hx)), Hp.get_set, if_neg]
      intro e; subst e; exact hb z List.mem_cons_self

section
variable {H h : Hp} {l : List (Addr × Row)} {ps : List (Nat × Place)}

theorem Laid.dom (hl : Laid H H h l ps) (b : Addr) : (∃ x, h.get b = some x) ↔ ∃ x, H.get b = some x := by
  by_cases hb : ∃ x, (b, x) ∈ l
  · obtain ⟨x, hx⟩ := hb
    obtain ⟨h1, h2⟩ := hl.1 b x hx
    exact ⟨fun _ => ⟨_, h1⟩, fun _ => ⟨_, h2⟩⟩
  · rw [hl.2.1 b (fun x hx => hb ⟨x, hx⟩)]

theorem Laid.free (hl : Laid H H h l ps) {b r} (hb : h.get b = some r) (hr : r.ro = false) : H.get b = some r ∧ ∀ x, (b, x) ∉ l := by
  have : ∀ x, (b, x) ∉ l := fun x hx => by
    have := (hl.1 b x hx).2
    rw [hb] at this; injection this with this; subst this; simp [frz] at hr
  rw [hl.2.1 b this] at hb
  exact ⟨hb, this⟩

theorem Laid.own (hl : Laid H H h l ps) {b : Nat} (hb : own h b) : own H b := by
  obtain ⟨c, r, h1, h2, h3, h4⟩ := hb
  exact ⟨c, r, (hl.free h1 h2).1, h2, h3, h4⟩

theorem Laid.not_own (hl : Laid H H h l ps) (hs : Sat w H) {b x} (hb : (b, x) ∈ l) (hsp : b.spot = none) : ¬ Vc.own h b.block := by
  rintro ⟨c, r, h1, h2, h3, h4⟩
  obtain ⟨h5, h6⟩ := hl.free h1 h2
  have := hs.excl c r b x h5 (hl.1 b x hb).1 h2 h3 hsp h4
  subst this
  exact h6 x hb

theorem frz_ok {b x} (h : RowOk w b x) : RowOk w b (frz x) := by
  rcases h with ⟨h1, h2, c, E, fr, h3, h4, h5, h6⟩ | h
  · exact .inl ⟨h1, h2, c, E, fr, h3, h4, fun h => by simp [frz] at h, h6⟩
  · exact .inr h

theorem Laid.sat (hl : Laid H H h l ps) (hs : Sat w H) : Sat w h := by
  refine ⟨fun b r hb => ?_, fun b r c r' hb hc hr hb' hc' he => ?_, ?_⟩
  · by_cases hx : ∃ x, (b, x) ∈ l
    · obtain ⟨x, hx⟩ := hx
      obtain ⟨h1, h2⟩ := hl.1 b x hx
      rw [hb] at h2; injection h2 with h2; subst h2
      exact frz_ok (hs.rows b x h1)
    · rw [hl.2.1 b (fun x h => hx ⟨x, h⟩)] at hb; exact hs.rows b r hb
  · obtain ⟨r0, h0⟩ := (hl.dom c).1 ⟨_, hc⟩
    exact hs.excl b r c r0 (hl.free hb hr).1 h0 hr hb' hc' he
  · obtain ⟨N, hN⟩ := hs.ghost
    refine ⟨N, fun k hk => ?_⟩
    cases hg : h.get ⟨0, 0, some k⟩ with
    | none => rfl
    | some r => obtain ⟨x, hx⟩ := (hl.dom _).1 ⟨r, hg⟩; rw [hN k hk] at hx; cases hx

theorem Laid.fr (hl : Laid H H h l ps) : Fr w H w h where
  size := Nat.le_refl _
  keep _ _ _ := rfl
  owns b hb := .inl (hl.own hb)
  blks b r hb _ := .inl ((hl.dom b).1 ⟨r, hb⟩)
  bl := BLe.refl _
  os := rfl
  out := rfl
  tape := rfl

variable {w' : World} {h2 h3 : Hp}

structure Thawed (l : List (Addr × Row)) (h2 h3 : Hp) : Prop where
  on : ∀ b, (∃ x, (b, x) ∈ l) → ∃ x, (b, x) ∈ l ∧ h3.get b = some x ∧ ∃ y, h2.get b = some y
  off : ∀ b, (∀ x, (b, x) ∉ l) → h3.get b = h2.get b

theorem Thawed.dom (ht : Thawed l h2 h3) {b r} (hb : h3.get b = some r) : ∃ y, h2.get b = some y := by
  by_cases hx : ∃ x, (b, x) ∈ l
  · obtain ⟨_, _, _, h⟩ := ht.on b hx; exact h
  · exact ⟨r, by rw [← ht.off b (fun x h => hx ⟨x, h⟩)]; exact hb⟩

theorem Laid.thaw_fr (hl : Laid H H h l ps) (ht : Thawed l h2 h3) (hf : Fr w h w' h2) : Fr w H w' h3 where
  size := hf.size
  keep b hb ho := hf.keep b hb fun h => ho (hl.own h)
  owns b hb := by
    obtain ⟨c, r, h1, h4, h5, h6⟩ := hb
    by_cases hx : ∃ x, (c, x) ∈ l
    · obtain ⟨x, hx, hx', _⟩ := ht.on c hx
      rw [h1] at hx'; injection hx' with hx'; subst hx'
      exact .inl ⟨c, r, (hl.1 c r hx).1, h4, h5, h6⟩
    · rw [ht.off c (fun x h => hx ⟨x, h⟩)] at h1
      rcases hf.owns b ⟨c, r, h1, h4, h5, h6⟩ with h | h
      · exact .inl (hl.own h)
      · exact .inr h
  blks b r hb hs := by
    obtain ⟨y, hy⟩ := ht.dom hb
    rcases hf.blks b y hy hs with h | h | h
    · exact .inl ((hl.dom b).1 h)
    · exact .inr (.inl (hl.own h))
    · exact .inr (.inr h)
  bl := hf.bl
  os := hf.os
  out := hf.out
  tape := hf.tape

theorem Laid.kept (hl : Laid H H h l ps) (hs : Sat w H) (hf : Fr w h w' h2) {b x} (hb : (b, x) ∈ l) (hsp : b.spot = none) : b.block < w.heap.size ∧ w'.heap[b.block]? = w.heap[b.block]? := by
  have hlt : b.block < w.heap.size := by
    rcases hs.rows b x (hl.1 b x hb).1 with h | h
    · exact h.lt
    · exact absurd hsp h.1
  exact ⟨hlt, hf.keep _ hlt (hl.not_own hs hb hsp)⟩

theorem Laid.thaw_sat (hl : Laid H H h l ps) (ht : Thawed l h2 h3) (hf : Fr w h w' h2) (hs : Sat w H) (hs' : Sat w' h2) : Sat w' h3 := by
  have hin : ∀ {b r}, (∃ x, (b, x) ∈ l) → h3.get b = some r → (b, r) ∈ l := fun {b r} hx hb => by
    obtain ⟨x, hx, hx', _⟩ := ht.on b hx
    rw [hb] at hx'; injection hx' with hx'; subst hx'; exact hx
  refine ⟨fun b r hb => ?_, fun b r c r' hb hc hr hb' hc' he => ?_, ?_⟩
  · by_cases hx : ∃ x, (b, x) ∈ l
    · have hx := hin hx hb
      exact (hs.rows b r (hl.1 b r hx).1).congr (fun hsp => (hl.kept hs hf hx hsp).2) hf.bl
    · rw [ht.off b (fun x h => hx ⟨x, h⟩)] at hb; exact hs'.rows b r hb
  · by_cases hx : ∃ x, (b, x) ∈ l <;> by_cases hy : ∃ x, (c, x) ∈ l
    · exact hs.excl b r c r' (hl.1 _ _ (hin hx hb)).1 (hl.1 _ _ (hin hy hc)).1 hr hb' hc' he
    · have hx := hin hx hb
      rw [ht.off c (fun x h => hy ⟨x, h⟩)] at hc
      rcases hf.blks c r' hc hc' with h | h | h
      · obtain ⟨r0, h0⟩ := (hl.dom c).1 h
        exact hs.excl b r c r0 (hl.1 b r hx).1 h0 hr hb' hc' he
      · rw [← he] at h; exact absurd h (hl.not_own hs hx hb')
      · have := (hl.kept hs hf hx hb').1; omega
    · have hy := hin hy hc
      rw [ht.off b (fun x h => hx ⟨x, h⟩)] at hb
      rcases hf.owns c.block ⟨b, r, hb, hr, hb', he⟩ with h | h
      · exact absurd h (hl.not_own hs hy hc')
      · have := (hl.kept hs hf hy hc').1; omega
    · rw [ht.off b (fun x h => hx ⟨x, h⟩)] at hb
      rw [ht.off c (fun x h => hy ⟨x, h⟩)] at hc
      exact hs'.excl b r c r' hb hc hr hb' hc' he
  · obtain ⟨N, hN⟩ := hs'.ghost
    refine ⟨N, fun k hk => ?_⟩
    cases hg : h3.get ⟨0, 0, some k⟩ with
    | none => rfl
    | some r => obtain ⟨x, hx⟩ := ht.dom hg; rw [hN k hk] at hx; cases hx

end

/-! ### a mutator beside reads -/

def PlaceOk (δ : Nat → Nat) (p : Place) (r : World → Prop) (s : St) (w : World) : Prop := match p with
  | .none => ∀ w', r w'
  | .heap a => a.spot = none ∧ a.block < w.heap.size ∧ (∀ d cs, locGet s.loc d = some cs → δ d ≠ a.block) ∧ ∀ w' : World, w'.heap[a.block]? = w.heap[a.block]? → r w'
  | .loc d => (∃ cs, locGet s.loc d = some cs) ∧ ∀ w' : World, w'.heap[δ d]? = w.heap[δ d]? → r w'
  | .old => ∃ b, b < w.heap.size ∧ ¬ own s.hp b ∧ ∀ w' : World, w'.heap[b]? = w.heap[b]? → r w'

theorem PlaceOk.env {p r s s' w} (h : PlaceOk δ p r s w) (hs : s'.hp = s.hp) (hl : s'.loc = s.loc) : PlaceOk δ p r s' w := by
  cases p <;> simp only [PlaceOk, hs, hl] at * <;> exact h

theorem ageP_ok {p r} (hr : RelD w0 H0 δ s a w) (h : PlaceOk δ p r s w) : PlaceOk δ (ageP p) r s w := by
  cases p with
  | loc d =>
    obtain ⟨⟨cs, h1⟩, h2⟩ := h
    obtain ⟨q1, _, q3⟩ := hr.loc d cs h1
    exact ⟨δ d, q1.lt, fun ⟨c, y, z1, _, z2, z3⟩ => q3 ⟨c, y, z1, z2, z3⟩, h2⟩
  | none => exact h
  | heap _ => exact h
  | old => exact h

/-- a store into a variable of the frame -/
theorem storeL_sound (hT : TabOk P T) (hb0 : w0.n = w0.w.heap.size) (hr : RelD w0 H0 δ s a w) {o : Oper} {d : Nat} (hst : stl s o = some d) {K : AV → St → Prop} (h : mutOp (AC P) T esc s o K) :
    OpRuns P o a w fun x w' => ∃ v s', K v s' ∧ ER δ (bs w') v x ∧ RelD w0 H0 δ s' a w' ∧ s'.hp = s.hp ∧ (∀ t cs, locGet s.loc t = some cs → ∃ cs', locGet s'.loc t = some cs') ∧ (∀ t cs, locGet s'.loc t = some cs → ∃ cs', locGet s.loc t = some cs') ∧ (∃ cs, locGet s.loc d = some cs) ∧ w'.heap.size = w.heap.size ∧ ∀ b, b ≠ δ d → w'.heap[b]? = w.heap[b]? := by
  obtain ⟨dst, op, type, pos, after, guard⟩ := o
  unfold stl at hst
  split at hst
  · rename_i t x y heq
    simp only at heq
    subst heq
    split at hst
    · rename_i d' f ev
      injection hst with hst
      subst hst
      have h' := parts_elim (K := fun L H => _) h
      clear h
      simp only at h'
      obtain ⟨v, h', hv, _⟩ := force_elim h'
      have hy := hv _ _ _ (hr.ev y)
      obtain ⟨hlen, h'⟩ := lenIs_elim h'
      obtain ⟨hk, h'⟩ := ifB_elim h'
      simp only [Bool.and_eq_true] at hk
      have hyv := er_cells hy hk.2
      have hyc := hyv.cells hk.2
      have hx := hr.ev x
      rw [ev] at hx h'; simp only [ER] at hx h'
      split at h'
      · rename_i cs hl
        obtain ⟨hlo, hsz0, hnb⟩ := hr.loc d' cs hl
        obtain ⟨_, hfl, h'⟩ := patchK_elim h'
        obtain ⟨l', hl', h'⟩ := locSet_elim h'
        have hK := setL_elim h'
        obtain ⟨c, E, fr, hb, hcv, hcc, hfr⟩ := hlo
        have hcl0 : cs.length = c.size := by have := hcv.length; simpa using this
        have hrun := run_store_part (P := P) (o := f) hT hk.1 hb hfr hyv hk.2 hlen (by omega)
        have hcl : (a.eval y).cells.toList.length = (T.at t).size := by rw [Array.length_toList, hyv.cellsSize hk.2, hlen]
        have hex : (execOp a.eval ⟨dst, .store t x y, type, pos, after, guard⟩).run P w = .ok .skip (putB w (δ d') (.cells (c.toList.take f ++ (a.eval y).cells.toList ++ c.toList.drop (f + (T.at t).size)).toArray E fr)) := by
          simp only [execOp, Instr.storeAt, hx, Instr.sureAddr, pure_bind, Sem.run_bind, hrun, Result.andThen_ok, Sem.run_pure]
        have hsz : (c.toList.take f ++ (a.eval y).cells.toList ++ c.toList.drop (f + (T.at t).size)).toArray.size = c.size := by
          simp [hcl]; omega
        refine .inr (.inl ⟨_, hex, _, _, hK, by simp only [ER, VR], ?_, rfl, fun t cs ht => ?_, fun t cs ht => ?_, ⟨cs, hl⟩, by simp [putB], fun b hbne => by rw [putB_get _ _ _ _ (lt_of_get hb), if_neg hbne]⟩)
        · exact hr.putL hb0 hl hl' hb hsz (((hcv.take f).append hyc).append (hcv.drop (f + (T.at t).size))) (by rw [allCells_append, allCells_append, allCells_take _ hcc, hk.2, allCells_drop _ hcc]; rfl) (fun j hj => hfr j (by rw [hsz] at hj; exact hj))
        · simp only [hl' t]
          by_cases e : t = d'
          · subst e; rw [if_pos rfl, ht]; exact ⟨_, rfl⟩
          · rw [if_neg e]; exact ⟨cs, ht⟩
        · simp only [hl' t] at ht
          by_cases e : t = d'
          · subst e; exact ⟨_, hl⟩
          · rw [if_neg e] at ht; exact ⟨cs, ht⟩
      · exact h'.elim
    · cases hst
  · cases hst

theorem apartL_at {d : Nat} : ∀ {l : List (Nat × Place)}, apartL d l = true → ∀ ip ∈ l, ip.2 ≠ .old ∧ ip.2 ≠ .loc d
  | [], _ => by simp
  | (i, p) :: r, h => by
    intro ip hip
    rcases List.mem_cons.1 hip with rfl | hip
    · cases p with
      | loc d' =>
        simp only [apartL, Bool.and_eq_true, Bool.not_eq_true'] at h
        exact ⟨by simp, fun e => by injection e with e; exact Nat.ne_of_beq_eq_false h.1 e⟩
      | old => simp [apartL] at h
      | none => exact ⟨by simp, by simp⟩
      | heap _ => exact ⟨by simp, by simp⟩
    · refine apartL_at ?_ ip hip
      cases p with
      | loc d' => simp only [apartL, Bool.and_eq_true] at h; exact h.2
      | old => simp [apartL] at h
      | none => exact h
      | heap _ => exact h

/-- what was read before a mutator stays as it was -/
theorem mutD_sound (hT : TabOk P T) (hb0 : w0.n = w0.w.heap.size) (hr : RelD w0 H0 δ s a w) {o : Oper} {ps : List (Nat × Place)} {K : AV → St → Prop} (h : mutD (AC P) T esc s o ps K) :
    OpRuns P o a w fun x w' => ∃ v s' δ', K v s' ∧ ER δ' (bs w') v x ∧ RelD w0 H0 δ' s' a w' ∧ ∀ ip ∈ ps, ∀ r, PlaceOk δ ip.2 r s w → r w' ∧ PlaceOk δ' (match stl s o with | some _ => ip.2 | none => ageP ip.2) r s' w' := by
  unfold mutD at h
  split at h
  · exact (mut_sound hT hr (fun _ _ => hb0) h).mono fun x w' ⟨v, s', δ', h1, h2, h3⟩ => ⟨v, s', δ', h1, h2, h3, fun _ h => absurd h (by simp)⟩
  · rename_i ps p ps'
    split at h
    · rename_i d hst
      obtain ⟨hap, h⟩ := ifB_elim h
      refine (storeL_sound hT hb0 hr hst h).mono fun x w' ⟨v, s', h1, h2, h3, h4, h5, h5', ⟨cd, hcd⟩, h6, h7⟩ => ⟨v, s', δ, h1, h2, h3, fun ip hip r hp => ?_⟩
      obtain ⟨n1, n2⟩ := apartL_at hap ip hip
      simp only [hst]
      obtain ⟨i, p'⟩ := ip
      cases p' with
      | none => exact ⟨hp w', hp⟩
      | heap c =>
        obtain ⟨q1, q2, q0, q3⟩ := hp
        have hk := h7 c.block (fun e => q0 d cd hcd e.symm)
        refine ⟨q3 w' hk, q1, by omega, fun d' cs' hd' => ?_, fun w'' hw => q3 w'' (by rw [hw, hk])⟩
        obtain ⟨cs'', hd''⟩ := h5' _ _ hd'
        exact q0 d' cs'' hd''
      | loc d' =>
        obtain ⟨⟨cs, q1⟩, q2⟩ := hp
        have hne : δ d' ≠ δ d := fun e => n2 (by rw [hr.inj d' d cs cd q1 hcd e])
        have hk := h7 _ hne
        exact ⟨q2 w' hk, h5 _ _ q1, fun w'' hw => q2 w'' (by rw [hw, hk])⟩
      | old => exact absurd rfl n1
    · rename_i hst
      have h := parts_elim (K := fun L H => _) h
      obtain ⟨hh, l, h, hl⟩ := keepH_elim h
      have h := setH_elim h
      have hr1 := hr.step (w' := w) (H' := hh) hl.fr (hl.sat hr.sat)
      have hr2 : RelD ⟨w, w0.n⟩ hh δ { s with hp := hh } a w := ⟨hr1.size, hr1.dfr, hr1.env, hr1.loc, hr1.inj, hr1.sat, Fr.refl _ _, Nat.le_trans hr.base hr.frm.size⟩
      refine (mut_sound hT hr2 (fun d hd => ?_) h).mono fun x w' ⟨v, s2, δ', h1, h2, h3⟩ => ?_
      · have : stl { s with hp := hh } o = stl s o := rfl
        rw [this, hst] at hd; cases hd
      · have h1 := parts_elim (K := fun L H => _) h1
        obtain ⟨h3', h1, ht1, ht2⟩ := thaw_elim h1
        have h1 := setH_elim h1
        have ht : Thawed l s2.hp h3' := ⟨ht1, ht2⟩
        have hf : Fr w s.hp w' h3' := hl.thaw_fr ht h3.frm
        refine ⟨v, _, δ', h1, h2, ⟨h3.size, h3.dfr, h3.env, fun d cs hd => ?_, h3.inj, hl.thaw_sat ht h3.frm hr.sat h3.sat, hr.frm.trans hf, hr.base⟩, fun ip hip r hp => ?_⟩
        · obtain ⟨q1, q2, q3⟩ := h3.loc d cs hd
          refine ⟨q1, q2, fun ⟨c, y, z1, z2, z3⟩ => q3 ?_⟩
          obtain ⟨y', hy'⟩ := ht.dom z1
          exact ⟨c, y', hy', z2, z3⟩
        · obtain ⟨i, p'⟩ := ip
          have hp' := ageP_ok hr hp
          simp only [hst]
          have key : ∀ q : Place, (q = p' ∨ q = .old) → (∀ d, q ≠ .loc d) → PlaceOk δ q r s w → r w' ∧ PlaceOk δ' q r { s2 with hp := h3' } w' := by
            intro q hq hnl hp
            cases q with
            | none => exact ⟨hp w', hp⟩
            | heap c =>
              have hq : p' = .heap c := by rcases hq with h | h; exact h.symm; cases h
              subst hq
              obtain ⟨q1, q2, q0, q3⟩ := hp
              obtain ⟨x', hx'⟩ := hl.2.2 i c hip
              obtain ⟨_, hk⟩ := hl.kept hr.sat h3.frm hx' q1
              obtain ⟨_, _, _, y, hy⟩ := ht1 c ⟨x', hx'⟩
              exact ⟨q3 w' hk, q1, Nat.lt_of_lt_of_le q2 hf.size, fun d cs hd e => (h3.loc d cs hd).2.2 ⟨c, y, hy, q1, e.symm⟩, fun w'' hw => q3 w'' (by rw [hw, hk])⟩
            | loc d => exact absurd rfl (hnl d)
            | old =>
              obtain ⟨b, q1, q2, q3⟩ := hp
              have hk := hf.keep b q1 q2
              refine ⟨q3 w' hk, b, Nat.lt_of_lt_of_le q1 hf.size, fun ho => ?_, fun w'' hw => q3 w'' (by rw [hw, hk])⟩
              rcases hf.owns b ho with h | h
              · exact q2 h
              · omega
          cases p' with
          | loc d => exact key .old (.inr rfl) (by simp) hp'
          | none => exact key .none (.inl rfl) (by simp) hp'
          | heap c => exact key (.heap c) (.inl rfl) (by simp) hp'
          | old => exact key .old (.inl rfl) (by simp) hp'

end
end Go.Proofs.Ytdbedlomiedncaa.Vc
