/- Each operation that makes or changes memory does what its condition says. -/
import Derived.Test.YtdbedlomiedncaaVc6
namespace Go.Proofs.Ytdbedlomiedncaa.Vc
open Go

/-- what a call comes to -/
def CallR (P : Program) (f : FuncId) (args : Array Value) (w : World) (R : Value → World → Prop) : Prop :=
  ((callFunc f args).run P w = .ok (.enter f args) w ∧ Calls P f args w fun e w' => ∃ v, e = .returned v ∧ R v w') ∨
  (∃ v w', (callFunc f args).run P w = .ok (.value v) w' ∧ R v w')

/-- the contract of a function -/
@[irreducible] def AC (P : Program) : Con := fun f args H R => ∀ w vs, Sat w H → VRs (bs w) args vs →
  CallR P f vs.toArray w fun v w' => ∃ av H', VR (bs w') av v ∧ R av H' ∧ Sat w' H' ∧ Fr w H w' H'

theorem AC.mono {P f args H R R'} (h : AC P f args H R) (hR : ∀ v h', R v h' → R' v h') : AC P f args H R' := by
  unfold AC at *
  intro w vs hs hv
  have := h w vs hs hv
  rcases this with ⟨h1, h2⟩ | ⟨v, w', h1, av, H', h2, h3, h4, h5⟩
  · exact .inl ⟨h1, Calls.mono h2 fun e w' ⟨v, he, av, H', h2, h3, h4, h5⟩ => ⟨v, he, av, H', h2, hR _ _ h3, h4, h5⟩⟩
  · exact .inr ⟨v, w', h1, av, H', h2, hR _ _ h3, h4, h5⟩

section
variable {P : Program} {T : Tab} {w0 : Base} {H0 : Hp} {δ : Nat → Nat} {s : St} {a : Act} {w : World} {esc : List Nat} {K : AV → St → Prop} {dst : Option Tmp} {type : TypeId} {pos : String} {after : Array Edge} {guard : Option (Nat × Bool)}

/-- the state behind an operation -/
def After (w0 : Base) (H0 : Hp) (a : Act) (K : AV → St → Prop) (x : Value) (w' : World) : Prop := ∃ v s' δ', K v s' ∧ ER δ' (bs w') v x ∧ RelD w0 H0 δ' s' a w'

theorem vr_ptr0 {B} (b n : Nat) : VR B (.ptr ⟨b, 0, none⟩ n 0 0) (.pointer (some ⟨b, 0, none⟩)) := by
  simp only [VR]
  exact ⟨trivial, by simp [Addr.add]⟩

theorem New_elim {H : Hp} {K : Addr → Prop} (h : New H K) : ∀ b, H.get b = none → K b := by unfold New at h; exact h

/-- a new block of the heap -/
theorem after_push (hr : RelD w0 H0 δ s a w) {c : Array Value} {E : TypeId} {fr : Nat × Nat} {r : Row} (he : 0 < r.e) (hl : r.es.length * r.e ≤ c.size) (hfr : r.ro = false → ∀ i, i ≤ c.size → ¬ (fr.1 ≤ i ∧ i < fr.2))
    (hc : ∀ (i : Nat) cs, r.es[i]? = some cs → cs.length = r.e ∧ allCells cs = true ∧ VRs (bs w) cs ((c.toList.drop (i * r.e)).take r.e)) :
    RelD w0 H0 δ { s with hp := s.hp.set ⟨w.heap.size, 0, none⟩ r } a (pushB w (.cells c E fr)) :=
  hr.step (Fr.push _ r) (hr.sat.push c E fr r he hl hfr hc)

theorem bs_new (w : World) (c : Array Value) (E : TypeId) (fr : Nat × Nat) : bs (pushB w (.cells c E fr)) w.heap.size = some c.size := by
  unfold bs; rw [pushB_get]; simp

/-- a new variable of the frame -/
theorem RelD.pushL {n env l H d cs} (hr : RelD w0 H0 δ ⟨n, env, l, H⟩ a w) (hn : locGet l d = none) (hd : noLE d env = true) {c : Array Value} {E : TypeId} (hcs : VRs (bs w) cs c.toList) (hcc : allCells cs = true) :
    RelD w0 H0 (fun x => if x = d then w.heap.size else δ x) ⟨n, env, (d, cs) :: l, H⟩ a (pushB w (.cells c E (0, 0))) := by
  have hb := bs_push w (.cells c E (0, 0))
  have hno : ∀ (x : List (Nat × AV)) t e f, noLE d x = true → alGet .undef x t = .lptr e f → e ≠ d := by
    intro x
    induction x with
    | nil => intro t e f _ h; simp [alGet] at h
    | cons y r ih =>
      intro t e f hx h
      obtain ⟨k, v⟩ := y
      simp only [alGet_cons] at h
      cases v <;> simp only [noLE] at hx <;> (split at h <;> first | exact ih t e f hx h | (cases h; done) | skip)
      · simp at h; simp at hx; intro e'; rw [← h.1] at e'; exact Nat.ne_of_beq_eq_false hx.1 e'
      · simp at hx; exact ih t e f hx.2 h
  refine ⟨hr.size, hr.dfr, fun t => ?_, fun x cs' hx => ?_, fun x y c1 c2 h1 h2 h3 => ?_, ?_, ?_, hr.base⟩
  · refine ER.congr (fun e f he => ?_) ((hr.env t).mono hb)
    rw [if_neg (hno _ t e f hd he)]
  · simp only [locGet_cons] at hx
    by_cases e : d = x
    · subst e
      simp only [if_true] at hx ⊢
      injection hx with hx; subst hx
      refine ⟨⟨c, E, (0, 0), by rw [pushB_get]; simp, hcs.mono hb, hcc, fun j _ h => by omega⟩, Nat.le_trans hr.base hr.frm.size, fun ⟨b, r, h1, h2, h3⟩ => ?_⟩
      rcases hr.sat.rows b r h1 with h4 | h4
      · have := h4.lt; omega
      · exact h4.1 h2
    · rw [if_neg e] at hx
      obtain ⟨h1, h2, h3⟩ := hr.loc x cs' hx
      have e' : (if x = d then w.heap.size else δ x) = δ x := if_neg (fun q => e q.symm)
      simp only [e']
      exact ⟨h1.congr (by rw [pushB_get, if_neg (by have := h1.lt; omega)]) hb, h2, h3⟩
  · simp only [locGet_cons] at h1 h2
    have lt : ∀ {z cz}, locGet l z = some cz → δ z < w.heap.size := fun hz => (hr.loc _ _ hz).1.lt
    by_cases e1 : d = x <;> by_cases e2 : d = y
    · rw [← e1, ← e2]
    · exfalso; subst e1; rw [if_neg e2] at h2; simp only [if_true] at h3; rw [if_neg (fun q => e2 q.symm)] at h3; have := lt h2; omega
    · exfalso; subst e2; rw [if_neg e1] at h1; simp only [if_true] at h3; rw [if_neg (fun q => e1 q.symm)] at h3; have := lt h1; omega
    · rw [if_neg e1] at h1; rw [if_neg e2] at h2
      rw [if_neg (fun q => e1 q.symm), if_neg (fun q => e2 q.symm)] at h3
      exact hr.inj x y c1 c2 h1 h2 h3
  · refine ⟨fun b r hb' => (hr.sat.rows b r hb').congr (fun hs => ?_) hb, hr.sat.excl, hr.sat.ghost⟩
    rcases hr.sat.rows b r hb' with h4 | h4
    · rw [pushB_get, if_neg (by have := h4.lt; omega)]
    · exact absurd hs h4.1
  · exact hr.frm.trans ⟨by simp [pushB], fun b hb' _ => by rw [pushB_get, if_neg (by omega)], fun _ h => .inl h, fun _ r h _ => .inl ⟨r, h⟩, hb, rfl, rfl, rfl⟩

theorem single_row {B} {cs : List AV} {c : Array Value} {n : Nat} (hn : cs.length = n) (hc : allCells cs = true) (hv : VRs B cs c.toList) : ∀ (i : Nat) ds, [cs][i]? = some ds → ds.length = n ∧ allCells ds = true ∧ VRs B ds ((c.toList.drop (i * n)).take n) := by
  intro i ds hi
  cases i with
  | zero =>
    simp at hi; subst hi
    refine ⟨hn, hc, ?_⟩
    have : (c.toList.drop (0 * n)).take n = c.toList := by rw [Nat.zero_mul, List.drop_zero, ← hn, hv.length, List.take_length]
    rw [this]; exact hv
  | succ i => simp at hi

theorem ms_alloc (hT : TabOk P T) (hr : RelD w0 H0 δ s a w) {t : TypeId} (h : mutOp (AC P) T esc s ⟨dst, .alloc t, type, pos, after, guard⟩ K) : OpRuns P ⟨dst, .alloc t, type, pos, after, guard⟩ a w (After w0 H0 a K) := by
  have h' := parts_elim (K := fun L H => _) h
  clear h
  simp only at h'
  cases dst with
  | none => exact h'.elim
  | some d =>
  have run : (T.at t).ok = true → ∃ c, VRs (bs w) (T.at t).zero c.toList ∧ allCells (T.at t).zero = true ∧ (T.at t).zero.length = (T.at t).size ∧ (execOp a.eval ⟨some d, .alloc t, type, pos, after, guard⟩).run P w = .ok (.value (.pointer (some ⟨w.heap.size, 0, none⟩))) (pushB w (.cells c t (0, 0))) := by
    intro hok
    obtain ⟨i, z, hi, hs, hb, hz, hv, hc, hl⟩ := (hT.get hok).info
    refine ⟨z.cells, hv _, hc, hl, ?_⟩
    have hzr : (zeroValue t).run P w = .ok z w := by unfold zeroValue typeInfo; simp [hi, hz]
    simp [execOp, Instr.alloc, hzr, newVar, newRow, pushB]
  simp only at h'
  split at h'
  · obtain ⟨hok, h'⟩ := ifB_elim h'
    obtain ⟨c, hv, hc, hl, hrun⟩ := run hok
    have hK := setH_elim (New_elim h' _ (fresh_block hr.sat))
    refine .inl ⟨_, _, hrun, _, _, δ, hK, .of_VR (vr_ptr0 _ _), after_push hr (hT.get hok).pos (by simp; rw [← hl, hv.length]; simp) (fun _ i _ h => by omega) (single_row hl hc hv)⟩
  · split at h'
    · rename_i hn
      obtain ⟨hok, h'⟩ := ifB_elim h'
      simp only [Bool.and_eq_true] at hok
      obtain ⟨c, hv, hc, hl, hrun⟩ := run hok.1
      have hK := setL_elim h'
      obtain ⟨n, env, l, H⟩ := s
      exact .inl ⟨_, _, hrun, _, _, _, hK, by simp only [ER, if_true], hr.pushL hn hok.2 hv hc⟩
    · exact h'.elim

theorem lenIs_elim : ∀ {l : List AV} {n : Nat} {K : Prop}, lenIs l n K → l.length = n ∧ K
  | [], 0, K, h => ⟨rfl, h⟩
  | _ :: l, n + 1, K, h => by simp only [lenIs] at h; obtain ⟨h1, h2⟩ := lenIs_elim h; exact ⟨by simp [h1], h2⟩
  | [], _ + 1, _, h => by simp [lenIs] at h
  | _ :: _, 0, _, h => by simp [lenIs] at h

theorem er_cells {δ B} {v : AV} {x : Value} (h : ER δ B v x) (hc : allCells (cellsOf v) = true) : VR B v x := by
  cases v <;> first | exact h | (simp [cellsOf, allCells, AV.cell] at hc)

theorem force_len {v : AV} {K : AV → Prop} (h : force v K) : ∃ v', K v' ∧ (∀ δ B x, ER δ B v x → ER δ B v' x) ∧ (∀ B x, VR B v x → VR B v' x) ∧ (v'.cell = true → ∀ B x, VR B v x → VR B v' x) ∧ (v.cell = true → v'.cell = true) := by
  obtain ⟨v', h1, h2, h3, h4⟩ := force_elim h
  exact ⟨v', h1, h2, h3, fun _ => h3, h4⟩

theorem forceL_len {B} : ∀ {l : List AV} {K : List AV → Prop}, forceL l K → ∃ l', K l' ∧ (∀ vs, VRs B l vs → VRs B l' vs) ∧ l'.length = l.length
  | [], _, h => ⟨[], h, fun _ h => h, rfl⟩
  | v :: r, K, h => by
    simp only [forceL] at h
    obtain ⟨v', h, _, hv, hc⟩ := force_elim h
    obtain ⟨r', h, hr, hl⟩ := forceL_len (B := B) h
    refine ⟨v' :: r', h, ?_, by simp [hl]⟩
    intro vs hvs
    cases vs with
    | nil => simp only [VRs] at hvs
    | cons x xs => simp only [VRs] at *; exact ⟨hv _ _ hvs.1, hr _ hvs.2⟩

/-- cells are related where the values are, or where the forced ones are cells -/
theorem forceL_cells {δ B} {v : AV} {x : Value} {K : List AV → Prop} (hx : ER δ B v x) (hf : v ≠ .undef) (h : forceL (cellsOf v) fun cs => ifB (allCells cs) (K cs)) : ∃ cs, K cs ∧ allCells cs = true ∧ VRs B cs x.cells.toList ∧ cs.length = (cellsOf v).length := by
  by_cases hc : ∃ cs, v = .agg cs
  · obtain ⟨cs, rfl⟩ := hc
    simp only [ER, VR] at hx
    obtain ⟨vs, rfl, hvs⟩ := hx
    obtain ⟨l', h, hl, hn⟩ := forceL_len (B := B) h
    obtain ⟨h1, h⟩ := ifB_elim h
    exact ⟨l', h, h1, hl _ hvs, hn⟩
  · have hcv : cellsOf v = [v] := by cases v <;> first | rfl | (exact absurd ⟨_, rfl⟩ hc)
    rw [hcv] at h
    simp only [forceL] at h
    obtain ⟨v', h, he, hv, _⟩ := force_elim h
    obtain ⟨h1, h⟩ := ifB_elim h
    refine ⟨[v'], h, h1, ?_, by rw [hcv]; rfl⟩
    have hv' : VR B v' x := er_cells (he _ _ _ hx) (by cases v' <;> first | exact h1 | (simp [allCells, AV.cell] at h1))
    have hcell : v'.cell = true := by simpa [allCells] using h1
    rw [cells_one (hv'.oneCell hcell)]
    simp only [VRs, and_true]; exact hv'

theorem ms_box (hT : TabOk P T) (hr : RelD w0 H0 δ s a w) {t : TypeId} {x : Operand} (h : mutOp (AC P) T esc s ⟨dst, .box t x, type, pos, after, guard⟩ K) : OpRuns P ⟨dst, .box t x, type, pos, after, guard⟩ a w (After w0 H0 a K) := by
  have h' := parts_elim (K := fun L H => _) h
  clear h
  simp only at h'
  cases dst with
  | none => exact h'.elim
  | some d =>
  obtain ⟨hok, h'⟩ := ifB_elim h'
  obtain ⟨v, h', hv, _⟩ := force_elim h'
  have hx := hv _ _ _ (hr.ev x)
  obtain ⟨hkn, h'⟩ := ifB_elim h'
  obtain ⟨hlen, h'⟩ := lenIs_elim h'
  have hrun : (execOp a.eval ⟨some d, .box t x, type, pos, after, guard⟩).run P w = .ok (.value (.pointer (some ⟨w.heap.size, 0, none⟩))) (pushB w (.cells (a.eval x).cells t (0, 0))) := by
    simp [execOp, Instr.box, newVar, newRow, pushB]
  obtain ⟨cs, h', hcc, hcs, hn⟩ := forceL_cells hx (fun e => by rw [e] at hkn; cases hkn) h'
  rw [hlen] at hn
  split at h'
  · have hK := setH_elim (New_elim h' _ (fresh_block hr.sat))
    refine .inl ⟨_, _, hrun, _, _, δ, hK, .of_VR (vr_ptr0 _ _), after_push hr (hT.get hok).pos (by simp; rw [← hn, hcs.length]; simp) (fun _ i _ h => by omega) (single_row hn hcc hcs)⟩
  · split at h'
    · rename_i hno
      obtain ⟨hnl, h'⟩ := ifB_elim h'
      have hK := setL_elim h'
      obtain ⟨n, env, l, H⟩ := s
      exact .inl ⟨_, _, hrun, _, _, _, hK, by simp only [ER, if_true], hr.pushL hno hnl hcs hcc⟩
    · exact h'.elim

/-- elements, one behind the other, in a list of cells -/
def RowsR (B : Nat → Option Nat) (e : Nat) (es : List (List AV)) (cl : List Value) : Prop := cl.length = es.length * e ∧ ∀ (i : Nat) cs, es[i]? = some cs → cs.length = e ∧ allCells cs = true ∧ VRs B cs ((cl.drop (i * e)).take e)

theorem RowsR.set {B e es cl} (h : RowsR B e es cl) {i : Nat} {cs : List AV} {vs : List Value} (hi : i < es.length) (hl : cs.length = e) (hc : allCells cs = true) (hv : VRs B cs vs) : RowsR B e (es.set i cs) (cl.take (i * e) ++ vs ++ cl.drop (i * e + e)) := by
  have hvl : vs.length = e := by rw [← hv.length, hl]
  have hie : i * e + e ≤ es.length * e := by rw [← Nat.succ_mul]; exact Nat.mul_le_mul_right e hi
  refine ⟨?_, fun j ds hj => ?_⟩
  · have := h.1
    simp [hvl]; omega
  · by_cases hij : i = j
    · subst hij
      rw [List.getElem?_set_self hi] at hj
      injection hj with hj; subst hj
      refine ⟨hl, hc, ?_⟩
      have : ((cl.take (i * e) ++ vs ++ cl.drop (i * e + e)).drop (i * e)).take e = vs := by
        have h1 : (cl.take (i * e)).length = i * e := by simp; have := h.1; omega
        rw [List.append_assoc, List.drop_append_of_le_length (by omega), List.drop_of_length_le (by omega), List.nil_append, List.take_append_of_le_length (by omega), List.take_of_length_le (by omega)]
      rw [this]; exact hv
    · rw [List.getElem?_set_ne hij] at hj
      obtain ⟨x, y, z⟩ := h.2 j ds hj
      refine ⟨x, y, ?_⟩
      have hjl : j < es.length := by
        rcases Nat.lt_or_ge j es.length with h' | h'
        · exact h'
        · rw [List.getElem?_eq_none h'] at hj; cases hj
      have : ((cl.take (i * e) ++ vs ++ cl.drop (i * e + e)).drop (j * e)).take e = (cl.drop (j * e)).take e := by
        apply List.ext_getElem?
        intro k
        by_cases hk : k < e
        · rw [List.getElem?_take_of_lt hk, List.getElem?_take_of_lt hk, List.getElem?_drop, List.getElem?_drop]
          rcases Nat.lt_or_ge j i with hlt | hge
          · have : j * e + e ≤ i * e := by rw [← Nat.succ_mul]; exact Nat.mul_le_mul_right e hlt
            rw [List.append_assoc, List.getElem?_append_left (by simp; have := h.1; omega), List.getElem?_take_of_lt (by omega)]
          · have hlt : i < j := by omega
            have : i * e + e ≤ j * e := by rw [← Nat.succ_mul]; exact Nat.mul_le_mul_right e hlt
            have hl1 : (cl.take (i * e) ++ vs).length = i * e + e := by simp [hvl]; have := h.1; omega
            rw [List.getElem?_append_right (by omega), hl1, List.getElem?_drop]
            congr 1; omega
        · rw [List.getElem?_eq_none (by simp; omega), List.getElem?_eq_none (by simp; omega)]
      rw [this]; exact z

theorem setK_elim : ∀ {l : List (List AV)} {i : Nat} {v : List AV} {K : List (List AV) → Prop}, setK l i v K → i < l.length ∧ K (l.set i v)
  | [], _, _, _, h => by simp [setK] at h
  | _ :: l, 0, v, K, h => by simp only [setK] at h; exact ⟨by simp, h⟩
  | c :: l, i + 1, v, K, h => by
    simp only [setK] at h
    obtain ⟨h1, h2⟩ := setK_elim h
    exact ⟨by simp; omega, by simpa using h2⟩

theorem forceL_full {B} : ∀ {l : List AV} {K : List AV → Prop}, forceL l K → ∃ l', K l' ∧ (∀ vs, VRs B l vs → VRs B l' vs) ∧ l'.length = l.length ∧ (allCells l = true → allCells l' = true)
  | [], _, h => ⟨[], h, fun _ h => h, rfl, fun h => h⟩
  | v :: r, K, h => by
    simp only [forceL] at h
    obtain ⟨v', h, _, hv, hc⟩ := force_elim h
    obtain ⟨r', h, hr, hl, hc'⟩ := forceL_full (B := B) h
    refine ⟨v' :: r', h, ?_, by simp [hl], ?_⟩
    · intro vs hvs
      cases vs with
      | nil => simp only [VRs] at hvs
      | cons x xs => simp only [VRs] at *; exact ⟨hv _ _ hvs.1, hr _ hvs.2⟩
    · intro h; simp only [allCells, Bool.and_eq_true] at *; exact ⟨hc h.1, hc' h.2⟩

theorem fillS_elim {e : Nat} : ∀ {r : List (Nat × AV)} {es : List (List AV)} {K : List (List AV) → Prop} {l : List (Nat × Value)} {cells : Array Value} {B}, fillS e r es K → RowsR B e es cells.toList →
      r.map (·.1) = l.map (·.1) → ERs δ B (r.map (·.2)) (l.map (·.2)) →
      ∃ es' c, K es' ∧ RowsR B e es' c.toList ∧ es'.length = es.length ∧ Instr.fill (fun i => some (i * e, e)) cells l = some c
  | [], es, K, [], cells, B, h, hcs, _, _ => ⟨es, cells, h, hcs, rfl, rfl⟩
  | [], _, _, _ :: _, _, _, _, _, hi, _ => by simp at hi
  | _ :: _, _, _, [], _, _, _, _, hi, _ => by simp at hi
  | (i, v) :: r, es, K, (i', x) :: l, cells, B, h, hcs, hi, hv => by
    simp only [List.map_cons, List.cons.injEq] at hi
    obtain ⟨rfl, hi⟩ := hi
    simp only [List.map_cons, ERs] at hv
    obtain ⟨hvx, hv⟩ := hv
    simp only [fillS] at h
    obtain ⟨hlen, h⟩ := lenIs_elim h
    obtain ⟨hcv, h⟩ := ifB_elim h
    have hvr := er_cells hvx hcv
    obtain ⟨c, h, hc, hn, hcc⟩ := forceL_full (B := B) h
    obtain ⟨hlt, h⟩ := setK_elim h
    have hvc := hc _ (hvr.cells hcv)
    have hie : i * e + e ≤ es.length * e := by rw [← Nat.succ_mul]; exact Nat.mul_le_mul_right e hlt
    obtain ⟨c2, hc2, hf⟩ := fill_step (place := fun i => some (i * e, e)) (cells := cells) (r := l) (o := i * e) (n := e) rfl (by rw [hvr.cellsSize hcv]; exact hlen) (by have h9 := hcs.1; rw [Array.length_toList] at h9; omega)
    rw [hf]
    obtain ⟨es', c', h1, h2, h3, h4⟩ := fillS_elim h (by rw [hc2]; exact hcs.set hlt (by rw [hn]; exact hlen) (hcc hcv) hvc) hi hv
    exact ⟨es', c', h1, h2, by simpa using h3, h4⟩

theorem rep_length {α} (n : Nat) (x : α) : (rep n x).length = n := by induction n <;> simp [rep, *]
theorem rep_get {α} {n : Nat} {x y : α} {i : Nat} (h : (rep n x)[i]? = some y) : y = x := by
  induction n generalizing i with
  | zero => simp [rep] at h
  | succ n ih => cases i with
    | zero => simp [rep] at h; exact h.symm
    | succ i => simp [rep] at h; exact ih h

theorem zeros_row {B} {e n : Nat} {z : Array Value} {zs : List AV} {es : List (List AV)} (hz : VRs B zs z.toList) (hc : allCells zs = true) (hl : zs.length = e) (hn : es.length = n) (hes : ∀ (i : Nat) cs, es[i]? = some cs → cs = zs) :
    RowsR B e es ((Array.range (n * e)).map (z[· % z.size]!)).toList := by
  have hzl : z.size = e := by have := hz.length; simp at this; omega
  refine ⟨by simp [hn], fun i cs hi => ?_⟩
  have := hes i cs hi
  subst this
  refine ⟨hl, hc, ?_⟩
  have hin : i < n := by
    rcases Nat.lt_or_ge i es.length with h' | h'
    · omega
    · rw [List.getElem?_eq_none h'] at hi; cases hi
  have hie : i * e + e ≤ n * e := by rw [← Nat.succ_mul]; exact Nat.mul_le_mul_right e hin
  have : ((((Array.range (n * e)).map (z[· % z.size]!)).toList.drop (i * e)).take e) = z.toList := by
    apply List.ext_getElem?
    intro k
    by_cases hk : k < e
    · rw [List.getElem?_take_of_lt hk, List.getElem?_drop]
      simp [show i * e + k < n * e from by omega, hzl, hk, Nat.mod_eq_of_lt hk]
    · rw [List.getElem?_eq_none (by simp; omega), List.getElem?_eq_none (by simp; omega)]
  rw [this]; exact hz

theorem RowsR.row {B e es cl} (h : RowsR B e es cl) : ∀ (i : Nat) cs, es[i]? = some cs → cs.length = e ∧ allCells cs = true ∧ VRs B cs ((cl.drop (i * e)).take e) := h.2

theorem ms_buildSlice (hT : TabOk P T) (hr : RelD w0 H0 δ s a w) {t : TypeId} {n : Nat} {ps : Array (Nat × Operand)} (h : mutOp (AC P) T esc s ⟨dst, .buildSlice t n ps, type, pos, after, guard⟩ K) : OpRuns P ⟨dst, .buildSlice t n ps, type, pos, after, guard⟩ a w (After w0 H0 a K) := by
  have h' := parts_elim (K := fun L H => _) h
  clear h
  simp only at h'
  split at h'
  · rename_i u hd
    obtain ⟨hok, h'⟩ := ifB_elim h'
    obtain ⟨vs, h', h1, h2⟩ := evPairs_elim (fun x => hr.ev x) h'
    obtain ⟨i0, z, hi0, hsz, _, hz, hzv, hzc, hzl⟩ := (hT.get hok).info
    have hzr : (zeroValue u).run P w = .ok z w := by unfold zeroValue typeInfo; simp [hi0, hz]
    have hsr := (hT.get hok).sizeOf w
    have hpos := (hT.get hok).pos
    have hl1 : vs.map (·.1) = ((ps.toList.map fun p => (p.1, a.eval p.2))).map (·.1) := by rw [h1]; simp
    have hl2 : ERs δ (bs w) (vs.map (·.2)) ((ps.toList.map fun p => (p.1, a.eval p.2)).map (·.2)) := by rw [List.map_map]; exact h2
    have hps : (ps.map fun (i, x) => (i, a.eval x)).toList = ps.toList.map fun p => (p.1, a.eval p.2) := by simp
    obtain ⟨es, c, h', hrow, hlen, hf⟩ := fillS_elim h' (zeros_row (n := n) (hzv (bs w)) hzc hzl (rep_length _ _) (fun _ _ hi => rep_get hi)) hl1 hl2
    obtain ⟨hb, h'⟩ := ifB_elim h'
    have hb2 : n * (T.at u).size ≤ 16777216 := by simpa using hb
    have hK := setH_elim (New_elim h' _ (fresh_block hr.sat))
    rw [rep_length] at hlen
    have hrun : (execOp a.eval ⟨dst, .buildSlice t n ps, type, pos, after, guard⟩).run P w = .ok (.value (.slice (some ⟨w.heap.size, 0, none⟩) n n)) (pushB w (.cells c u (0, 0))) := by
      by_cases h0 : n * (T.at u).size = 0
      · rw [h0] at hf
        have hr0 : Array.range 0 = (#[] : Array Nat) := rfl
        simp [hr0] at hf
        simp [execOp, Instr.buildSlice, run_underlying (und_slice hT hd), hsr, h0, hf, newRow, pushB, hr0]
      · simp [execOp, Instr.buildSlice, run_underlying (und_slice hT hd), hsr, h0, newRow, pushB, hzr, show ¬ n * (T.at u).size > 2 ^ 24 from by omega]
        rw [hf]; simp
    refine .inl ⟨_, _, hrun, _, _, δ, hK, .of_VR ?_, after_push hr hpos ?_ (fun _ i _ h => by omega) hrow.2⟩
    · simp only [VR]
      left
      refine ⟨rfl, n, c.size, by simp [Addr.add], Nat.le_refl _, bs_new _ _ _ _, ?_⟩
      have := hrow.1; rw [hlen, Array.length_toList] at this; simp [this]
    · have := hrow.1; rw [Array.length_toList] at this; simp only; omega
  · exact h'.elim

theorem patch_get {α} (cl us : List α) (p n k : Nat) (hu : us.length = n) (hp : p + n ≤ cl.length) : (cl.take p ++ us ++ cl.drop (p + n))[k]? = if k < p then cl[k]? else if k < p + n then us[k - p]? else cl[k]? := by
  have h1 : (cl.take p).length = p := by simp; omega
  by_cases h : k < p
  · rw [if_pos h, List.append_assoc, List.getElem?_append_left (by omega), List.getElem?_take_of_lt h]
  · rw [if_neg h]
    by_cases h' : k < p + n
    · rw [if_pos h', List.append_assoc, List.getElem?_append_right (by omega), List.getElem?_append_left (by omega), h1]
    · rw [if_neg h', List.getElem?_append_right (by simp [hu]; omega), List.getElem?_drop]
      congr 1
      simp [hu]; omega

theorem slice_get {α} (cl : List α) (o e k : Nat) : ((cl.drop o).take e)[k]? = if k < e then cl[o + k]? else none := by
  by_cases h : k < e
  · rw [if_pos h, List.getElem?_take_of_lt h, List.getElem?_drop]
  · rw [if_neg h, List.getElem?_eq_none (by simp; omega)]

theorem patch_row {B} {off e f n i : Nat} {es : List (List AV)} {cl us : List Value} {cs vals : List AV} (hrow : ∀ (i : Nat) cs, es[i]? = some cs → cs.length = e ∧ allCells cs = true ∧ VRs B cs ((cl.drop (off + i * e)).take e))
    (hi : es[i]? = some cs) (hf : f + n ≤ e) (hlen : off + es.length * e ≤ cl.length) (hv : VRs B vals us) (hvn : vals.length = n) (hvc : allCells vals = true) :
    ∀ (j : Nat) ds, (es.set i (cs.take f ++ vals ++ cs.drop (f + n)))[j]? = some ds → ds.length = e ∧ allCells ds = true ∧ VRs B ds (((cl.take (off + (i * e + f)) ++ us ++ cl.drop (off + (i * e + f) + n)).drop (off + j * e)).take e) := by
  intro j ds hj
  have hun : us.length = n := by rw [← hv.length, hvn]
  have hilt : i < es.length := by
    rcases Nat.lt_or_ge i es.length with h' | h'
    · exact h'
    · rw [List.getElem?_eq_none h'] at hi; cases hi
  have hie : i * e + e ≤ es.length * e := by rw [← Nat.succ_mul]; exact Nat.mul_le_mul_right e hilt
  obtain ⟨x, y, z⟩ := hrow i cs hi
  by_cases hij : i = j
  · subst hij
    rw [List.getElem?_set_self hilt] at hj
    injection hj with hj; subst hj
    refine ⟨by simp [hvn]; omega, by rw [allCells_append, allCells_append, allCells_take _ y, hvc, allCells_drop _ y]; rfl, ?_⟩
    have e1 : ((cl.take (off + (i * e + f)) ++ us ++ cl.drop (off + (i * e + f) + n)).drop (off + i * e)).take e = ((cl.drop (off + i * e)).take e).take f ++ us ++ ((cl.drop (off + i * e)).take e).drop (f + n) := by
      apply List.ext_getElem?
      intro k
      have hR : ((cl.drop (off + i * e)).take e).length = e := by simp; omega
      rw [slice_get, patch_get _ _ _ _ _ hun (by omega), patch_get _ _ _ _ _ hun (by omega), slice_get]
      by_cases hk : k < e
      · rw [if_pos hk]
        by_cases h1 : k < f
        · rw [if_pos h1, if_pos (by omega), if_pos hk]
        · rw [if_neg h1, if_neg (by omega)]
          by_cases h2 : k < f + n
          · rw [if_pos h2, if_pos (by omega)]; congr 1; omega
          · rw [if_neg h2, if_neg (by omega), if_pos hk]
      · rw [if_neg hk, if_neg (by omega), if_neg (by omega), if_neg hk]
    rw [e1]
    exact ((z.take f).append hv).append (z.drop (f + n))
  · rw [List.getElem?_set_ne hij] at hj
    obtain ⟨x', y', z'⟩ := hrow j ds hj
    refine ⟨x', y', ?_⟩
    have hjl : j < es.length := by
      rcases Nat.lt_or_ge j es.length with h' | h'
      · exact h'
      · rw [List.getElem?_eq_none h'] at hj; cases hj
    have e1 : ((cl.take (off + (i * e + f)) ++ us ++ cl.drop (off + (i * e + f) + n)).drop (off + j * e)).take e = (cl.drop (off + j * e)).take e := by
      apply List.ext_getElem?
      intro k
      rw [slice_get, slice_get, patch_get _ _ _ _ _ hun (by omega)]
      by_cases hk : k < e
      · rw [if_pos hk, if_pos hk]
        rcases Nat.lt_or_ge j i with hlt | hge
        · have : j * e + e ≤ i * e := by rw [← Nat.succ_mul]; exact Nat.mul_le_mul_right e hlt
          rw [if_pos (by omega)]
        · have hlt : i < j := by omega
          have : i * e + e ≤ j * e := by rw [← Nat.succ_mul]; exact Nat.mul_le_mul_right e hlt
          rw [if_neg (by omega), if_neg (by omega)]
      · rw [if_neg hk, if_neg hk]
    rw [e1]; exact z'

theorem Sto_elim {H : Hp} {b : Addr} {e i : Nat} {K : Row → List AV → Prop} (h : Sto H b e i K) : ∃ r cs, H.get b = some r ∧ r.e = e ∧ r.ro = false ∧ r.es[i]? = some cs ∧ K r cs := by unfold Sto at h; exact h

theorem VR.tuple_false {B v} {vs : Array Value} (h : VR B v (.tuple vs)) (hc : allCells (cellsOf v) = true) : False := by
  cases v <;> simp [cellsOf, allCells, AV.cell] at hc <;> simp only [VR] at h
  all_goals first | (cases h; done) | skip
  case slice => rcases h with ⟨_, _, _, h, _⟩ | ⟨_, _, h⟩ <;> cases h
  case ptr => cases h.2
  case agg => obtain ⟨_, h, _⟩ := h; cases h
  case func => obtain ⟨_, h, _⟩ := h; cases h

/-- the store of a value into a part of a block -/
theorem run_store_part (hT : TabOk P T) {t : Nat} (hok : (T.at t).ok = true) {b o : Nat} {c : Array Value} {E fr} {x : Value} {v : AV} (hb : w.heap[b]? = some (.cells c E fr)) (hfr : ∀ j, j < c.size → ¬ (fr.1 ≤ j ∧ j < fr.2))
    (hx : VR (bs w) v x) (hc : allCells (cellsOf v) = true) (hl : (cellsOf v).length = (T.at t).size) (ho : o + (T.at t).size ≤ c.size) :
    (storeVar t ⟨b, o, none⟩ x).run P w = .ok () (putB w b (.cells (c.toList.take o ++ x.cells.toList ++ c.toList.drop (o + (T.at t).size)).toArray E fr)) := by
  have hs := (hT.get hok).sizeOf w
  have hcs : x.cells.size = (T.at t).size := by rw [hx.cellsSize hc, hl]
  have hcl : x.cells.toList.length = (T.at t).size := by rw [Array.length_toList, hcs]
  unfold storeVar
  have := run_storeCells (P := P) b o E fr x.cells.toList 0 c w hb hfr (by omega) (VRs.oneCell hc (hx.cells hc))
  rw [Nat.add_zero, hcl] at this
  simp only [Sem.run_bind, hs, Result.andThen_ok, hcs, ne_eq, not_true_eq_false, if_false]
  simpa using this

theorem locSet_elim : ∀ {l : List (Nat × List AV)} {d : Nat} {x : List AV} {K : List (Nat × List AV) → Prop}, locSet l d x K → ∃ l', (∀ t, locGet l' t = if t = d then (locGet l d).map (fun _ => x) else locGet l t) ∧ K l'
  | [], d, x, K, h => ⟨[], fun t => by simp [locGet_cons, locGet], h⟩
  | (e, c) :: r, d, x, K, h => by
    simp only [locSet] at h
    split at h
    · rename_i hb
      have hb := Nat.eq_of_beq_eq_true hb
      subst hb
      refine ⟨_, fun t => ?_, h⟩
      by_cases ht : t = e
      · subst ht; simp [locGet_cons, locGet]
      · have ht' : ¬ e = t := fun q => ht q.symm
        simp only [locGet_cons, if_neg ht, if_neg ht']
    · rename_i hb
      have hb := Nat.ne_of_beq_eq_false hb
      obtain ⟨l', h1, h2⟩ := locSet_elim h
      refine ⟨_, fun t => ?_, h2⟩
      simp only [locGet_cons, if_neg hb]
      by_cases ht : e = t
      · subst ht; simp [hb]
      · rw [if_neg ht, if_neg ht]; exact h1 t

/-- another value for a variable of the frame -/
theorem RelD.putL {l' d cs cs'} (hr : RelD w0 H0 δ s a w) (hb0 : w0.n = w0.w.heap.size) (hl : locGet s.loc d = some cs) (hl' : ∀ t, locGet l' t = if t = d then (locGet s.loc d).map (fun _ => cs') else locGet s.loc t) {c c' : Array Value} {E fr} (hb : w.heap[δ d]? = some (.cells c E fr))
    (hsz : c'.size = c.size) (hcv : VRs (bs w) cs' c'.toList) (hcc : allCells cs' = true) (hfr : ∀ j, j < c'.size → ¬ (fr.1 ≤ j ∧ j < fr.2)) : RelD w0 H0 δ { s with loc := l' } a (putB w (δ d) (.cells c' E fr)) := by
  have hlt := lt_of_get hb
  have hbs := bs_put (E' := E) (fr' := fr) hb hsz
  obtain ⟨_, hd0, hdb⟩ := hr.loc d cs hl
  have hne : ∀ b r, s.hp.get b = some r → b.spot = none → b.block ≠ δ d := fun b r h1 h2 h3 => hdb ⟨b, r, h1, h2, h3⟩
  refine ⟨hr.size, hr.dfr, fun t => by rw [hbs]; exact hr.env t, fun x cx hx => ?_, fun x y c1 c2 h1 h2 h3 => ?_, ?_, ?_, hr.base⟩
  · rw [hl'] at hx
    by_cases e : x = d
    · subst e
      rw [if_pos rfl, hl] at hx
      simp at hx; subst hx
      exact ⟨⟨c', E, fr, by rw [putB_get _ _ _ _ hlt]; simp, by rw [hbs]; exact hcv, hcc, hfr⟩, hd0, hdb⟩
    · rw [if_neg e] at hx
      obtain ⟨h1, h2, h3⟩ := hr.loc x cx hx
      refine ⟨h1.congr ?_ (by rw [hbs]; exact BLe.refl _), h2, h3⟩
      rw [putB_get _ _ _ _ hlt, if_neg (fun q => e (hr.inj x d cx cs hx hl q))]
  · rw [hl'] at h1 h2
    have h1' : ∃ c, locGet s.loc x = some c := by
      by_cases e : x = d
      · subst e; exact ⟨_, hl⟩
      · rw [if_neg e] at h1; exact ⟨_, h1⟩
    have h2' : ∃ c, locGet s.loc y = some c := by
      by_cases e : y = d
      · subst e; exact ⟨_, hl⟩
      · rw [if_neg e] at h2; exact ⟨_, h2⟩
    obtain ⟨_, h1'⟩ := h1'; obtain ⟨_, h2'⟩ := h2'
    exact hr.inj x y _ _ h1' h2' h3
  · refine ⟨fun b r hb' => (hr.sat.rows b r hb').congr (fun hs => ?_) (by rw [hbs]; exact BLe.refl _), hr.sat.excl, hr.sat.ghost⟩
    rw [putB_get _ _ _ _ hlt, if_neg (hne b r hb' hs)]
  · refine ⟨by simpa [putB] using hr.frm.size, fun b hb' ho => ?_, hr.frm.owns, hr.frm.blks, by rw [hbs]; exact hr.frm.bl, hr.frm.os, hr.frm.out, hr.frm.tape⟩
    rw [putB_get _ _ _ _ hlt, if_neg (by omega)]; exact hr.frm.keep b hb' ho

theorem ms_store (hT : TabOk P T) (hr : RelD w0 H0 δ s a w) {t : TypeId} {x y : Operand} (hb0 : ∀ d, stl s ⟨dst, .store t x y, type, pos, after, guard⟩ = some d → w0.n = w0.w.heap.size) (h : mutOp (AC P) T esc s ⟨dst, .store t x y, type, pos, after, guard⟩ K) : OpRuns P ⟨dst, .store t x y, type, pos, after, guard⟩ a w (After w0 H0 a K) := by
  have h' := parts_elim (K := fun L H => _) h
  clear h
  simp only at h'
  obtain ⟨v, h', hv, _⟩ := force_elim h'
  have hy := hv _ _ _ (hr.ev y)
  obtain ⟨hlen, h'⟩ := lenIs_elim h'
  obtain ⟨hk, h'⟩ := ifB_elim h'
  simp only [Bool.and_eq_true] at hk
  have hyv := er_cells hy hk.2
  have hyc := hyv.cells hk.2
  have hx := hr.ev x
  split at h'
  · rename_i b e i f ev
    rw [ev] at hx; simp only [ER, VR] at hx
    obtain ⟨r, cs, hg, rfl, hro, hi, h'⟩ := Sto_elim h'
    obtain ⟨_, hfl, h'⟩ := patchK_elim h'
    have hK := setH_elim h'
    rcases hr.sat.rows _ _ hg with ⟨hsp, he0, c, E, fr, hb, hlr, hfr, hc⟩ | ⟨hn, _⟩
    · obtain ⟨h1, h2, h3⟩ := hc i cs hi
      have hilt : i < r.es.length := by
        rcases Nat.lt_or_ge i r.es.length with h' | h'
        · exact h'
        · rw [List.getElem?_eq_none h'] at hi; cases hi
      have hie : i * r.e + r.e ≤ r.es.length * r.e := by rw [← Nat.succ_mul]; exact Nat.mul_le_mul_right r.e hilt
      have hrun := run_store_part (P := P) (o := b.off + (i * r.e + f)) hT hk.1 hb (fun j hj => hfr hro j (Nat.le_of_lt hj)) hyv hk.2 hlen (by omega)
      have hcl : (a.eval y).cells.toList.length = (T.at t).size := by rw [Array.length_toList, hyv.cellsSize hk.2, hlen]
      have hex : (execOp a.eval ⟨dst, .store t x y, type, pos, after, guard⟩).run P w = .ok .skip (putB w b.block (.cells (c.toList.take (b.off + (i * r.e + f)) ++ (a.eval y).cells.toList ++ c.toList.drop (b.off + (i * r.e + f) + (T.at t).size)).toArray E fr)) := by
        simp only [execOp, Instr.storeAt, hx.2, Instr.sureAddr, addr_mk hx.1, pure_bind, Sem.run_bind, hrun, Result.andThen_ok, Sem.run_pure]
      have hsz : (c.toList.take (b.off + (i * r.e + f)) ++ (a.eval y).cells.toList ++ c.toList.drop (b.off + (i * r.e + f) + (T.at t).size)).toArray.size = c.size := by
        simp [hcl] ; omega
      refine .inr (.inl ⟨_, hex, _, _, δ, hK, by simp only [ER, VR], hr.step (Fr.put hg hro hsp hb hsz) (hr.sat.put hg hro hb hsz _ hsp (by simpa using hlr) ?_)⟩)
      have := patch_row (f := f) (n := (T.at t).size) (off := b.off) hc hi (by omega) (by rw [Array.length_toList]; exact hlr) hyc hlen hk.2
      simpa using this
    · exact absurd hx.1 hn
  · rename_i d f ev
    rw [ev] at hx; simp only [ER] at hx
    split at h'
    · rename_i cs hl
      obtain ⟨hlo, hsz0, hnb⟩ := hr.loc d cs hl
      obtain ⟨_, hfl, h'⟩ := patchK_elim h'
      obtain ⟨l', hl', h'⟩ := locSet_elim h'
      have hK := setL_elim h'
      obtain ⟨c, E, fr, hb, hcv, hcc, hfr⟩ := hlo
      have hcl0 : cs.length = c.size := by have := hcv.length; simpa using this
      have hrun := run_store_part (P := P) (o := f) hT hk.1 hb hfr hyv hk.2 hlen (by omega)
      have hcl : (a.eval y).cells.toList.length = (T.at t).size := by rw [Array.length_toList, hyv.cellsSize hk.2, hlen]
      have hex : (execOp a.eval ⟨dst, .store t x y, type, pos, after, guard⟩).run P w = .ok .skip (putB w (δ d) (.cells (c.toList.take f ++ (a.eval y).cells.toList ++ c.toList.drop (f + (T.at t).size)).toArray E fr)) := by
        simp only [execOp, Instr.storeAt, hx, Instr.sureAddr, pure_bind, Sem.run_bind, hrun, Result.andThen_ok, Sem.run_pure]
      have hsz : (c.toList.take f ++ (a.eval y).cells.toList ++ c.toList.drop (f + (T.at t).size)).toArray.size = c.size := by
        simp [hcl]; omega
      refine .inr (.inl ⟨_, hex, _, _, δ, hK, by simp only [ER, VR], ?_⟩)
      exact hr.putL (hb0 d (by simp only [stl, ev])) hl hl' hb hsz (((hcv.take f).append hyc).append (hcv.drop (f + (T.at t).size))) (by rw [allCells_append, allCells_append, allCells_take _ hcc, hk.2, allCells_drop _ hcc]; rfl) (fun j hj => hfr j (by rw [hsz] at hj; exact hj))
    · exact h'.elim
  · exact h'.elim

end
end Go.Proofs.Ytdbedlomiedncaa.Vc
