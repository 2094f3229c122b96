/- The states of a function's run, and what an operation does to them. -/
import Derived.Test.YtdbedlomiedncaaVc5
import Derived.Laws.BytesString
namespace Go.Proofs.Ytdbedlomiedncaa.Vc
open Go

def LocOk (w : World) (b : Nat) (cs : List AV) : Prop := ∃ c E fr, w.heap[b]? = some (.cells c E fr) ∧ VRs (bs w) cs c.toList ∧ allCells cs = true ∧ ∀ j, j < c.size → ¬ (fr.1 ≤ j ∧ j < fr.2)

/-- the world in which one begins, and the block behind which a frame's own variables lie -/
structure Base where
  w : World
  n : Nat

structure RelD (w0 : Base) (H0 : Hp) (δ : Nat → Nat) (s : St) (a : Act) (w : World) : Prop where
  size : a.tmps.size = s.nt
  dfr : a.defers = []
  env : ∀ t, ER δ (bs w) (s.val t) (a.tmps.getD t undef)
  loc : ∀ d cs, locGet s.loc d = some cs → LocOk w (δ d) cs ∧ w0.n ≤ δ d ∧ ¬ blk s.hp (δ d)
  inj : ∀ d d' c c', locGet s.loc d = some c → locGet s.loc d' = some c' → δ d = δ d' → d = d'
  sat : Sat w s.hp
  frm : Fr w0.w H0 w s.hp
  base : w0.n ≤ w0.w.heap.size

theorem LocOk.lt {w b cs} (h : LocOk w b cs) : b < w.heap.size := by obtain ⟨c, E, fr, h, _⟩ := h; exact lt_of_get h

theorem LocOk.congr {w w' b cs} (h : LocOk w b cs) (hb : w'.heap[b]? = w.heap[b]?) (hl : BLe (bs w) (bs w')) : LocOk w' b cs := by
  obtain ⟨c, E, fr, h1, h2, h3⟩ := h
  exact ⟨c, E, fr, by rw [hb]; exact h1, h2.mono hl, h3⟩

/-- the heap went on -/
theorem RelD.step {w0 H0 δ s a w w' H'} (h : RelD w0 H0 δ s a w) (hf : Fr w s.hp w' H') (hs : Sat w' H') : RelD w0 H0 δ { s with hp := H' } a w' where
  size := h.size
  dfr := h.dfr
  env t := (h.env t).mono hf.bl
  loc d cs hd := by
    obtain ⟨h1, h2, h3⟩ := h.loc d cs hd
    have hno : ¬ own s.hp (δ d) := fun ⟨a, r, x, _, y, z⟩ => h3 ⟨a, r, x, y, z⟩
    refine ⟨h1.congr (hf.keep _ h1.lt hno) hf.bl, h2, fun hb => ?_⟩
    rcases hf.blk hb with h4 | h4
    · exact h3 h4
    · have := h1.lt; omega
  inj := h.inj
  sat := hs
  frm := h.frm.trans hf
  base := h.base

theorem St.val_cons (n : Nat) (env : List (Nat × AV)) (l : List (Nat × List AV)) (H : Hp) (d : Nat) (v : AV) (t : Nat) : St.val ⟨n, (d, v) :: env, l, H⟩ t = if d = t then v else St.val ⟨n, env, l, H⟩ t := alGet_cons ..

theorem RelD.put {w0 H0 δ n env l H a w d v x} (h : RelD w0 H0 δ ⟨n, env, l, H⟩ a w) (hx : ER δ (bs w) v x) (hd : d < n) : RelD w0 H0 δ ⟨n, (d, v) :: env, l, H⟩ (a.put (some d) x) w where
  size := by simp [Act.put]; exact h.size
  dfr := h.dfr
  env t := by
    rw [St.val_cons]
    have hn : d < a.tmps.size := by rw [h.size]; exact hd
    by_cases e : d = t
    · subst e; simp [Act.put, hn]; exact hx
    · rw [if_neg e]
      have := h.env t
      simp only [Act.put, Array.getD_eq_getD_getElem?] at this ⊢
      rw [Array.getElem?_setIfInBounds_ne e]; exact this
  loc := h.loc
  inj := h.inj
  sat := h.sat
  frm := h.frm
  base := h.base

/-- forgetting: a fact that the state bears already -/
theorem RelD.same {w0 H0 δ n env l H a w d v} (h : RelD w0 H0 δ ⟨n, env, l, H⟩ a w) (hx : ER δ (bs w) v (a.tmps.getD d undef)) : RelD w0 H0 δ ⟨n, (d, v) :: env, l, H⟩ a w where
  size := h.size
  dfr := h.dfr
  env t := by
    rw [St.val_cons]
    by_cases e : d = t
    · subst e; rw [if_pos rfl]; exact hx
    · rw [if_neg e]; exact h.env t
  loc := h.loc
  inj := h.inj
  sat := h.sat
  frm := h.frm
  base := h.base

theorem RelD.ev {w0 H0 δ s a w} (h : RelD w0 H0 δ s a w) (x : Operand) : ER δ (bs w) (s.ev x) (a.eval x) := by
  cases x with
  | tmp t => exact (h.env t).sl
  | const v => exact .of_VR (ofValue_ok _ v)
  | func f => exact .of_VR (x := .func f []) (by simp only [VR]; exact ⟨#[], rfl, by simp only [VRs]⟩)
  | global g => exact .of_VR (x := .undef) (by simp only [VR])

theorem RelD.evC {w0 H0 δ s a w} (h : RelD w0 H0 δ s a w) (x : Operand) : ER δ (bs w) (s.evC x) (a.eval x) := by
  have := h.ev x
  cases x <;> first | exact this | exact h.env _

theorem putK_elim {w0 H0 δ s a w d v x} {K : St → Prop} (h : putK s d v K) (hr : RelD w0 H0 δ s a w) (hx : ER δ (bs w) v x) : ∃ s', K s' ∧ RelD w0 H0 δ s' (a.put d x) w := by
  obtain ⟨n, env, l, H⟩ := s
  cases d with
  | none => exact ⟨_, h, hr⟩
  | some d =>
    simp only [putK] at h
    obtain ⟨hd, h⟩ := ifB_elim h
    simp only [St.putT] at h
    exact ⟨_, h, hr.put hx (Nat.lt_of_succ_le (by simpa [Nat.blt] using hd))⟩

/-- what an operation comes to -/
def OpRuns (P : Program) (o : Oper) (a : Act) (w : World) (R : Value → World → Prop) : Prop :=
  (∃ v w', (execOp a.eval o).run P w = .ok (.value v) w' ∧ R v w') ∨ (∃ w', (execOp a.eval o).run P w = .ok .skip w' ∧ R undef w') ∨
  (∃ f args, (execOp a.eval o).run P w = .ok (.enter f args) w ∧ Calls P f args w fun e w' => ∃ v, e = .returned v ∧ R v w')

theorem OpRuns.wp {P o a w R} {K : Act → World → Prop} {Q : Exit → Act → World → Prop} (h : OpRuns P o a w R) (hK : ∀ v w', R v w' → K (a.put o.dst v) w') : o.wp P a w K Q := by
  unfold Oper.wp
  rcases h with ⟨v, w', hr, h⟩ | ⟨w', hr, h⟩ | ⟨f, args, hr, h⟩
  · rw [hr]; exact hK _ _ h
  · rw [hr]; exact hK _ _ h
  · rw [hr]
    simp only [Oper.upon]
    refine Calls.mono h fun e w' ⟨v, he, hv⟩ => ?_
    subst he
    exact hK _ _ hv

theorem OpRuns.mono {P o a w R R'} (h : OpRuns P o a w R) (hR : ∀ v w', R v w' → R' v w') : OpRuns P o a w R' := by
  rcases h with ⟨v, w', hr, h⟩ | ⟨w', hr, h⟩ | ⟨f, args, hr, h⟩
  · exact .inl ⟨v, w', hr, hR _ _ h⟩
  · exact .inr (.inl ⟨w', hr, hR _ _ h⟩)
  · exact .inr (.inr ⟨f, args, hr, Calls.mono h fun e w' ⟨v, he, hv⟩ => ⟨v, he, hR _ _ hv⟩⟩)

section
variable {P : Program} {T : Tab} {w0 : Base} {H0 : Hp} {δ : Nat → Nat} {s : St} {a : Act} {w : World}

theorem parts_elim {K : List (Nat × List AV) → Hp → Prop} (h : s.parts K) : K s.loc s.hp := by obtain ⟨n, env, l, H⟩ := s; exact h
theorem setH_elim {H : Hp} {K : St → Prop} (h : s.setH H K) : K { s with hp := H } := by obtain ⟨n, env, l, H'⟩ := s; exact h
theorem setL_elim {l : List (Nat × List AV)} {K : St → Prop} (h : s.setL l K) : K { s with loc := l } := by obtain ⟨n, env, l', H'⟩ := s; exact h

theorem Ld_elim {H : Hp} {b : Addr} {e i : Nat} {K : List AV → Prop} (h : Ld H b e i K) : ∃ r cs, H.get b = some r ∧ r.e = e ∧ r.es[i]? = some cs ∧ K cs := by unfold Ld at h; exact h

/-- the load of a part of an element -/
theorem load_row (hT : TabOk P T) {H : Hp} (hs : Sat w H) {b : Addr} {e i f t : Nat} {K : AV → Prop} (h : Ld H b e i fun cs => partV (T.at t) cs f K) :
    ∃ v x, K v ∧ v.flat = true ∧ VR (bs w) v x ∧ (b.spot = none → (loadVar t (b.add (i * e + f))).run P w = .ok x w) := by
  obtain ⟨r, cs, hg, rfl, hi, h⟩ := Ld_elim h
  rcases hs.rows _ _ hg with ⟨hsp, he, c, E, fr, hb, hl, _, hc⟩ | ⟨_, hn⟩
  · obtain ⟨h1, h2, h3⟩ := hc i cs hi
    rw [← h1] at h3
    obtain ⟨v, x, hK, hfl, hv, hr⟩ := run_load hT (o := b.off + i * r.e) h h2 hb (by rw [h1] at *; exact h3)
    refine ⟨v, x, hK, hfl, hv, fun _ => ?_⟩
    rw [addr_mk hsp, ← Nat.add_assoc]; exact hr
  · rw [hn] at hi; simp at hi

theorem load_loc (hT : TabOk P T) {b : Nat} {cs : List AV} (hl : LocOk w b cs) {f t : Nat} {K : AV → Prop} (h : partV (T.at t) cs f K) :
    ∃ v x, K v ∧ v.flat = true ∧ VR (bs w) v x ∧ (loadVar t ⟨b, f, none⟩).run P w = .ok x w := by
  obtain ⟨c, E, fr, hb, hv, hc, _⟩ := hl
  have e : (c.toList.drop 0).take cs.length = c.toList := by rw [List.drop_zero, hv.length, List.take_length]
  obtain ⟨v, x, h1, h2, h3, h4⟩ := run_load hT (o := 0) h hc hb (by rw [e]; exact hv)
  exact ⟨v, x, h1, h2, h3, by simpa using h4⟩

theorem Whole_elim {H : Hp} {v : AV} {K : List (List AV) → Prop} (h : Whole H v K) : (v = .nils ∧ K []) ∨ ∃ b e o l r, v = .slice b e o l ∧ H.get b = some r ∧ r.e = e ∧ o + l ≤ r.es.length ∧ K ((r.es.drop o).take l) := by
  unfold Whole at h
  split at h
  · exact .inl ⟨rfl, h⟩
  · rename_i b e o l
    obtain ⟨r, h1, h2, h3, h4⟩ := h
    exact .inr ⟨b, e, o, l, r, rfl, h1, h2, h3, h4⟩
  · exact h.elim

/-- the cells of elements, one behind the other -/
theorem row_cells {B} {c : List Value} {e : Nat} : ∀ (es : List (List AV)) (o : Nat), (∀ (i : Nat) cs, es[i]? = some cs → cs.length = e ∧ VRs B cs ((c.drop (o + i * e)).take e)) →
    VRs B es.flatten ((c.drop o).take (es.length * e))
  | [], o, _ => by simp [VRs]
  | x :: r, o, h => by
    have h0 := h 0 x rfl
    have ih := row_cells r (o + e) (fun i cs hi => by
      have := h (i + 1) cs (by simpa using hi)
      rwa [show o + (i + 1) * e = o + e + i * e from by rw [Nat.add_mul]; omega] at this)
    have e1 : (c.drop o).take ((x :: r).length * e) = (c.drop o).take e ++ (c.drop (o + e)).take (r.length * e) := by
      rw [List.length_cons, Nat.add_mul, Nat.one_mul, Nat.add_comm, List.take_add, List.drop_drop]
    rw [e1, List.flatten_cons]
    exact VRs.append (by simpa using h0.2) ih

/-- what a slice's elements are in memory -/
theorem slice_cells {H : Hp} (hs : Sat w H) {b : Addr} {e o l : Nat} {r : Row} (hg : H.get b = some r) (he : r.e = e) (hl : o + l ≤ r.es.length) {v : Value} (hv : SlOk (bs w) b e o l v) :
    (∃ ad cap c E fr, v = .slice (some ad) l cap ∧ ad = ⟨b.block, b.off + o * e, none⟩ ∧ w.heap[b.block]? = some (.cells c E fr) ∧ l ≤ cap ∧ b.off + (o + cap) * e ≤ c.size ∧ VRs (bs w) ((r.es.drop o).take l).flatten ((c.toList.drop (b.off + o * e)).take (l * e))) ∨
    (l = 0 ∧ ∃ p, v = .slice p 0 0) := by
  rcases hv with ⟨hsp, cap, n, hv, h1, h2, h3⟩ | h
  · left
    rcases hs.rows _ _ hg with ⟨_, he0, c, E, fr, hb, hlen, _, hc⟩ | ⟨hn, _⟩
    · have hn : n = c.size := by unfold bs at h2; rw [hb] at h2; simpa using h2.symm
      subst hn
      refine ⟨_, cap, c, E, fr, hv, addr_mk hsp _, hb, h1, h3, ?_⟩
      have := row_cells (B := bs w) (c := c.toList) (e := e) ((r.es.drop o).take l) (b.off + o * e) (fun i cs hi => by
        have hi' : i < l := by
          rcases Nat.lt_or_ge i l with h' | h'
          · exact h'
          · rw [List.getElem?_eq_none (by simp; omega)] at hi; cases hi
        rw [List.getElem?_take_of_lt hi', List.getElem?_drop] at hi
        obtain ⟨x, y, z⟩ := hc _ _ hi
        rw [he] at x z
        refine ⟨x, ?_⟩
        rwa [show b.off + o * e + i * e = b.off + (o + i) * e from by rw [Nat.add_mul]; omega])
      have hll : ((r.es.drop o).take l).length = l := by simp; omega
      rwa [hll] at this
    · exact absurd hsp hn
  · exact .inr h

theorem flatten_bytes (l : List UInt8) : (l.map (fun b => [AV.int .u8 b.toNat])).flatten = l.map fun b => AV.int .u8 b.toNat := by
  induction l with
  | nil => rfl
  | cons x r ih => simp [ih]

theorem VRs_bytes {B} : ∀ {l : List UInt8} {vs : List Value}, VRs B (l.map fun b => AV.int .u8 b.toNat) vs → vs = (l.map fun b : UInt8 => (b.toNat : Int)).map (Value.int .u8)
  | [], [], _ => rfl
  | x :: l, v :: vs, h => by
    simp only [List.map_cons, VRs, VR] at h
    rw [h.1, VRs_bytes h.2]; rfl
  | [], _ :: _, h => by simp only [List.map_nil, VRs] at h
  | _ :: _, [], h => by simp only [List.map_cons, VRs] at h

theorem push_bytes : ∀ (l : List UInt8) (s : ByteArray), ((l.map fun b : UInt8 => (b.toNat : Int)).foldl (fun r n => r.push (UInt8.ofNat n.toNat)) s) = ⟨(s.data.toList ++ l).toArray⟩
  | [], s => by simp
  | x :: l, s => by
    simp only [List.map_cons, List.foldl_cons]
    rw [push_bytes l]
    simp [ByteArray.push]

theorem load_sound (hT : TabOk P T) (hr : RelD w0 H0 δ s a w) {o : Oper} {K : AV → Prop} (h : loadOp T s o K) :
    ∃ v x, K v ∧ ER δ (bs w) v x ∧ (execOp a.eval o).run P w = .ok (.value x) w := by
  obtain ⟨dst, op, type, pos, after, guard⟩ := o
  have h' := parts_elim (K := fun L H => _) h
  clear h
  simp only at h'
  split at h'
  · rename_i t x
    have hx := hr.ev x
    split at h'
    · rename_i b e i f ev
      rw [ev] at hx; simp only [ER, VR] at hx
      obtain ⟨v, y, h1, _, h2, h3⟩ := load_row hT hr.sat h'
      exact ⟨v, y, h1, .of_VR h2, by simp [execOp, Instr.loadAt, hx.2, Instr.sureAddr, h3 hx.1]⟩
    · rename_i d f ev
      rw [ev] at hx; simp only [ER] at hx
      split at h'
      · rename_i cs hl
        obtain ⟨v, y, h1, _, h2, h3⟩ := load_loc hT (hr.loc d cs hl).1 h'
        exact ⟨v, y, h1, .of_VR h2, by simp [execOp, Instr.loadAt, hx, Instr.sureAddr, h3]⟩
      · exact h'.elim
    · exact h'.elim
  · rename_i src dst x
    have hx := hr.ev x
    split at h'
    · rename_i u h1 h2
      split at h'
      · rename_i h3
        have hu1 := und_slice hT h1
        have hu2 := und_string hT h2
        have hu3 := und_int hT h3
        split at h'
        · rename_i hv
          rw [hv] at hx; simp only [ER, VR] at hx
          refine ⟨_, _, h', .of_VR (vr_str _), ?_⟩
          simp only [execOp, hx, Sem.run_bind, run_convert_bytes_string w _ _ _ none 0 0 hu1 hu3 hu2]
          rfl
        · rename_i b e o l hv
          rw [hv] at hx; simp only [ER, VR] at hx
          obtain ⟨he1, h'⟩ := ifB_elim h'
          have he1 := Nat.eq_of_beq_eq_true he1
          subst he1
          rcases Whole_elim h' with ⟨hv, hK⟩ | ⟨b', e', o', l', r, hv', hg, he, hl, hK⟩
          · cases hv
          injection hv' with e1 e2 e3 e4
          subst e1; subst e2; subst e3; subst e4
          unfold Bytes at hK
          obtain ⟨ys, hys, hK⟩ := hK
          refine ⟨_, _, hK, .of_VR (vr_str _), ?_⟩
          rcases slice_cells hr.sat hg he hl hx with ⟨ad, cap, c, E, fr, hv', had, hb, hcap, hsz', hcells⟩ | ⟨rfl, p, hv'⟩
          · rw [hys, flatten_bytes] at hcells
            have hb' := VRs_bytes hcells
            have hload : (loadCells ad l).run P w = .ok ((ys.map fun b : UInt8 => (b.toNat : Int)).map (Value.int .u8)).toArray w := by
              rw [← hb', had, Nat.mul_one, Nat.mul_one]
              exact run_loadCells_at hb (by omega)
            simp only [execOp, hv', Sem.run_bind, run_convert_bytes_string w _ _ _ (some ad) l cap hu1 hu3 hu2, run_bytesToString w ad l cap _ hload, push_bytes]
            simp
          · have : ys = [] := by
              have h2 := congrArg List.length hys
              simp at h2; exact List.length_eq_zero_iff.1 h2.symm
            subst this
            simp only [execOp, hv', Sem.run_bind, run_convert_bytes_string w _ _ _ p 0 0 hu1 hu3 hu2]
            cases p with
            | none => rfl
            | some ad => rw [run_bytesToString w ad 0 0 [] (by simp [loadCells, loadCellsFrom])]; rfl
        · exact h'.elim
      · exact h'.elim
    · exact h'.elim
  · exact h'.elim

end
end Go.Proofs.Ytdbedlomiedncaa.Vc
