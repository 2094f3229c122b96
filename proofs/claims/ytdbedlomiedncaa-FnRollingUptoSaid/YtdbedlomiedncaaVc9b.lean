/- Copies, clears, and appends of made elements: each does what its condition says. -/
import Derived.Test.YtdbedlomiedncaaVc9
namespace Go.Proofs.Ytdbedlomiedncaa.Vc
open Go

section
variable {P : Program} {T : Tab} {w0 : Base} {H0 : Hp} {δ : Nat → Nat} {s : St} {a : Act} {w : World} {esc : List Nat} {K : AV → St → Prop} {dst : Option Tmp} {type : TypeId} {pos : String} {after : Array Edge} {guard : Option (Nat × Bool)}

theorem Has_elim {H : Hp} {b : Addr} {K : Row → Prop} (h : Has H b K) : ∃ r, H.get b = some r ∧ K r := by unfold Has at h; exact h

theorem del_set' (h : Hp) (b : Addr) (r : Row) : (h.del b).set b r = h.set b r := by
  have e : ∀ (f g : Addr → Option Row), f = g → (⟨f⟩ : Hp) = ⟨g⟩ := fun _ _ e => by rw [e]
  refine e _ _ (funext fun x => ?_)
  simp only [Hp.del]; split <;> rfl

theorem set_self' (h : Hp) {b : Addr} {r : Row} (e : h.get b = some r) : h.set b r = h := by
  have e' : ∀ (f g : Addr → Option Row), f = g → (⟨f⟩ : Hp) = ⟨g⟩ := fun _ _ e => by rw [e]
  obtain ⟨g⟩ := h
  refine e' _ _ (funext fun x => ?_)
  simp only
  split
  · rename_i h; rw [h]; exact e.symm
  · rfl

theorem row_eta {r : Row} {e : Nat} (he : r.e = e) (ho : r.ro = false) : (⟨e, false, r.es⟩ : Row) = r := by
  obtain ⟨x, y, z⟩ := r; simp only at he ho; subst he; subst ho; rfl

/-- other elements in the place of some, or behind all -/
theorem patch_elems {B e off o} {es ys : List (List AV)} {cl nc : List Value} (hrow : ∀ (i : Nat) cs, es[i]? = some cs → cs.length = e ∧ allCells cs = true ∧ VRs B cs ((cl.drop (off + i * e)).take e))
    (hys : RowsR B e ys nc) (ho : o ≤ es.length) (hsz : off + (o + ys.length) * e ≤ cl.length) :
    ∀ (i : Nat) cs, (es.take o ++ ys ++ es.drop (o + ys.length))[i]? = some cs → cs.length = e ∧ allCells cs = true ∧ VRs B cs (((cl.take (off + o * e) ++ nc ++ cl.drop (off + o * e + nc.length)).drop (off + i * e)).take e) := by
  intro i cs hi
  have hn : nc.length = ys.length * e := hys.1
  have hto : (es.take o).length = o := by simp; omega
  have hoe : (o + ys.length) * e = o * e + ys.length * e := Nat.add_mul _ _ _
  have hple : off + o * e + nc.length ≤ cl.length := by omega
  have same : ∀ x, x + e ≤ off + o * e ∨ off + o * e + nc.length ≤ x → ((cl.take (off + o * e) ++ nc ++ cl.drop (off + o * e + nc.length)).drop x).take e = (cl.drop x).take e := by
    intro x hx
    apply List.ext_getElem?
    intro k
    rw [slice_get, slice_get, patch_get _ _ _ _ _ rfl hple]
    by_cases hk : k < e
    · rw [if_pos hk, if_pos hk]
      rcases hx with hx | hx
      · rw [if_pos (by omega)]
      · rw [if_neg (by omega), if_neg (by omega)]
    · rw [if_neg hk, if_neg hk]
  by_cases h1 : i < o
  · rw [List.append_assoc, List.getElem?_append_left (by omega), List.getElem?_take_of_lt h1] at hi
    obtain ⟨x, y, z⟩ := hrow i cs hi
    refine ⟨x, y, ?_⟩
    have : (i + 1) * e ≤ o * e := Nat.mul_le_mul_right _ h1
    rw [Nat.add_mul] at this
    rw [same _ (.inl (by omega))]; exact z
  · by_cases h2 : i < o + ys.length
    · rw [List.append_assoc, List.getElem?_append_right (by omega), hto, List.getElem?_append_left (by omega)] at hi
      obtain ⟨x, y, z⟩ := hys.2 _ cs hi
      refine ⟨x, y, ?_⟩
      have hio : i * e = o * e + (i - o) * e := by rw [← Nat.add_mul]; congr 1; omega
      have : (i - o + 1) * e ≤ ys.length * e := Nat.mul_le_mul_right _ (by omega)
      rw [Nat.add_mul] at this
      have e1 : ((cl.take (off + o * e) ++ nc ++ cl.drop (off + o * e + nc.length)).drop (off + i * e)).take e = (nc.drop ((i - o) * e)).take e := by
        apply List.ext_getElem?
        intro k
        rw [slice_get, slice_get, patch_get _ _ _ _ _ rfl hple]
        by_cases hk : k < e
        · rw [if_pos hk, if_pos hk, if_neg (by omega), if_pos (by omega)]
          congr 1; omega
        · rw [if_neg hk, if_neg hk]
      rw [e1]; exact z
    · have hl2 : (es.take o ++ ys).length = o + ys.length := by simp; omega
      rw [List.getElem?_append_right (by omega), hl2, List.getElem?_drop] at hi
      have e0 : o + ys.length + (i - (o + ys.length)) = i := by omega
      rw [e0] at hi
      obtain ⟨x, y, z⟩ := hrow i cs hi
      refine ⟨x, y, ?_⟩
      have : (o + ys.length) * e ≤ i * e := Nat.mul_le_mul_right _ (by omega)
      rw [same _ (.inr (by omega))]; exact z

/-- elements are written into a row -/
theorem put_elems (hr : RelD w0 H0 δ s a w) {b : Addr} {r : Row} {e o : Nat} {ys : List (List AV)} {nc : Array Value} (hg : s.hp.get b = some r) (hre : r.e = e) (hro : r.ro = false) {c : Array Value} {E : TypeId} {fr : Nat × Nat}
    (hbl : w.heap[b.block]? = some (.cells c E fr)) (hs : b.spot = none) (ho : o ≤ r.es.length) (hsz : b.off + (o + ys.length) * e ≤ c.size) (hys : ∀ (i : Nat) cs, ys[i]? = some cs → cs.length = e ∧ allCells cs = true) (hnc : VRs (bs w) ys.flatten nc.toList) :
    ∃ w', (storeCells ⟨b.block, b.off + o * e, none⟩ nc.toList).run P w = .ok () w' ∧ RelD w0 H0 δ { s with hp := s.hp.set b ⟨e, false, r.es.take o ++ ys ++ r.es.drop (o + ys.length)⟩ } a w' := by
  rcases hr.sat.rows _ _ hg with ⟨hsp, he0, c2, E2, fr2, hb2, hlr, hfr, hc2⟩ | ⟨hsp, hes⟩
  · rw [hbl] at hb2; injection hb2 with hb2; injection hb2 with q1 q2 q3; subst q1; subst q2; subst q3
    have hR := RowsR.of_flat hys hnc
    have hncl : nc.toList.length = ys.length * e := hR.1
    have hoe : (o + ys.length) * e = o * e + ys.length * e := Nat.add_mul _ _ _
    have hst := run_storeCells (P := P) b.block (b.off + o * e) E fr nc.toList 0 c w hbl (fun j hj => hfr hro j (Nat.le_of_lt hj)) (by omega) (VRs.oneCell (flat_cells hys) hnc)
    rw [Nat.add_zero] at hst
    have hcs : (c.toList.take (b.off + o * e) ++ nc.toList ++ c.toList.drop (b.off + o * e + nc.toList.length)).toArray.size = c.size := by
      simp only [List.size_toArray, List.length_append, List.length_take, List.length_drop, Array.length_toList, hncl]
      omega
    refine ⟨_, hst, ?_⟩
    rw [← del_set']
    refine hr.step (Fr.rebase hg hro hs rfl hbl hcs) (hr.sat.rebase hg hro hs hs rfl hbl hcs (fun w' hbs hw' => ?_))
    refine ⟨hs, by rw [← hre]; exact he0, _, _, _, hw', ?_, fun _ i hi => hfr hro i (by rw [hcs] at hi; exact hi), ?_⟩
    · rw [hcs]
      simp only [List.length_append, List.length_take, List.length_drop]
      rcases Nat.lt_or_ge r.es.length (o + ys.length) with h | h
      · have h1 : min o r.es.length + ys.length + (r.es.length - (o + ys.length)) = o + ys.length := by omega
        rw [h1]; omega
      · have h1 : min o r.es.length + ys.length + (r.es.length - (o + ys.length)) = r.es.length := by omega
        rw [h1, ← hre]; exact hlr
    · rw [hbs]
      have := patch_elems (B := bs w) (e := e) (off := b.off) (o := o) (es := r.es) (cl := c.toList) (by rw [hre] at hc2; exact hc2) hR ho (by simpa using hsz)
      simpa using this
  · exact absurd hs hsp

theorem run_call_copy (tys : Array TypeId) (args : Array Operand) (v : Value) (w w' : World) (h : (Builtin.copy_ tys type (args.map a.eval)).run P w = .ok v w') :
    (execOp a.eval ⟨dst, .call ⟨.builtin .copy, args, tys⟩, type, pos, after, guard⟩).run P w = .ok (.value v) w' := by
  simp [execOp, resolve, invoke, builtin, h]

theorem ms_copy (hT : TabOk P T) (hr : RelD w0 H0 δ s a w) {args : Array Operand} {tys : Array TypeId} (h : mutOp (AC P) T esc s ⟨dst, .call ⟨.builtin .copy, args, tys⟩, type, pos, after, guard⟩ K) :
    OpRuns P ⟨dst, .call ⟨.builtin .copy, args, tys⟩, type, pos, after, guard⟩ a w (After w0 H0 a K) := by
  have h' := parts_elim (K := fun L H => _) h
  clear h
  simp only at h'
  split at h'
  · rename_i t t' x y htys hargs
    have htys : tys = #[t, t'] := by cases tys; simp_all
    have hargs : args = #[x, y] := by cases args; simp_all
    subst htys; subst hargs
    split at h'
    · rename_i u hd
      obtain ⟨hok, h'⟩ := ifB_elim h'
      have hx := hr.ev x
      have hy := hr.ev y
      have hsr := (hT.get hok).sizeOf w
      have hu := run_underlying (P := P) (und_slice hT hd) w
      split at h'
      · rename_i b e o l b' e' o' l' ex ey
        rw [ex] at hx; rw [ey] at hy; simp only [ER, VR] at hx hy
        obtain ⟨he, h'⟩ := ifB_elim h'
        simp only [Bool.and_eq_true] at he
        obtain ⟨he1, he2⟩ := he
        have he1 := Nat.eq_of_beq_eq_true he1
        have he2 := Nat.eq_of_beq_eq_true he2
        subst he2
        obtain ⟨r, hg, hre, hro, h'⟩ := Over_elim h'
        obtain ⟨r', hg', h'⟩ := Has_elim h'
        obtain ⟨⟨hre', ho, ho'⟩, h'⟩ := Must_elim h'
        have hK := setH_elim h'
        have hlx : ∃ bx cx, a.eval x = .slice bx l cx := by rcases hx with ⟨_, cap, n, hx, _⟩ | ⟨h0, q, hx⟩; exact ⟨_, _, hx⟩; exact ⟨_, _, by rw [hx, h0]⟩
        have hly : ∃ bx cx, a.eval y = .slice bx l' cx := by rcases hy with ⟨_, cap, n, hx, _⟩ | ⟨h0, q, hx⟩; exact ⟨_, _, hx⟩; exact ⟨_, _, by rw [hx, h0]⟩
        obtain ⟨bx, cx, hlx⟩ := hlx
        obtain ⟨by', cy, hly⟩ := hly
        have hmin : Nat.min l' l = min l l' := Nat.min_comm _ _
        by_cases h0 : min l l' = 0
        · refine .inl ⟨.int .i64 ((min l l' : Nat) : Int), w, run_call_copy _ _ _ _ _ ?_, _, _, δ, hK, .of_VR (by simp only [VR]), ?_⟩
          · simp only [Builtin.copy_]
            simp only [List.map_toArray, List.map_cons, List.map_nil, List.getElem?_toArray, List.getElem?_cons_zero, List.getElem?_cons_succ, hlx, hly]
            have hf : (Builtin.firstCells (T.at u).size 0 (.slice by' l' cy)).run P w = .ok #[] w := by
              cases by' <;> simp [Builtin.firstCells, loadCells, loadCellsFrom]
            cases bx <;> simp [hu, hsr, Builtin.lenOf, hmin, h0, hf, storeCells, goInt]
          · rw [h0]
            have e1 : r.es.take o ++ (r'.es.drop o').take 0 ++ r.es.drop (o + 0) = r.es := by simp
            rw [e1, row_eta hre hro, set_self' _ hg]
            exact hr
        · rcases hx with ⟨hs, cap, n, hx, hc, hB, hn⟩ | ⟨hl0, _⟩
          rotate_left
          · exact absurd (by omega) h0
          rcases hy with ⟨hs', cap', n', hy, hc', hB', hn'⟩ | ⟨hl0, _⟩
          rotate_left
          · exact absurd (by omega) h0
          rcases hr.sat.rows _ _ hg with ⟨_, he0, c, E, fr, hb, hlr, hfr, hc2⟩ | ⟨hsp, hes⟩
          rotate_left
          · exact absurd hs hsp
          rcases hr.sat.rows _ _ hg' with ⟨_, he0', c3, E3, fr3, hb3, hlr3, hfr3, hc3⟩ | ⟨hsp, hes⟩
          rotate_left
          · exact absurd hs' hsp
          have hn0 : n = c.size := by unfold bs at hB; rw [hb] at hB; simpa using hB.symm
          subst hn0
          have hye : ∀ (i : Nat) cs, ((r'.es.drop o').take (min l l'))[i]? = some cs → cs.length = e' ∧ allCells cs = true := by
            have := elems_of hr.sat hg' o' (min l l'); rw [hre'] at this; exact this
          have hyl : ((r'.es.drop o').take (min l l')).length = min l l' := by simp; omega
          have hcells := row_cells (B := bs w) (c := c3.toList) (e := e') ((r'.es.drop o').take (min l l')) (b'.off + o' * e') (fun i cs hi => by
            have hi' : i < min l l' := by
              rcases Nat.lt_or_ge i (min l l') with h' | h'
              · exact h'
              · rw [List.getElem?_eq_none (by omega)] at hi; cases hi
            rw [List.getElem?_take_of_lt hi', List.getElem?_drop] at hi
            obtain ⟨x, y, z⟩ := hc3 _ _ hi
            rw [hre'] at x z
            refine ⟨x, ?_⟩
            rwa [show b'.off + o' * e' + i * e' = b'.off + (o' + i) * e' from by rw [Nat.add_mul]; omega])
          rw [hyl] at hcells
          have hfit : b'.off + o' * e' + min l l' * e' ≤ c3.size := by
            have : (o' + min l l') * e' ≤ r'.es.length * e' := Nat.mul_le_mul_right _ ho'
            rw [Nat.add_mul] at this; rw [hre'] at hlr3; omega
          have hf : (Builtin.firstCells (T.at u).size (min l l') (a.eval y)).run P w = .ok ((c3.toList.drop (b'.off + o' * e')).take (min l l' * e')).toArray w := by
            rw [hy, addr_mk hs', ← he1]
            exact run_loadCells_at (E := E3) (fr := fr3) hb3 hfit
          obtain ⟨w', hst, hr'⟩ := put_elems (P := P) (o := o) hr hg hre hro hb hs ho (by
            rw [hyl]
            have : (o + min l l') * e' ≤ (o + cap) * e' := Nat.mul_le_mul_right _ (by omega)
            omega) hye hcells
          refine .inl ⟨.int .i64 ((min l l' : Nat) : Int), w', run_call_copy _ _ _ _ _ ?_, _, _, δ, hK, .of_VR (by simp only [VR]), by rw [hyl] at hr'; exact hr'⟩
          simp only [Builtin.copy_]
          simp only [List.map_toArray, List.map_cons, List.map_nil, List.getElem?_toArray, List.getElem?_cons_zero, List.getElem?_cons_succ]
          rw [hly] at hf ⊢
          rw [hx, addr_mk hs]
          simp at hst
          simp [hu, hsr, Builtin.lenOf, hmin, hf, hst, goInt]
      · exact h'.elim
    · exact h'.elim
  · exact h'.elim

theorem run_call_clear (tys : Array TypeId) (args : Array Operand) (v : Value) (w w' : World) (h : (Builtin.clear_ tys type (args.map a.eval)).run P w = .ok v w') :
    (execOp a.eval ⟨dst, .call ⟨.builtin .clear, args, tys⟩, type, pos, after, guard⟩).run P w = .ok (.value v) w' := by
  simp [execOp, resolve, invoke, builtin, h]

theorem VRs_of_RowsR {B e} : ∀ {es : List (List AV)} {cl : List Value}, RowsR B e es cl → VRs B es.flatten cl := by
  intro es cl h
  have := row_cells (B := B) (c := cl) (e := e) es 0 (fun i cs hi => by
    obtain ⟨x, _, z⟩ := h.2 i cs hi
    exact ⟨x, by rw [Nat.zero_add]; exact z⟩)
  rw [List.drop_zero, ← h.1, List.take_length] at this
  exact this

theorem ms_clear (hT : TabOk P T) (hr : RelD w0 H0 δ s a w) {args : Array Operand} {tys : Array TypeId} (h : mutOp (AC P) T esc s ⟨dst, .call ⟨.builtin .clear, args, tys⟩, type, pos, after, guard⟩ K) :
    OpRuns P ⟨dst, .call ⟨.builtin .clear, args, tys⟩, type, pos, after, guard⟩ a w (After w0 H0 a K) := by
  have h' := parts_elim (K := fun L H => _) h
  clear h
  simp only at h'
  split at h'
  · rename_i t x htys hargs
    have htys : tys = #[t] := by cases tys; simp_all
    have hargs : args = #[x] := by cases args; simp_all
    subst htys; subst hargs
    split at h'
    · rename_i u hd
      obtain ⟨hok, h'⟩ := ifB_elim h'
      have hx := hr.ev x
      obtain ⟨i0, z, hi0, hsz, hby, hz, hzv, hzc, hzl⟩ := (hT.get hok).info
      have hzr : (zeroValue u).run P w = .ok z w := by unfold zeroValue typeInfo; simp [hi0, hz]
      have hzs : z.cells.size = (T.at u).size := by have := (hzv (bs w)).length; rw [hzl] at this; simpa using this.symm
      have hu := run_underlying (P := P) (und_slice hT hd) w
      split at h'
      · rename_i b e o l ex
        rw [ex] at hx; simp only [ER, VR] at hx
        obtain ⟨he1, h'⟩ := ifB_elim h'
        have he1 := Nat.eq_of_beq_eq_true he1
        obtain ⟨r, hg, hre, hro, h'⟩ := Over_elim h'
        obtain ⟨ho, h'⟩ := Must_elim h'
        have hK := setH_elim h'
        by_cases h0 : l = 0
        · subst h0
          refine .inl ⟨.tuple #[], w, run_call_clear _ _ _ _ _ ?_, _, _, δ, hK, .of_VR (by simp only [VR]; exact ⟨#[], rfl, by simp only [VRs]⟩), ?_⟩
          · have : ∃ bx cx, a.eval x = .slice bx 0 cx := by rcases hx with ⟨_, cap, n, hx, _⟩ | ⟨h0, q, hx⟩; exact ⟨_, _, hx⟩; exact ⟨_, _, hx⟩
            obtain ⟨bx, cx, hlx⟩ := this
            simp only [Builtin.clear_]
            simp only [List.map_toArray, List.map_cons, List.map_nil, List.getElem?_toArray, List.getElem?_cons_zero, hlx]
            cases bx <;> simp [hu]
          · have e1 : r.es.take o ++ List.replicate 0 (T.at u).zero ++ r.es.drop (o + 0) = r.es := by simp
            rw [e1, row_eta hre hro, set_self' _ hg]
            exact hr
        · rcases hx with ⟨hs, cap, n, hx, hc, hB, hn⟩ | ⟨hl0, _⟩
          rotate_left
          · exact absurd hl0 h0
          rcases hr.sat.rows _ _ hg with ⟨_, he0, c, E, fr, hb, hlr, hfr, hc2⟩ | ⟨hsp, hes⟩
          rotate_left
          · exact absurd hs hsp
          have hn0 : n = c.size := by unfold bs at hB; rw [hb] at hB; simpa using hB.symm
          subst hn0
          have hrow := zeros_row (n := l) (es := List.replicate l (T.at u).zero) (hzv (bs w)) hzc hzl (by simp) (fun i cs hi => by simp [List.getElem?_replicate] at hi; exact hi.2.symm)
          have hze : Builtin.zeroCells z.cells l = (Array.range (l * (T.at u).size)).map (z.cells[· % z.cells.size]!) := by unfold Builtin.zeroCells; rw [hzs]
          obtain ⟨w', hst, hr'⟩ := put_elems (P := P) (o := o) (nc := Builtin.zeroCells z.cells l) (ys := List.replicate l (T.at u).zero) hr hg hre hro hb hs (by omega) (by
            rw [List.length_replicate]
            have : (o + l) * e ≤ (o + cap) * e := Nat.mul_le_mul_right _ (by omega)
            omega) (fun i cs hi => by
              simp [List.getElem?_replicate] at hi; obtain ⟨_, rfl⟩ := hi; exact ⟨by rw [hzl, he1], hzc⟩) (by rw [hze]; exact VRs_of_RowsR hrow)
          rw [List.length_replicate] at hr'
          refine .inl ⟨.tuple #[], w', run_call_clear _ _ _ _ _ ?_, _, _, δ, hK, .of_VR (by simp only [VR]; exact ⟨#[], rfl, by simp only [VRs]⟩), hr'⟩
          simp only [Builtin.clear_]
          simp only [List.map_toArray, List.map_cons, List.map_nil, List.getElem?_toArray, List.getElem?_cons_zero]
          obtain ⟨m, rfl⟩ : ∃ m, l = m + 1 := ⟨l - 1, by omega⟩
          rw [hx, addr_mk hs]
          simp [hu, hzr, hst]
      · rename_i ex
        rw [ex] at hx; simp only [ER, VR] at hx
        refine .inl ⟨.tuple #[], w, run_call_clear _ _ _ _ _ ?_, _, _, δ, h', .of_VR (by simp only [VR]; exact ⟨#[], rfl, by simp only [VRs]⟩), hr⟩
        simp only [Builtin.clear_]
        simp only [List.map_toArray, List.map_cons, List.map_nil, List.getElem?_toArray, List.getElem?_cons_zero, hx]
        simp [hu]
      · exact h'.elim
    · exact h'.elim
  · exact h'.elim

theorem ms_appendInt (hT : TabOk P T) (hr : RelD w0 H0 δ s a w) {args : Array Operand} {t t' : TypeId} {k' : IntKind} (hd' : (T.at t').desc = .int k') (h : mutOp (AC P) T esc s ⟨dst, .call ⟨.builtin .append, args, #[t, t']⟩, type, pos, after, guard⟩ K) :
    OpRuns P ⟨dst, .call ⟨.builtin .append, args, #[t, t']⟩, type, pos, after, guard⟩ a w (After w0 H0 a K) := by
  have h' := parts_elim (K := fun L H => _) h
  clear h
  simp only at h'
  split at h'
  · rename_i t1 t1' x y htys hargs
    have hargs : args = #[x, y] := by cases args; simp_all
    subst hargs
    injection htys with e1 htys; injection htys with e2 _
    subst e1; subst e2
    rw [hd'] at h'
    simp only at h'
    split at h'
    · rename_i u hd
      obtain ⟨hok, h'⟩ := ifB_elim h'
      have hx := hr.evC x
      have hy := hr.ev y
      split at h'
      · rename_i b e p n c ex
        rw [ex] at hx; simp only [ER, VR] at hx
        obtain ⟨he1, h'⟩ := ifB_elim h'
        have he1 := Nat.eq_of_beq_eq_true he1
        obtain ⟨k1, k, ey, h'⟩ := intOf_elim h'
        rw [ey] at hy; simp only [ER, VR] at hy
        obtain ⟨⟨hk0, hgr, hb⟩, h'⟩ := Must_elim h'
        obtain ⟨m, rfl⟩ : ∃ m : Nat, k = (m : Int) := ⟨k.toNat, by omega⟩
        simp only [Int.toNat_natCast] at hgr hb h'
        obtain ⟨i0, z, hi0, hsz, hby, hz, hzv, hzc, hzl⟩ := (hT.get hok).info
        have hzr : ∀ w : World, (zeroValue u).run P w = .ok z w := fun w => by unfold zeroValue typeInfo; simp [hi0, hz]
        have hti : ∀ w : World, (typeInfo u).run P w = .ok i0 w := fun w => by unfold typeInfo; simp [hi0]
        have hsr := (hT.get hok).sizeOf w
        have hbp := (hT.get hok).bpos
        have hpos := (hT.get hok).pos
        have hzs : z.cells.size = (T.at u).size := by have := (hzv (bs w)).length; rw [hzl] at this; simpa using this.symm
        have hfit := growslice_fits hgr hb
        have hneed : n + m ≤ 140737488355328 := Nat.le_trans (Nat.le_mul_of_pos_right _ hbp) hb
        have hmb : m * (T.at u).bytes ≤ 140737488355328 := Nat.le_trans (Nat.mul_le_mul_right _ (by omega)) hb
        have hu := run_underlying (P := P) (und_slice hT hd) w
        have hu' := run_underlying (P := P) (und_int hT hd') w
        have hne : m ≠ 0 ∨ c < n := by omega
        have old : ∃ bx oc, a.eval x = .slice bx n c ∧ (∀ w1 : World, w1.heap = w.heap → (Builtin.firstCells (T.at u).size n (.slice bx n c)).run P w1 = .ok oc w1) ∧ ∃ xs, VRs (bs w) xs.flatten oc.toList ∧ (∀ (i : Nat) cs, xs[i]? = some cs → cs.length = e ∧ allCells cs = true) ∧ xs.length = n ∧
            New s.hp fun b => s.setH (s.hp.set b { e := e, ro := false, es := xs ++ List.replicate m (T.at u).zero }) (K (AV.slice b e 0 (n + m))) := by
          rcases Whole_elim h' with ⟨hv, _⟩ | ⟨b', e', o', l', r, hv, hg, hre, hl, hK⟩
          · cases hv
          · injection hv with q1 q2 q3 q4
            subst q1; subst q2; subst q3; subst q4
            have hel : ∀ (i : Nat) cs, ((r.es.drop p).take n)[i]? = some cs → cs.length = e ∧ allCells cs = true := by
              have := elems_of hr.sat hg p n; rw [hre] at this; exact this
            have hxl : ((r.es.drop p).take n).length = n := by simp; omega
            rcases hx with ⟨hs, q, hx, hc, hB, hn⟩ | ⟨hl0, hc0, q, hx⟩
            · have hx' : SlOk (bs w) b e p n (a.eval x) := .inl ⟨hs, c, q, hx, hc, hB, hn⟩
              rcases slice_cells hr.sat hg hre hl hx' with ⟨ad, cap, c2, E, fr, hxv, had, hbl, hcap, hsz, hcells⟩ | ⟨hn0, q, hxv⟩
              · rw [hx] at hxv
                injection hxv with q1 q2 q3
                refine ⟨_, _, hx, fun w1 hw1 => ?_, _, hcells, hel, hxl, hK⟩
                rw [q1]
                simp only [Builtin.firstCells, had]
                rw [← he1]
                refine run_loadCells_at (E := E) (fr := fr) (by rw [hw1]; exact hbl) ?_
                have : (p + n) * e ≤ (p + cap) * e := Nat.mul_le_mul_right _ (by omega)
                rw [Nat.add_mul] at this; omega
              · rw [hx] at hxv; injection hxv with q1 q2 q3
                refine ⟨_, #[], hx, fun w1 hw1 => ?_, _, ?_, hel, hxl, hK⟩
                · rw [hn0]; simp [Builtin.firstCells, loadCells, loadCellsFrom]
                · rw [hn0]; simp [VRs]
            · refine ⟨q, #[], by rw [hx, hl0, hc0], fun w1 hw1 => ?_, _, ?_, hel, hxl, hK⟩
              · rw [hl0]; cases q <;> simp [Builtin.firstCells, loadCells, loadCellsFrom]
              · rw [hl0]; simp [VRs]
        obtain ⟨bx, oc, hxv, hfo, xs, hoc, hel, hxl, hK0⟩ := old
        let q := (Question.appendCap (n + m) c u).cut (w.tape w.drawn (.appendCap (n + m) c u))
        have hq : n + m ≤ q := by simp only [q, Question.cut]; omega
        have hrow := zeros_row (B := bs w) (n := m) (es := List.replicate m (T.at u).zero) (hzv (bs w)) hzc hzl (by simp) (fun i cs hi => by simp [List.getElem?_replicate] at hi; exact hi.2.symm)
        have hze : Builtin.zeroCells z.cells m = (Array.range (m * (T.at u).size)).map (z.cells[· % z.cells.size]!) := by unfold Builtin.zeroCells; rw [hzs]
        let nc : Array Value := if m * (T.at u).size = 0 then #[] else Builtin.zeroCells z.cells m
        have hnc : VRs (bs w) (List.replicate m (T.at u).zero).flatten nc.toList := by
          simp only [nc]
          split
          · rename_i h0
            have hm0 : m = 0 := by rcases Nat.mul_eq_zero.1 h0 with h | h; exact h; omega
            subst hm0; simp [VRs]
          · rw [hze]; exact VRs_of_RowsR hrow
        have hel2 := elems_append hel (ys := List.replicate m (T.at u).zero) (fun i cs hi => by simp [List.getElem?_replicate] at hi; obtain ⟨_, rfl⟩ := hi; exact ⟨by rw [hzl, he1], hzc⟩)
        have hall := RowsR.of_flat hel2 (by rw [List.flatten_append]; exact hoc.append hnc)
        have hlen : (oc.toList ++ nc.toList).length = (n + m) * e := by rw [hall.1, List.length_append, hxl, List.length_replicate]
        have hlen' : oc.size + nc.size = (n + m) * e := by simpa using hlen
        have hK := setH_elim (New_elim hK0 _ (fresh_block hr.sat))
        have hr1 := after_push' hr (w1 := { w with drawn := w.drawn + 1 }) rfl rfl rfl rfl
        have o1 := hfo w.drew rfl
        have z1 := hzr w.drew
        have w1 : IntKind.i64.wrap (m : Int) = (m : Int) := wrap64_in (by omega) (by omega)
        have h1 : ¬ (n + m ≤ c) := by omega
        have h2 : ¬ (9223372036854775807 < (n : Int) + (m : Int)) := by omega
        have h3 : ¬ (281474976710656 < Builtin.nextslicecap (n + m) c * i0.bytes) := by rw [hby]; omega
        have h5 : ¬ (281474976710656 < (m : Int) * (i0.bytes : Int)) := by rw [hby]; have := hmb; omega
        have h4 : (Question.appendCap (n + m) c u).forced = false := rfl
        have hrun : (Builtin.append_ #[t, t'] type #[a.eval x, a.eval y]).run P w = .ok (.slice (some ⟨w.heap.size, 0, none⟩) (n + m) q) (pushB { w with drawn := w.drawn + 1 } (.cells (oc ++ nc ++ Builtin.zeroCells z.cells (q - (n + m))) u (0, 0))) := by
          unfold Builtin.append_
          simp only [List.getElem?_toArray, List.getElem?_cons_zero, List.getElem?_cons_succ, hxv, hy]
          by_cases h0 : m * (T.at u).size = 0
          · simp [hu, hsr, hu', asInt, asIntOf, w1, h1, hti, h2, h3, h4, h5, o1, z1, h0, newRow, pushB, q, nc]
            rfl
          · simp [hu, hsr, hu', asInt, asIntOf, w1, h1, hti, h2, h3, h4, h5, o1, z1, h0, newRow, pushB, q, nc]
            rfl
        refine .inl ⟨_, _, run_call_append _ _ _ _ _ (by simpa using hrun), _, _, δ, hK, .of_VR ?_, after_push hr1 (by rw [he1]; exact hpos) ?_ (fun _ i _ h => by omega) (fun i cs hi => ?_)⟩
        · simp only [VR]; left
          refine ⟨rfl, q, _, by simp [Addr.add], hq, bs_new _ _ _ _, ?_⟩
          have h1 : (n + m) * e ≤ q * e := Nat.mul_le_mul_right _ hq
          have h2 : (q - (n + m)) * e = q * e - (n + m) * e := Nat.sub_mul _ _ _
          simp [Builtin.zeroCells, hzs, ← he1, h2]
          omega
        · simp only [List.length_append, hxl, List.length_replicate, Array.size_append]
          omega
        · have := hall.inside (L := (oc ++ nc ++ Builtin.zeroCells z.cells (q - (n + m))).toList) (off := 0) (by rw [List.drop_zero, Array.toList_append, Array.toList_append, List.take_append_of_le_length (Nat.le_refl _), List.take_length]) i cs hi
          rw [Nat.zero_add, Array.append_assoc] at this
          exact this
      · exact h'.elim
    · exact h'.elim
  · exact h'.elim

end
end Go.Proofs.Ytdbedlomiedncaa.Vc
