/- Appends and calls: each operation that makes or changes memory does what its condition says; all of them together. -/
import Derived.Test.YtdbedlomiedncaaVc8
namespace Go.Proofs.Ytdbedlomiedncaa.Vc
open Go

section
variable {P : Program} {T : Tab} {w0 : Base} {H0 : Hp} {δ : Nat → Nat} {s : St} {a : Act} {w : World} {esc : List Nat} {K : AV → St → Prop} {dst : Option Tmp} {type : TypeId} {pos : String} {after : Array Edge} {guard : Option (Nat × Bool)}

/-- elements, by their cells -/
theorem RowsR.of_flat {B e} : ∀ {es : List (List AV)} {cl : List Value}, (∀ (i : Nat) cs, es[i]? = some cs → cs.length = e ∧ allCells cs = true) → VRs B es.flatten cl → RowsR B e es cl
  | [], cl, _, h => by
    cases cl with
    | nil => exact ⟨by simp, fun i cs hi => by simp at hi⟩
    | cons _ _ => simp only [List.flatten_nil, VRs] at h
  | x :: r, cl, hc, h => by
    obtain ⟨h1, h2⟩ := hc 0 x rfl
    rw [List.flatten_cons] at h
    have hl : x.length + r.flatten.length = cl.length := by have := h.length; simpa using this
    have ht := h.take e
    have hd := h.drop e
    rw [List.take_append_of_le_length (by omega), List.take_of_length_le (by omega)] at ht
    rw [List.drop_append_of_le_length (by omega), List.drop_of_length_le (by omega), List.nil_append] at hd
    obtain ⟨i1, i2⟩ := RowsR.of_flat (es := r) (cl := cl.drop e) (fun i cs hi => hc (i + 1) cs (by simpa using hi)) hd
    refine ⟨?_, fun i cs hi => ?_⟩
    · rw [List.length_cons, Nat.add_mul, Nat.one_mul, ← i1, List.length_drop]; omega
    · cases i with
      | zero => simp at hi; subst hi; exact ⟨h1, h2, by simpa using ht⟩
      | succ i =>
        obtain ⟨j1, j2, j3⟩ := i2 i cs (by simpa using hi)
        refine ⟨j1, j2, ?_⟩
        rw [List.drop_drop] at j3
        rwa [show (i + 1) * e = e + i * e from by rw [Nat.add_mul]; omega]

theorem flat_len {e : Nat} : ∀ {es : List (List AV)}, (∀ (i : Nat) cs, es[i]? = some cs → cs.length = e ∧ allCells cs = true) → es.flatten.length = es.length * e
  | [], _ => by simp
  | x :: r, h => by
    rw [List.flatten_cons, List.length_append, (h 0 x rfl).1, flat_len (es := r) (fun i cs hi => h (i + 1) cs (by simpa using hi)), List.length_cons, Nat.add_mul]; omega

theorem flat_cells {e : Nat} : ∀ {es : List (List AV)}, (∀ (i : Nat) cs, es[i]? = some cs → cs.length = e ∧ allCells cs = true) → allCells es.flatten = true
  | [], _ => rfl
  | x :: r, h => by
    rw [List.flatten_cons, allCells_append, (h 0 x rfl).2, flat_cells (es := r) (fun i cs hi => h (i + 1) cs (by simpa using hi))]; rfl

/-- the elements that are added: what firstCells reads -/
def Added (P : Program) (w : World) (e : Nat) (y : Value) (ys : List (List AV)) : Prop :=
  (∀ (i : Nat) cs, ys[i]? = some cs → cs.length = e ∧ allCells cs = true) ∧ (Builtin.lenOf y).run P w = .ok ys.length w ∧
  ∃ nc : Array Value, VRs (bs w) ys.flatten nc.toList ∧ ∀ w1 : World, w1.heap = w.heap → (Builtin.firstCells e ys.length y).run P w1 = .ok nc w1

theorem added_slice (hs : Sat w s.hp) {b : Addr} {e o l : Nat} {r : Row} (hg : s.hp.get b = some r) (he : r.e = e) (hl : o + l ≤ r.es.length) {v : Value} (hv : SlOk (bs w) b e o l v) : Added P w e v ((r.es.drop o).take l) := by
  have hel : ∀ (i : Nat) cs, ((r.es.drop o).take l)[i]? = some cs → cs.length = e ∧ allCells cs = true := by
    intro i cs hi
    have hi' : i < l := by
      rcases Nat.lt_or_ge i l with h' | h'
      · exact h'
      · rw [List.getElem?_eq_none (by simp; omega)] at hi; cases hi
    rw [List.getElem?_take_of_lt hi', List.getElem?_drop] at hi
    rcases hs.rows _ _ hg with ⟨_, _, c, E, fr, _, _, _, hc⟩ | ⟨_, hn⟩
    · obtain ⟨x, y, _⟩ := hc _ _ hi; exact ⟨by rw [x, he], y⟩
    · rw [hn] at hi; simp at hi
  have hll : ((r.es.drop o).take l).length = l := by simp; omega
  refine ⟨hel, ?_, ?_⟩
  · rw [hll]; rcases hv with ⟨_, cap, n, rfl, _⟩ | ⟨rfl, p, rfl⟩ <;> rfl
  · rcases slice_cells hs hg he hl hv with ⟨ad, cap, c, E, fr, rfl, had, hb, hcap, hsz, hcells⟩ | ⟨rfl, p, rfl⟩
    · refine ⟨_, hcells, fun w1 hw1 => ?_⟩
      rw [hll]
      simp only [Builtin.firstCells, had]
      refine run_loadCells_at (E := E) (fr := fr) (by rw [hw1]; exact hb) ?_
      have : (o + l) * e ≤ (o + cap) * e := Nat.mul_le_mul_right _ (by omega)
      rw [Nat.add_mul] at this; omega
    · refine ⟨#[], by simp [VRs], fun w1 _ => ?_⟩
      cases p <;> simp [Builtin.firstCells, loadCells, loadCellsFrom]

theorem added_str {l : List UInt8} : Added P w 1 (.string ⟨l.toArray⟩) (strCells l) := by
  have hl : (strCells l).length = l.length := by simp [strCells]
  refine ⟨fun i cs hi => ?_, by rw [hl]; simp [Builtin.lenOf, size_mk], (l.toArray.map fun b => .int .u8 b.toNat), ?_, fun w1 _ => ?_⟩
  · simp only [strCells, List.getElem?_map] at hi
    cases hl : l[i]? with
    | none => rw [hl] at hi; cases hi
    | some b => rw [hl] at hi; simp at hi; subst hi; exact ⟨rfl, rfl⟩
  · rw [show strCells l = l.map (fun b => [AV.int .u8 b.toNat]) from rfl, flatten_bytes]
    simp only [Array.toList_map]
    clear hl
    induction l with
    | nil => simp [VRs]
    | cons x r ih => simp only [List.map_cons, VRs, VR, true_and]; exact ih
  · rw [hl]
    have : (⟨l.toArray⟩ : ByteArray).extract 0 l.length = ⟨l.toArray⟩ := by rw [extract_mk]; simp
    simp only [Builtin.firstCells, this, Sem.run_pure]

theorem added_nil {e : Nat} : Added P w e (.slice none 0 0) [] :=
  ⟨fun i cs hi => by simp at hi, rfl, #[], by simp [VRs], fun w1 _ => rfl⟩


theorem run_notZeros (hT : TabOk P T) {t' : Nat} (h : (match (T.at t').desc with | .slice _ => true | .string => true | _ => false) = true) : (∀ w : World, (underlying t').run P w = .ok .string w) ∨ ∃ u', ∀ w : World, (underlying t').run P w = .ok (.slice u') w := by
  split at h
  · rename_i u hd; exact .inr ⟨_, fun w => run_underlying (und_slice hT hd) w⟩
  · rename_i hd; exact .inl fun w => run_underlying (und_string hT hd) w
  · cases h

theorem run_append_grow (hT : TabOk P T) {u t t' ty : Nat} (hok : (T.at u).ok = true) (hd : (T.at t).desc = .slice u) (ht' : (match (T.at t').desc with | .slice _ => true | .string => true | _ => false) = true)
    {base : Option Addr} {n cap : Nat} {y : Value} {ys : List (List AV)} (hy : Added P w (T.at u).size y ys) (hb : (n + ys.length) * (T.at u).bytes ≤ 140737488355328) (hg : cap < n + ys.length)
    {oc : Array Value} (ho : ∀ w1 : World, w1.heap = w.heap → (Builtin.firstCells (T.at u).size n (.slice base n cap)).run P w1 = .ok oc w1) :
    ∃ (nc rest : Array Value) (m : Nat), VRs (bs w) ys.flatten nc.toList ∧ n + ys.length ≤ m ∧ rest.size = (m - (n + ys.length)) * (T.at u).size ∧
      (Builtin.append_ #[t, t'] ty #[.slice base n cap, y]).run P w = .ok (.slice (some ⟨w.heap.size, 0, none⟩) (n + ys.length) m) (pushB { w with drawn := w.drawn + 1 } (.cells (oc ++ nc ++ rest) u (0, 0))) := by
  obtain ⟨i0, z, hi0, hsz, hby, hz, hzv, hzc, hzl⟩ := (hT.get hok).info
  have hzr : ∀ w : World, (zeroValue u).run P w = .ok z w := fun w => by unfold zeroValue typeInfo; simp [hi0, hz]
  have hti : ∀ w : World, (typeInfo u).run P w = .ok i0 w := fun w => by unfold typeInfo; simp [hi0]
  have hsr := (hT.get hok).sizeOf w
  have hbp := (hT.get hok).bpos
  obtain ⟨hel, hlen, nc, hnc, hfc⟩ := hy
  have hfit := growslice_fits hg hb
  have hneed : n + ys.length ≤ 140737488355328 := Nat.le_trans (Nat.le_mul_of_pos_right _ hbp) hb
  let m := (Question.appendCap (n + ys.length) cap u).cut (w.tape w.drawn (.appendCap (n + ys.length) cap u))
  have hm : n + ys.length ≤ m := by simp only [m, Question.cut]; omega
  have hzs : z.cells.size = (T.at u).size := by have := (hzv (bs w)).length; rw [hzl] at this; simpa using this.symm
  refine ⟨nc, Builtin.zeroCells z.cells (m - (n + ys.length)), m, hnc, hm, by simp [Builtin.zeroCells, hzs], ?_⟩
  have hch : (choose (.appendCap (n + ys.length) cap u)).run P w = .ok m { w with drawn := w.drawn + 1 } := by
    simp [Question.forced, m]
  have h1 : ¬ (n + ys.length ≤ cap) := by omega
  have h2 : ¬ (9223372036854775807 < (n : Int) + (ys.length : Int) ∧ i0.bytes = 0) := by rw [hby]; omega
  have h3 : ¬ (281474976710656 < Builtin.nextslicecap (n + ys.length) cap * i0.bytes) := by rw [hby]; omega
  have h4 : (Question.appendCap (n + ys.length) cap u).forced = false := rfl
  have hu := run_underlying (P := P) (und_slice hT hd) w
  have o1 := ho w.drew rfl
  have f1 := hfc w.drew rfl
  have z1 := hzr w.drew
  unfold Builtin.append_
  simp only [List.getElem?_toArray, List.getElem?_cons_zero, List.getElem?_cons_succ]
  rcases run_notZeros hT ht' with hund | ⟨u', hund⟩
  all_goals
    simp [hu, hsr, hund, hlen, h1, hti, h2, h3, h4, o1, f1, z1, newRow, pushB, m]
    rfl

theorem run_append_fit (hT : TabOk P T) {u t t' ty : Nat} (hok : (T.at u).ok = true) (hd : (T.at t).desc = .slice u) (ht' : (match (T.at t').desc with | .slice _ => true | .string => true | _ => false) = true)
    {base : Option Addr} {n cap : Nat} {y : Value} {ys : List (List AV)} (hy : Added P w (T.at u).size y ys) (hg : n + ys.length ≤ cap) (R : World → Prop)
    (hst : ∀ nc : Array Value, VRs (bs w) ys.flatten nc.toList → ∃ w', (match base with | some ad => storeCells (ad.add (n * (T.at u).size)) nc.toList | none => pure () : Sem Unit).run P w = .ok () w' ∧ R w') :
    ∃ w', (Builtin.append_ #[t, t'] ty #[.slice base n cap, y]).run P w = .ok (.slice base (n + ys.length) cap) w' ∧ R w' := by
  obtain ⟨hel, hlen, nc, hnc, hfc⟩ := hy
  obtain ⟨w', hst, hR⟩ := hst nc hnc
  refine ⟨w', ?_, hR⟩
  have hsr := (hT.get hok).sizeOf w
  have hu := run_underlying (P := P) (und_slice hT hd) w
  have f1 := hfc w rfl
  unfold Builtin.append_
  simp only [List.getElem?_toArray, List.getElem?_cons_zero, List.getElem?_cons_succ]
  rcases run_notZeros hT ht' with hund | ⟨u', hund⟩
  all_goals
    cases base with
    | none =>
      simp only [Sem.run_pure] at hst
      injection hst with _ hst; subst hst
      simp [hu, hsr, hund, hlen, hg, f1]
    | some ad =>
      simp only at hst
      simp [hu, hsr, hund, hlen, hg, f1, hst]

theorem Over_elim {H : Hp} {b : Addr} {e : Nat} {K : Row → Prop} (h : Over H b e K) : ∃ r, H.get b = some r ∧ r.e = e ∧ r.ro = false ∧ K r := by unfold Over at h; exact h

/-- another row in the place of one that may be written: it may begin elsewhere in the block -/
theorem Sat.rebase {H} (h : Sat w H) {b b' : Addr} {r r' : Row} (hb : H.get b = some r) (hro : r.ro = false) (hs : b.spot = none) (hs' : b'.spot = none) (hbl : b'.block = b.block) {c c' : Array Value} {E fr} (hc : w.heap[b.block]? = some (.cells c E fr)) (hsz : c'.size = c.size)
    (hr : ∀ w', bs w' = bs w → w'.heap[b.block]? = some (.cells c' E fr) → Real w' b' r') : Sat (putB w b.block (.cells c' E fr)) ((H.del b).set b' r') := by
  have hlt := lt_of_get hc
  have hbs := bs_put (E' := E) (fr' := fr) hc hsz
  have hnb : ∀ x rx, H.get x = some rx → x ≠ b → x.spot = none → x.block ≠ b.block := fun x rx hx hne hxs hxb => hne (h.excl b r x rx hb hx hro hs hxs hxb.symm).symm
  refine ⟨fun x rx hx => ?_, fun x rx y ry hx hy h1 h2 h3 h4 => ?_, ghost_set (ghost_del h.ghost)⟩
  · rw [Hp.get_set] at hx
    split at hx
    · rename_i e; subst e; injection hx with hx; subst hx
      exact .inl (hr _ hbs (by rw [putB_get _ _ _ _ hlt]; simp))
    · rw [Hp.get_del] at hx
      split at hx
      · cases hx
      · rename_i hne
        refine (h.rows x rx hx).congr (fun hxs => ?_) (by rw [hbs]; exact BLe.refl _)
        rw [putB_get _ _ _ _ hlt, if_neg (hnb x rx hx hne hxs)]
  · rw [Hp.get_set, Hp.get_del] at hx hy
    split at hx
    · rename_i e1; split at hy
      · rename_i e2; rw [e1, e2]
      · split at hy
        · cases hy
        · rename_i hne
          exact absurd (by rw [← h4, e1, hbl]) (hnb y ry hy hne h3)
    · split at hx
      · cases hx
      · rename_i hnx
        split at hy
        · rename_i e2
          exact absurd (by rw [h4, e2, hbl]) (hnb x rx hx hnx h2)
        · split at hy
          · cases hy
          · exact h.excl x rx y ry hx hy h1 h2 h3 h4

theorem Fr.rebase {H} {b b' : Addr} {r r' : Row} (hb : H.get b = some r) (hro : r.ro = false) (hs : b.spot = none) (hbl : b'.block = b.block) {c c' : Array Value} {E fr} (hc : w.heap[b.block]? = some (.cells c E fr)) (hsz : c'.size = c.size) :
    Fr w H (putB w b.block (.cells c' E fr)) ((H.del b).set b' r') where
  size := by simp [putB]
  keep x hlt ho := by
    rw [putB_get _ _ _ _ (lt_of_get hc), if_neg (fun e => ho (by subst e; exact ⟨b, r, hb, hro, hs, rfl⟩))]
  owns x hx := by
    obtain ⟨y, ry, h1, h2, h3, h4⟩ := hx
    rw [Hp.get_set, Hp.get_del] at h1
    split at h1
    · rename_i e; subst e; left; exact ⟨b, r, hb, hro, hs, by rw [← hbl]; exact h4⟩
    · split at h1
      · cases h1
      · exact .inl ⟨y, ry, h1, h2, h3, h4⟩
  blks y ry h1 h3 := by
    rw [Hp.get_set, Hp.get_del] at h1
    split at h1
    · rename_i e; subst e; right; left; exact ⟨b, r, hb, hro, hs, hbl.symm⟩
    · split at h1
      · cases h1
      · exact .inl ⟨ry, h1⟩
  bl := by rw [bs_put hc hsz]; exact BLe.refl _
  os := rfl
  out := rfl
  tape := rfl

theorem Fr.del {H} (b : Addr) : Fr w H w (H.del b) where
  size := Nat.le_refl _
  keep _ _ _ := rfl
  owns x hx := by
    obtain ⟨y, ry, h1, h2, h3, h4⟩ := hx
    rw [Hp.get_del] at h1
    split at h1
    · cases h1
    · exact .inl ⟨y, ry, h1, h2, h3, h4⟩
  blks y ry h1 h3 := by
    rw [Hp.get_del] at h1
    split at h1
    · cases h1
    · exact .inl ⟨ry, h1⟩
  bl := BLe.refl _
  os := rfl
  out := rfl
  tape := rfl

/-- a row that isn't there in memory -/
theorem Sat.phantom {H} (h : Sat w H) {b : Addr} {r : Row} (hb : b.spot ≠ none) (hr : r.es = []) : Sat w (H.set b r) := by
  refine ⟨fun x rx hx => ?_, fun x rx y ry hx hy h1 h2 h3 h4 => ?_, ghost_set h.ghost⟩
  · rw [Hp.get_set] at hx
    split at hx
    · rename_i e; subst e; injection hx with hx; subst hx; exact .inr ⟨hb, hr⟩
    · exact h.rows x rx hx
  · rw [Hp.get_set] at hx hy
    split at hx
    · rename_i e; subst e; exact absurd h2 hb
    · split at hy
      · rename_i e; subst e; exact absurd h3 hb
      · exact h.excl x rx y ry hx hy h1 h2 h3 h4

theorem Fr.phantom {H} {b : Addr} {r : Row} (hb : b.spot ≠ none) : Fr w H w (H.set b r) where
  size := Nat.le_refl _
  keep _ _ _ := rfl
  owns x hx := by
    obtain ⟨y, ry, h1, h2, h3, h4⟩ := hx
    rw [Hp.get_set] at h1
    split at h1
    · rename_i e; subst e; exact absurd h3 hb
    · exact .inl ⟨y, ry, h1, h2, h3, h4⟩
  blks y ry h1 h3 := by
    rw [Hp.get_set] at h1
    split at h1
    · rename_i e; subst e; exact absurd h3 hb
    · exact .inl ⟨ry, h1⟩
  bl := BLe.refl _
  os := rfl
  out := rfl
  tape := rfl

theorem added_of (hr : RelD w0 H0 δ s a w) {e : Nat} {y : Operand} {G : List (List AV) → Prop} (h : addE s.hp e (s.ev y) G) : ∃ ys, Added P w e (a.eval y) ys ∧ G ys := by
  have hy := hr.ev y
  unfold addE at h
  split at h
  · rename_i l ev
    rw [ev] at hy; simp only [ER, VR] at hy
    obtain ⟨he, h⟩ := ifB_elim h
    have he := Nat.eq_of_beq_eq_true he
    subst he
    exact ⟨_, by rw [hy]; exact added_str, h⟩
  · rename_i ev
    rw [ev] at hy; simp only [ER, VR] at hy
    exact ⟨_, by rw [hy]; exact added_nil, h⟩
  · rename_i b e' o l ev
    rw [ev] at hy; simp only [ER, VR] at hy
    obtain ⟨hse, hW⟩ := ifB_elim h
    clear h
    have := Nat.eq_of_beq_eq_true hse
    subst this
    rcases Whole_elim hW with ⟨hv, h⟩ | ⟨b', e'', o', l', r, hv, hg, he, hl, h⟩
    · cases hv
    · injection hv with e1 e2 e3 e4
      subst e1; subst e2; subst e3; subst e4
      exact ⟨_, added_slice hr.sat hg he hl hy, h⟩
  · exact h.elim

theorem run_call_append (tys : Array TypeId) (args : Array Operand) (v : Value) (w w' : World) (h : (Builtin.append_ tys type (args.map a.eval)).run P w = .ok v w') :
    (execOp a.eval ⟨dst, .call ⟨.builtin .append, args, tys⟩, type, pos, after, guard⟩).run P w = .ok (.value v) w' := by
  simp [execOp, resolve, invoke, builtin, h]

/-- a row that may be written, with fewer elements, or others: the world does not change -/
theorem Sat.shrink {H} (h : Sat w H) {b : Addr} {r : Row} (hb : H.get b = some r) (hro : r.ro = false) : Sat w ((H.del b).set b ⟨r.e, false, []⟩) := by
  refine ⟨fun x rx hx => ?_, fun x rx y ry hx hy h1 h2 h3 h4 => ?_, ghost_set (ghost_del h.ghost)⟩
  · rw [Hp.get_set, Hp.get_del] at hx
    split at hx
    · rename_i e; subst e; injection hx with hx; subst hx
      rcases h.rows x r hb with ⟨h1, h2, c, E, fr, h3, h4, h5, h6⟩ | ⟨h1, _⟩
      · refine .inl ⟨h1, h2, c, E, fr, h3, ?_, fun _ => h5 hro, fun i cs hi => by simp at hi⟩
        simpa using (Nat.le_trans (Nat.le_add_right _ _) h4)
      · exact .inr ⟨h1, rfl⟩
    · exact h.rows x rx hx
  · rw [Hp.get_set, Hp.get_del] at hx hy
    split at hx <;> split at hy
    · rename_i e1 e2; rw [e1, e2]
    · rename_i e1 e2; subst e1; exact h.excl _ r y ry hb hy hro h2 h3 h4
    · rename_i e1 e2; subst e2; exact (h.excl _ r x rx hb hx hro h3 h2 h4.symm).symm
    · exact h.excl x rx y ry hx hy h1 h2 h3 h4

theorem Fr.shrink {H} {b : Addr} {r r' : Row} (hb : H.get b = some r) (hro : r.ro = false) : Fr w H w ((H.del b).set b r') where
  size := Nat.le_refl _
  keep _ _ _ := rfl
  owns x hx := by
    obtain ⟨y, ry, h1, h2, h3, h4⟩ := hx
    rw [Hp.get_set, Hp.get_del] at h1
    split at h1
    · rename_i e; subst e; exact .inl ⟨y, r, hb, hro, h3, h4⟩
    · exact .inl ⟨y, ry, h1, h2, h3, h4⟩
  blks y ry h1 h3 := by
    rw [Hp.get_set, Hp.get_del] at h1
    split at h1
    · rename_i e; subst e; exact .inl ⟨r, hb⟩
    · exact .inl ⟨ry, h1⟩
  bl := BLe.refl _
  os := rfl
  out := rfl
  tape := rfl

theorem elems_of {H} (hs : Sat w H) {b : Addr} {r : Row} (hg : H.get b = some r) (p n : Nat) : ∀ (i : Nat) cs, ((r.es.drop p).take n)[i]? = some cs → cs.length = r.e ∧ allCells cs = true := by
  intro i cs hi
  have hi' : i < n := by
    rcases Nat.lt_or_ge i n with h' | h'
    · exact h'
    · rw [List.getElem?_eq_none (by simp; omega)] at hi; cases hi
  rw [List.getElem?_take_of_lt hi', List.getElem?_drop] at hi
  rcases hs.rows _ _ hg with ⟨_, _, c, E, fr, _, _, _, hc⟩ | ⟨_, hn⟩
  · obtain ⟨x, y, _⟩ := hc _ _ hi; exact ⟨x, y⟩
  · rw [hn] at hi; simp at hi

theorem elems_append {e : Nat} {xs ys : List (List AV)} (hx : ∀ (i : Nat) cs, xs[i]? = some cs → cs.length = e ∧ allCells cs = true) (hy : ∀ (i : Nat) cs, ys[i]? = some cs → cs.length = e ∧ allCells cs = true) :
    ∀ (i : Nat) cs, (xs ++ ys)[i]? = some cs → cs.length = e ∧ allCells cs = true := by
  intro i cs hi
  by_cases h : i < xs.length
  · rw [List.getElem?_append_left h] at hi; exact hx i cs hi
  · rw [List.getElem?_append_right (by omega)] at hi; exact hy _ cs hi

/-- elements in a block that begins with their cells, or bears them further on -/
theorem RowsR.inside {B e es} {cl L : List Value} {off : Nat} (h : RowsR B e es cl) (hL : (L.drop off).take cl.length = cl) : ∀ (i : Nat) cs, es[i]? = some cs → cs.length = e ∧ allCells cs = true ∧ VRs B cs ((L.drop (off + i * e)).take e) := by
  intro i cs hi
  obtain ⟨h1, h2, h3⟩ := h.2 i cs hi
  refine ⟨h1, h2, ?_⟩
  have hilt : i < es.length := by
    rcases Nat.lt_or_ge i es.length with h' | h'
    · exact h'
    · rw [List.getElem?_eq_none h'] at hi; cases hi
  have hie : i * e + e ≤ cl.length := by rw [h.1, ← Nat.succ_mul]; exact Nat.mul_le_mul_right _ hilt
  have : ((L.drop (off + i * e)).take e) = ((cl.drop (i * e)).take e) := by
    apply List.ext_getElem?
    intro k
    rw [slice_get, slice_get]
    by_cases hk : k < e
    · rw [if_pos hk, if_pos hk]
      conv => rhs; rw [← hL]
      rw [slice_get, if_pos (by omega)]
      congr 1; omega
    · rw [if_neg hk, if_neg hk]
  rw [this]; exact h3

theorem ms_append (hT : TabOk P T) (hr : RelD w0 H0 δ s a w) {args : Array Operand} {tys : Array TypeId} (hni : ∀ t t' k, tys = #[t, t'] → (T.at t').desc ≠ .int k) (h : mutOp (AC P) T esc s ⟨dst, .call ⟨.builtin .append, args, tys⟩, type, pos, after, guard⟩ K) :
    OpRuns P ⟨dst, .call ⟨.builtin .append, args, tys⟩, type, pos, after, guard⟩ a w (After w0 H0 a K) := by
  have h' := parts_elim (K := fun L H => _) h
  clear h
  simp only at h'
  split at h'
  · rename_i t t' x y htys hargs
    have htys : tys = #[t, t'] := by cases tys; simp_all
    have hargs : args = #[x, y] := by cases args; simp_all
    subst htys; subst hargs
    split at h'
    · rename_i k hk
      exact absurd hk (hni _ _ _ rfl)
    obtain ⟨ht', h'⟩ := ifB_elim h'
    split at h'
    · rename_i u hd
      obtain ⟨hok, h'⟩ := ifB_elim h'
      obtain ⟨ys, hy, h'⟩ := added_of (P := P) hr h'
      have hpos := (hT.get hok).pos
      have hx := hr.ev x
      split at h'
      · rename_i ev
        rw [ev] at hx; simp only [ER, VR] at hx
        obtain ⟨hb, h'⟩ := Must_elim h'
        by_cases hm : ys.length = 0
        · -- nothing is added to nil
          obtain ⟨w', hrun, hw⟩ := run_append_fit (P := P) (ty := type) (base := none) (n := 0) (cap := 0) hT hok hd ht' hy (by omega) (fun w' => w' = w) (fun nc _ => ⟨w, rfl, rfl⟩)
          subst hw
          obtain ⟨N, hN⟩ := hr.sat.ghost
          have hK := setH_elim (New_elim h' ⟨0, 0, some N⟩ (hN N (Nat.le_refl _)))
          refine .inl ⟨_, _, run_call_append _ _ _ _ _ (by simpa [hx] using hrun), _, _, δ, hK, .of_VR ?_, hr.step (Fr.phantom (by simp)) (hr.sat.phantom (by simp) (List.length_eq_zero_iff.1 hm))⟩
          simp only [VR]; right; exact ⟨hm, none, by rw [hm]⟩
        · obtain ⟨nc, rest, m, hnc, hmm, hrs, hrun⟩ := run_append_grow (P := P) (ty := type) (base := none) (n := 0) (cap := 0) (oc := #[]) hT hok hd ht' hy (by rw [Nat.zero_add]; exact hb) (by omega) (fun w1 _ => rfl)
          have hK := setH_elim (New_elim h' _ (fresh_block hr.sat))
          have hr1 := after_push' hr (w1 := { w with drawn := w.drawn + 1 }) rfl rfl rfl rfl
          have hrow := RowsR.of_flat hy.1 hnc
          have hncs : nc.size = ys.length * (T.at u).size := by have := hrow.1; simpa using this
          rw [Nat.zero_add] at hrun hmm hrs
          refine .inl ⟨_, _, run_call_append _ _ _ _ _ (by simpa [hx] using hrun), _, _, δ, hK, .of_VR ?_, after_push hr1 hpos ?_ (fun _ i _ h => by omega) (fun i cs hi => ?_)⟩
          · simp only [VR]; left
            refine ⟨rfl, m, _, by simp [Addr.add], hmm, bs_new _ _ _ _, ?_⟩
            simp [hncs, hrs, Nat.sub_mul]
            have : ys.length * (T.at u).size ≤ m * (T.at u).size := Nat.mul_le_mul_right _ hmm
            omega
          · simp [hncs]
          · obtain ⟨h1, h2, h3⟩ := hrow.2 i cs hi
            refine ⟨h1, h2, ?_⟩
            have hilt : i < ys.length := by
              rcases Nat.lt_or_ge i ys.length with h' | h'
              · exact h'
              · rw [List.getElem?_eq_none h'] at hi; cases hi
            have hie : i * (T.at u).size + (T.at u).size ≤ ys.length * (T.at u).size := by rw [← Nat.succ_mul]; exact Nat.mul_le_mul_right _ hilt
            have : (((nc ++ rest).toList.drop (i * (T.at u).size)).take (T.at u).size) = ((nc.toList.drop (i * (T.at u).size)).take (T.at u).size) := by
              simp only [Array.toList_append]
              rw [List.drop_append_of_le_length (by simp; omega), List.take_append_of_le_length (by simp; omega)]
            simp only at this ⊢
            rw [this]; exact h3
      · rename_i b e p n ev
        rw [ev] at hx; simp only [ER, VR] at hx
        obtain ⟨hse, hO⟩ := ifB_elim h'
        clear h'
        have hse := Nat.eq_of_beq_eq_true hse
        subst hse
        obtain ⟨r, hg, hre, hro, hO⟩ := Over_elim hO
        obtain ⟨⟨hpn, hb⟩, hO⟩ := Must_elim hO
        have hel := elems_of hr.sat hg p n
        rw [hre] at hel
        have hel2 := elems_append hel hy.1
        have hoen : ((r.es.drop p).take n).length = n := by simp; omega
        have hdel : (s.hp.del b).get b = none := by rw [Hp.get_del, if_pos rfl]
        -- a new array
        have grow : ∀ (base : Option Addr) (cap : Nat) (oc : Array Value), a.eval x = .slice base n cap → cap < n + ys.length → VRs (bs w) ((r.es.drop p).take n).flatten oc.toList →
            (∀ w1 : World, w1.heap = w.heap → (Builtin.firstCells (T.at u).size n (.slice base n cap)).run P w1 = .ok oc w1) → OpRuns P ⟨dst, .call ⟨.builtin .append, #[x, y], #[t, t']⟩, type, pos, after, guard⟩ a w (After w0 H0 a K) := by
          intro base cap oc hbv hgr hoc hfo
          obtain ⟨nc, rest, m, hnc, hmm, hrs, hrun⟩ := run_append_grow (P := P) (ty := type) hT hok hd ht' hy hb hgr hfo
          have hr0 : RelD w0 H0 δ { s with hp := s.hp.del b } a w := hr.step (Fr.del b) (hr.sat.del b)
          have hK := setH_elim (New_elim hO _ (fresh_block hr0.sat))
          have hr1 := after_push' hr0 (w1 := { w with drawn := w.drawn + 1 }) rfl rfl rfl rfl
          have hrow := RowsR.of_flat hel2 (by rw [List.flatten_append]; exact hoc.append hnc)
          have hlen : (oc.toList ++ nc.toList).length = (n + ys.length) * (T.at u).size := by rw [hrow.1, List.length_append, hoen]
          have hlen' : oc.size + nc.size = (n + ys.length) * (T.at u).size := by simpa using hlen
          refine .inl ⟨_, _, run_call_append _ _ _ _ _ (by simpa [hbv] using hrun), _, _, δ, hK, .of_VR ?_, after_push hr1 hpos ?_ (fun _ i _ h => by omega) (fun i cs hi => ?_)⟩
          · simp only [VR]; left
            refine ⟨rfl, m, _, by simp [Addr.add], hmm, bs_new _ _ _ _, ?_⟩
            have h1 : (n + ys.length) * (T.at u).size ≤ m * (T.at u).size := Nat.mul_le_mul_right _ hmm
            have h2 : (m - (n + ys.length)) * (T.at u).size = m * (T.at u).size - (n + ys.length) * (T.at u).size := Nat.sub_mul _ _ _
            simp [hrs, h2]
            omega
          · simp only [List.length_append, hoen, Array.size_append]
            omega
          · have := hrow.inside (L := (oc ++ nc ++ rest).toList) (off := 0) (by rw [List.drop_zero, Array.toList_append, Array.toList_append, List.take_append_of_le_length (Nat.le_refl _), List.take_length]) i cs hi
            rw [Nat.zero_add, Array.append_assoc] at this
            exact this
        have empty : n = 0 → ∀ q, a.eval x = .slice q 0 0 → OpRuns P ⟨dst, .call ⟨.builtin .append, #[x, y], #[t, t']⟩, type, pos, after, guard⟩ a w (After w0 H0 a K) := by
          intro hn0 q hxv
          by_cases hm : ys.length = 0
          · obtain ⟨w', hrun, hw⟩ := run_append_fit (P := P) (ty := type) (base := q) (n := 0) (cap := 0) hT hok hd ht' hy (by omega) (fun w' => w' = w) (fun nc hnc => by
              have hn : nc.toList = [] := by
                have := hnc.length; rw [flat_len hy.1, hm, Nat.zero_mul] at this
                exact List.length_eq_zero_iff.1 this.symm
              refine ⟨w, ?_, rfl⟩
              rw [hn]; cases q <;> rfl)
            subst hw
            have hK := setH_elim (New_elim hO b hdel)
            have hes : (r.es.drop p).take n ++ ys = [] := by
              have h1 : ys = [] := List.length_eq_zero_iff.1 hm
              rw [h1, hn0]; simp
            refine .inl ⟨_, _, run_call_append _ _ _ _ _ (by simpa [hxv] using hrun), _, _, δ, hK, .of_VR ?_, hr.step (Fr.shrink hg hro) ?_⟩
            · simp only [VR]; right; exact ⟨by omega, q, by rw [hm]⟩
            · rw [hes, ← hre]; exact hr.sat.shrink hg hro
          · refine grow q 0 #[] (by rw [hn0]; exact hxv) (by omega) ?_ (fun w1 _ => ?_)
            · rw [hn0]; simp [VRs]
            · rw [hn0]; cases q <;> simp [Builtin.firstCells, loadCells, loadCellsFrom]
        rcases slice_cells hr.sat hg hre hpn hx with ⟨ad, cap, c, E, fr, hxv, had, hbl, hcap, hsz, hcells⟩ | ⟨hn0, q, hxv⟩
        · rcases hr.sat.rows _ _ hg with ⟨hsp, he0, c2, E2, fr2, hb2, hlr, hfr, hc2⟩ | ⟨hsp, hes⟩
          · rw [hbl] at hb2; injection hb2 with hb2; injection hb2 with q1 q2 q3; subst q1; subst q2; subst q3
            by_cases hfit : n + ys.length ≤ cap
            · have hcapm : (p + (n + ys.length)) * (T.at u).size ≤ (p + cap) * (T.at u).size := Nat.mul_le_mul_right _ (by omega)
              rw [Nat.add_mul] at hcapm
              have hnm : (n + ys.length) * (T.at u).size = n * (T.at u).size + ys.length * (T.at u).size := Nat.add_mul _ _ _
              have hpc : (p + cap) * (T.at u).size = p * (T.at u).size + cap * (T.at u).size := Nat.add_mul _ _ _
              obtain ⟨w', hrun, hw⟩ := run_append_fit (P := P) (ty := type) (base := some ad) (n := n) (cap := cap) hT hok hd ht' hy hfit (fun w' => ∃ nc : Array Value, VRs (bs w) ys.flatten nc.toList ∧ w' = putB w b.block (.cells (c.toList.take (ad.off + n * (T.at u).size) ++ nc.toList ++ c.toList.drop (ad.off + n * (T.at u).size + nc.toList.length)).toArray E fr)) (fun nc hnc => by
                have hncl : nc.toList.length = ys.length * (T.at u).size := by rw [← hnc.length, flat_len hy.1]
                have := run_storeCells (P := P) b.block (ad.off + n * (T.at u).size) E fr nc.toList 0 c w hbl (fun j hj => hfr hro j (Nat.le_of_lt hj)) (by rw [had]; simp only; omega) (VRs.oneCell (flat_cells hy.1) hnc)
                rw [Nat.add_zero] at this
                refine ⟨_, ?_, nc, hnc, rfl⟩
                show (storeCells (ad.add (n * (T.at u).size)) nc.toList).run P w = _
                rw [← this, addr_mk (by rw [had])]
                rw [had])
              obtain ⟨nc, hnc, hw⟩ := hw
              have hncl : nc.toList.length = ys.length * (T.at u).size := by rw [← hnc.length, flat_len hy.1]
              have hadb : ad.block = b.block := by rw [had]
              have hads : ad.spot = none := by rw [had]
              have hado : ad.off = b.off + p * (T.at u).size := by rw [had]
              have hnew : (s.hp.del b).get ad = none := by
                rw [Hp.get_del]; split
                · rfl
                · rename_i hne
                  cases hga : s.hp.get ad with
                  | none => rfl
                  | some r2 => exact absurd (hr.sat.excl b r ad r2 hg hga hro hsp hads hadb.symm).symm hne
              have hK := setH_elim (New_elim hO ad hnew)
              subst hw
              have hcs : (c.toList.take (ad.off + n * (T.at u).size) ++ nc.toList ++ c.toList.drop (ad.off + n * (T.at u).size + nc.toList.length)).toArray.size = c.size := by
                simp only [List.size_toArray, List.length_append, List.length_take, List.length_drop, Array.length_toList, hncl]
                omega
              have hflat := flat_len hel
              rw [hoen] at hflat
              have hrow := RowsR.of_flat hel2 (by rw [List.flatten_append]; exact hcells.append hnc)
              refine .inl ⟨_, _, run_call_append _ _ _ _ _ (by simpa [hxv] using hrun), _, _, δ, hK, .of_VR ?_, hr.step (Fr.rebase hg hro hsp hadb hbl hcs) (hr.sat.rebase hg hro hsp hads hadb hbl hcs (fun w' hbs hw' => ?_))⟩
              · simp only [VR]; left
                refine ⟨hads, cap, c.size, by simp [Addr.add], hfit, ?_, by rw [hado, Nat.zero_add]; omega⟩
                rw [bs_put hbl hcs]
                unfold bs; rw [hadb, hbl]
              · refine ⟨hads, hpos, _, _, _, by rw [hadb]; exact hw', ?_, fun _ i hi => hfr hro i (by rw [hcs] at hi; exact hi), ?_⟩
                · have h9 : ad.off + (n + ys.length) * (T.at u).size ≤ c.size := by rw [hado]; omega
                  rw [hcs, List.length_append, hoen]; exact h9
                · rw [hbs]
                  refine hrow.inside ?_
                  have e1 : ((c.toList.drop (b.off + p * (T.at u).size)).take (n * (T.at u).size)).length = n * (T.at u).size := by rw [← hcells.length, hflat]
                  simp only [List.length_append, e1, hncl]
                  have hple : ad.off + n * (T.at u).size + ys.length * (T.at u).size ≤ c.toList.length := by
                    rw [show c.toList.length = c.size from Array.length_toList, hado]
                    omega
                  apply List.ext_getElem?
                  intro k
                  rw [slice_get, patch_get _ _ _ _ _ hncl hple]
                  by_cases hk : k < n * (T.at u).size + ys.length * (T.at u).size
                  · rw [if_pos hk]
                    by_cases hk2 : k < n * (T.at u).size
                    · rw [if_pos (by omega), List.getElem?_append_left (by omega), slice_get, if_pos hk2, hado]
                    · rw [if_neg (by omega), if_pos (by omega), List.getElem?_append_right (by omega), e1]
                      congr 1; omega
                  · rw [if_neg hk, List.getElem?_eq_none (by simp only [List.length_append, e1, hncl]; omega)]
            · exact grow _ cap ((c.toList.drop (b.off + p * (T.at u).size)).take (n * (T.at u).size)).toArray hxv (by omega) hcells (fun w1 hw1 => by
                simp only [Builtin.firstCells, had]
                refine run_loadCells_at (E := E) (fr := fr) (by rw [hw1]; exact hbl) ?_
                have : (p + n) * (T.at u).size ≤ (p + cap) * (T.at u).size := Nat.mul_le_mul_right _ (by omega)
                rw [Nat.add_mul] at this; omega)
          · rcases hx with ⟨hsp', _⟩ | ⟨hn0, q, hxv'⟩
            · exact absurd hsp' hsp
            · rw [hxv] at hxv'; injection hxv' with e1 e2 e3
              exact empty hn0 (some ad) (by rw [hxv, e3, hn0])
        · exact empty hn0 q hxv
      · exact h'.elim
    · exact h'.elim
  · exact h'.elim

end
end Go.Proofs.Ytdbedlomiedncaa.Vc
