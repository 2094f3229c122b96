/- Arguments that are slices of rows, slices of these, and stores. -/
import Derived.Test.YtdbedlomiedncaaRd0
import Derived.Test.YtdbedlomiedncaaRows
import Derived.Test.YtdbedlomiedncaaB3
namespace Go.Proofs.Ytdbedlomiedncaa.Vc
open Go Go.ChangeShapes Go.WideShapes Go.RowKit Go.Deep

def rvals (r : R) : List Value := [.string ⟨r.key.toArray⟩, .int .i64 r.kind, .int .i64 r.sum, .bool r.set, .int .i64 r.last, .int .i64 r.n, .int .i64 r.min, .int .i64 r.max, .int .i64 r.total, .int .i64 r.dropped]

theorem rvals_av (r : R) : (rvals r).map cav = r.av := by simp [rvals, R.av, cav]

theorem rvals_good {w : World} (r : R) : ∀ v ∈ rvals r, CellGood w v := by
  intro v hv
  simp only [rvals, List.mem_cons, List.not_mem_nil, or_false] at hv
  rcases hv with rfl | rfl | rfl | rfl | rfl | rfl | rfl | rfl | rfl | rfl <;> exact ⟨rfl, by simp [cav, VR]⟩

section
variable {H : Type} {enc : TypeId × Value → H} {w : World} {base : Nat}

theorem bulk_part {d : DataW H} {l : List (DataW H)} (h : d ∈ l) : Rows.uptoBulk d ≤ Rows.uptoBulkAll l := by
  induction l with
  | nil => cases h
  | cons x r ih =>
    simp only [Rows.uptoBulkAll]
    cases List.mem_cons.1 h with
    | inl e => subst e; omega
    | inr e => have := ih e; omega

theorem bulk_one (d : DataW H) : 1 ≤ Rows.uptoBulk d := by
  cases d with
  | lit l => cases l <;> simp [Rows.uptoBulk]
  | _ => simp [Rows.uptoBulk]

theorem bulk_length (l : List (DataW H)) : l.length ≤ Rows.uptoBulkAll l := by
  induction l with
  | nil => simp [Rows.uptoBulkAll]
  | cons x r ih => have := bulk_one x; simp only [Rows.uptoBulkAll, List.length_cons]; omega

set_option maxRecDepth 100000 in
theorem rowRead {sp : Nat → Bool} {held : Bool} {n : Nat} {cs : List Value} {x : DataW H × List MemPlace} (h : DataW.trod enc Try.prog w base sp held n 79 cs = some x) : ∃ r : R, cs = rvals r ∧ r.key.length ≤ Rows.uptoBulk x.1 := by
  obtain ⟨xs, m, _, rfl, hlen, hxl, hf⟩ := DataW.trod_struct Try.underlying79 h
  have hlen : cs.length = 10 := hlen
  match cs, hlen with
  | [c0, c1, c2, c3, c4, c5, c6, c7, c8, c9], _ =>
    have hxl : xs.length = 10 := hxl
    match xs, hxl with
    | [y0, y1, y2, y3, y4, y5, y6, y7, y8, y9], _ =>
      obtain ⟨s, e0, z0, _⟩ := DataW.trod_string Try.underlying9 (hf 0 _ rfl)
      obtain ⟨n1, e1, _⟩ := DataW.trod_int Try.underlying3 (hf 1 _ rfl)
      obtain ⟨n2, e2, _⟩ := DataW.trod_int Try.underlying3 (hf 2 _ rfl)
      obtain ⟨b3, e3, _⟩ := DataW.trod_bool Try.underlying4 (hf 3 _ rfl)
      obtain ⟨n4, e4, _⟩ := DataW.trod_int Try.underlying3 (hf 4 _ rfl)
      obtain ⟨n5, e5, _⟩ := DataW.trod_int Try.underlying3 (hf 5 _ rfl)
      obtain ⟨n6, e6, _⟩ := DataW.trod_int Try.underlying3 (hf 6 _ rfl)
      obtain ⟨n7, e7, _⟩ := DataW.trod_int Try.underlying3 (hf 7 _ rfl)
      obtain ⟨n8, e8, _⟩ := DataW.trod_int Try.underlying3 (hf 8 _ rfl)
      obtain ⟨n9, e9, _⟩ := DataW.trod_int Try.underlying3 (hf 9 _ rfl)
      refine ⟨⟨s.data.toList, n1, n2, b3, n4, n5, n6, n7, n8, n9⟩, ?_, ?_⟩
      · injection e0 with e0; injection e1 with e1; injection e2 with e2; injection e3 with e3; injection e4 with e4
        injection e5 with e5; injection e6 with e6; injection e7 with e7; injection e8 with e8; injection e9 with e9
        simp only [rvals]
        rw [e0, e1, e2, e3, e4, e5, e6, e7, e8, e9]
      · simp only [List.map_cons, Rows.uptoBulk, Rows.uptoBulkAll]
        have : Rows.uptoBulk y0.1 = s.data.toList.length + 1 := by rw [z0]; simp [Rows.uptoBulk]
        omega

theorem last_cell {a : Addr} {k : Nat} {v : Value} (h : w.cell? (a.add k) = some v) (hs : a.spot = none) : ∃ c E fr, w.heap[a.block]? = some (.cells c E fr) ∧ a.off + k < c.size := by
  rw [addr_mk hs] at h
  obtain ⟨_, c, E, fr, hb, hc⟩ := cell_some h
  exact ⟨c, E, fr, hb, (Array.getElem?_eq_some_iff.1 hc).1⟩

theorem spot_of_cell {a : Addr} {v : Value} (h : w.cell? (a.add 0) = some v) : a.spot = none := by
  have := (cell_some h).1
  simpa [Addr.add] using this

set_option maxRecDepth 100000 in
theorem rowsRead {held : Bool} {n : Nat} {cs : List Value} {x : DataW H × List MemPlace} (h : DataW.trod enc Try.prog w base (fun _ => true) held n 22 cs = some x) :
    ∃ (v : Value) (a : Addr) (l : List R), cs = [v] ∧ cav v = .slice a 10 0 l.length ∧ VR (bs w) (cav v) v ∧ SlR (Hw w) a 0 l ∧ l.length ≤ Rows.uptoBulk x.1 ∧ (∀ r ∈ l, r.key.length ≤ Rows.uptoBulk x.1) ∧ ∃ p m c, v = .slice p m c := by
  rcases open_slice Try.underlying22 h with ⟨rfl, rfl⟩ | ⟨a, len, cap, m, k, D, Pl, rfl, hb, hl, hm, hmm, rfl, hi⟩
  · refine ⟨_, dummy, [], rfl, rfl, ?_, ⟨_, Hw_dummy w, rfl, by simp, by simp⟩, by simp, by simp, _, _, _, rfl⟩
    simp only [cav, VR]; exact .inr ⟨rfl, _, rfl⟩
  · simp only [if_true] at hmm
    subst hmm
    by_cases h0 : m = 0
    · have hl0 : len = 0 := by omega
      subst h0; subst hl0
      refine ⟨_, dummy, [], rfl, by simp [cav], ?_, ⟨_, Hw_dummy w, rfl, by simp, by simp⟩, by simp, by simp, _, _, _, rfl⟩
      simp only [cav, if_true, VR]; exact .inr ⟨rfl, _, rfl⟩
    · have hrow : ∀ i, ∃ r : R, i < m → (∀ j (hj : j < 10), w.cell? (a.add (i * 10 + j)) = (rvals r)[j]?) ∧ r.key.length ≤ Rows.uptoBulk (D i) := fun i => by
        by_cases him : i < m
        · obtain ⟨cs', hc, ht⟩ := hi i him
          obtain ⟨_, _, hcell⟩ := World.cells?_some hc
          obtain ⟨r, rfl, hk⟩ := rowRead ht
          refine ⟨r, fun _ => ⟨fun j hj => ?_, hk⟩⟩
          have := hcell j hj
          rw [Go.Deep.add_add] at this
          exact this
        · exact ⟨R.zero, fun h => absurd h him⟩
      let r := fun i => Classical.choose (hrow i)
      have hr : ∀ i, i < m → (∀ j (hj : j < 10), w.cell? (a.add (i * 10 + j)) = (rvals (r i))[j]?) ∧ (r i).key.length ≤ Rows.uptoBulk (D i) := fun i => Classical.choose_spec (hrow i)
      have h00 := (hr 0 (by omega)).1 0 (by omega)
      have hs : a.spot = none := spot_of_cell h00
      have hlast := (hr (m - 1) (by omega)).1 9 (by omega)
      obtain ⟨c, E, fr, hblk, hlt⟩ := last_cell hlast hs
      have hsz : a.off + m * 10 ≤ c.size := by omega
      have hbs : bs w a.block = some c.size := by unfold bs; rw [hblk]
      have ha0 : w.cell? a = some (.string ⟨(r 0).key.toArray⟩) := by
        have e : a.add (0 * 10 + 0) = a := by rw [addr_mk hs]; cases a; simp only at hs; subst hs; rfl
        rw [e] at h00; exact h00
      have hget := Hw_cell ha0
      have hgood : ∀ i, i < m → ElGood w a 10 (0 + i) (rvals (r i)) := fun i hi' => by
        refine ⟨rfl, fun j hj => ?_⟩
        have hj' : j < 10 := hj
        rw [Nat.zero_add, (hr i hi').1 j hj', List.getElem?_eq_getElem hj]
        exact ⟨rfl, rvals_good _ _ (List.getElem_mem hj)⟩
      obtain ⟨q1, q2⟩ := rowEs_has (w := w) (a := a) (e := 10) (bsize w a.block) 0 len (fun i => rvals (r i)) (by simp only [bsize, hbs, Option.getD_some]; omega) (fun i hi' => hgood i (by omega))
      refine ⟨_, a, (List.range len).map r, rfl, by simp [cav, h0], ?_, ⟨_, hget, rfl, ?_, ?_⟩, ?_, ?_, _, _, _, rfl⟩
      · simp only [cav, if_neg h0, VR]
        refine .inl ⟨hs, m, c.size, by rw [addr_mk hs]; cases a; simp only at hs; subst hs; rfl, hl, hbs, by omega⟩
      · rw [List.drop_zero, List.length_map, List.length_map, List.length_range, q2, List.map_map]
        exact List.map_congr_left fun i _ => rvals_av _
      · simp only [List.length_map, List.length_range, Nat.zero_add]; exact q1
      · simp only [List.length_map, List.length_range, Rows.uptoBulk]
        have := bulk_length ((List.range len).map D)
        simp at this; omega
      · intro y hy
        obtain ⟨i, hi', rfl⟩ := List.mem_map.1 hy
        have hi' : i < len := by simpa using hi'
        have h1 := (hr i (by omega)).2
        have h2 := bulk_part (d := D i) (l := (List.range len).map D) (List.mem_map.2 ⟨i, by simpa using hi', rfl⟩)
        simp only [Rows.uptoBulk]; omega

set_option maxRecDepth 100000 in
theorem rowssRead {held : Bool} {n : Nat} {cs : List Value} {x : DataW H × List MemPlace} (h : DataW.trod enc Try.prog w base (fun _ => true) held n 30 cs = some x) :
    ∃ (v : Value) (a : Addr) (rs : List (List R)), cs = [v] ∧ VR (bs w) (.slice a 1 0 rs.length) v ∧ SlRR (Hw w) a 0 rs ∧ rs.length ≤ Rows.uptoBulk x.1 ∧ ∀ l ∈ rs, l.length ≤ Rows.uptoBulk x.1 ∧ ∀ r ∈ l, r.key.length ≤ Rows.uptoBulk x.1 := by
  rcases open_slice Try.underlying30 h with ⟨rfl, rfl⟩ | ⟨a, len, cap, m, k, D, Pl, rfl, hb, hl, hm, hmm, rfl, hi⟩
  · refine ⟨_, dummy1, [], rfl, ?_, ⟨[], ⟨_, Hw_dummy1 w, rfl, by simp, by simp⟩, rfl, by simp⟩, by simp, by simp⟩
    simp only [VR]; exact .inr ⟨rfl, _, rfl⟩
  · simp only [if_true] at hmm
    subst hmm
    by_cases h0 : m = 0
    · have hl0 : len = 0 := by omega
      subst h0; subst hl0
      refine ⟨_, dummy1, [], rfl, ?_, ⟨[], ⟨_, Hw_dummy1 w, rfl, by simp, by simp⟩, rfl, by simp⟩, by simp, by simp⟩
      simp only [VR]; exact .inr ⟨rfl, _, rfl⟩
    · have hrow : ∀ i, ∃ z : Value × Addr × List R, i < m → w.cell? (a.add i) = some z.1 ∧ cav z.1 = .slice z.2.1 10 0 z.2.2.length ∧ VR (bs w) (cav z.1) z.1 ∧ SlR (Hw w) z.2.1 0 z.2.2 ∧ z.2.2.length ≤ Rows.uptoBulk (D i) ∧ (∀ r ∈ z.2.2, r.key.length ≤ Rows.uptoBulk (D i)) ∧ ∃ p l c, z.1 = .slice p l c := fun i => by
        by_cases him : i < m
        · obtain ⟨cs', hc, ht⟩ := hi i him
          obtain ⟨_, _, hcell⟩ := World.cells?_some hc
          obtain ⟨v, b, l, rfl, g1, g2, g3, g4, g5, g6⟩ := rowsRead ht
          refine ⟨⟨v, b, l⟩, fun _ => ⟨?_, g1, g2, g3, g4, g5, g6⟩⟩
          have := hcell 0 (by show 0 < 1; omega)
          rw [Go.Deep.add_add, show Try.prog.cellsOf 22 = 1 from by kernel_rfl] at this
          simpa using this
        · exact ⟨⟨.nilFunc, dummy, []⟩, fun h => absurd h him⟩
      let z := fun i => Classical.choose (hrow i)
      have hz := fun i => Classical.choose_spec (hrow i)
      have hz : ∀ i, i < m → w.cell? (a.add i) = some (z i).1 ∧ cav (z i).1 = .slice (z i).2.1 10 0 (z i).2.2.length ∧ VR (bs w) (cav (z i).1) (z i).1 ∧ SlR (Hw w) (z i).2.1 0 (z i).2.2 ∧ (z i).2.2.length ≤ Rows.uptoBulk (D i) ∧ (∀ r ∈ (z i).2.2, r.key.length ≤ Rows.uptoBulk (D i)) ∧ ∃ p l c, (z i).1 = .slice p l c := hz
      have h00 := (hz 0 (by omega)).1
      have hs : a.spot = none := spot_of_cell h00
      obtain ⟨c, E, fr, hblk, hlt⟩ := last_cell (hz (m - 1) (by omega)).1 hs
      have hbs : bs w a.block = some c.size := by unfold bs; rw [hblk]
      have hae : a.add 0 = a := by rw [addr_mk hs]; cases a; simp only at hs; subst hs; rfl
      rw [hae] at h00
      obtain ⟨p0, l0, c0, e0⟩ := (hz 0 (by omega)).2.2.2.2.2.2
      rw [e0] at h00
      have hget := Hw_cell h00
      obtain ⟨q1, q2⟩ := rowEs_has (w := w) (a := a) (e := 1) (bsize w a.block) 0 len (fun i => [(z i).1]) (by simp only [bsize, hbs, Option.getD_some]; omega) (fun i hi' => by
        have := hz i (by omega)
        refine ⟨rfl, fun j hj => ?_⟩
        have hj' : j = 0 := by simp at hj; omega
        subst hj'
        simp only [List.getElem_cons_zero, Nat.zero_add, Nat.mul_one, Nat.add_zero]
        exact ⟨this.1, by unfold CellGood; rw [this.2.1]; refine ⟨rfl, ?_⟩; rw [← this.2.1]; exact this.2.2.1⟩)
      refine ⟨_, a, (List.range len).map fun i => (z i).2.2, rfl, ?_, ⟨(List.range len).map fun i => ((z i).2.1, 0, (z i).2.2.length), ⟨_, hget, rfl, ?_, ?_⟩, by simp, fun i hi' hi'' => ?_⟩, ?_, ?_⟩
      · simp only [VR, List.length_map, List.length_range]
        refine .inl ⟨hs, m, c.size, by rw [addr_mk hs]; cases a; simp only at hs; subst hs; rfl, hl, hbs, by omega⟩
      · rw [List.drop_zero, List.length_map, List.length_map, List.length_range, q2, List.map_map]
        refine List.map_congr_left fun i hi' => ?_
        have hi' : i < len := by simpa using hi'
        simp only [List.map_cons, List.map_nil, Function.comp, srow]
        rw [(hz i (by omega)).2.1]
      · simp only [List.length_map, List.length_range, Nat.zero_add]; exact q1
      · have hil : i < len := by simpa using hi'
        simp only [List.getElem_map, List.getElem_range]
        exact ⟨trivial, (hz i (by omega)).2.2.2.1⟩
      · simp only [List.length_map, List.length_range, Rows.uptoBulk]
        have := bulk_length ((List.range len).map D)
        simp at this; omega
      · intro y hy
        obtain ⟨i, hi', rfl⟩ := List.mem_map.1 hy
        have hi' : i < len := by simpa using hi'
        have h1 := hz i (by omega)
        have h2 := bulk_part (d := D i) (l := (List.range len).map D) (List.mem_map.2 ⟨i, by simpa using hi', rfl⟩)
        have h3 : Rows.uptoBulk (D i) ≤ Rows.uptoBulk (DataW.slice ((List.range len).map D) ((List.range (m - len)).map fun j => D (len + j))) := by simp only [Rows.uptoBulk]; omega
        exact ⟨Nat.le_trans h1.2.2.2.2.1 h3, fun r hr => Nat.le_trans (h1.2.2.2.2.2.1 r hr) h3⟩

end
end Go.Proofs.Ytdbedlomiedncaa.Vc
