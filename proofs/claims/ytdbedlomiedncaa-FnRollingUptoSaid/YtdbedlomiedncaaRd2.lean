/- Arguments that are slices of bytes. -/
import Derived.Test.YtdbedlomiedncaaRd1
import Derived.Test.YtdbedlomiedncaaD0
namespace Go.Proofs.Ytdbedlomiedncaa.Vc
open Go Go.ChangeShapes Go.WideShapes Go.RowKit Go.Deep

section
variable {H : Type} {enc : TypeId × Value → H} {w : World} {base : Nat}

theorem byte_of {n : Int} (h0 : 0 ≤ n) (h1 : n < 256) : (AV.int .u8 n) = .int .u8 ((UInt8.ofNat n.toNat).toNat : Int) := by
  congr 1
  rw [UInt8.toNat_ofNat']
  omega

noncomputable abbrev bytesT : TypeId := Try.f6.params[0]!

set_option maxRecDepth 100000 in
theorem bytesRead {held : Bool} {n : Nat} {cs : List Value} {x : DataW H × List MemPlace} (h : DataW.trod enc Try.prog w base (fun _ => true) held n bytesT cs = some x) :
    ∃ (v : Value) (a : Addr) (l : List UInt8), cs = [v] ∧ VR (bs w) (.slice a 1 0 l.length) v ∧ Sl (Hw w) a 1 0 (l.map byteCell) := by
  rcases open_slice (show Try.prog.underlying bytesT = some (.slice 5) from by kernel_rfl) h with ⟨rfl, rfl⟩ | ⟨a, len, cap, m, k, D, Pl, rfl, hb, hl, hm, hmm, rfl, hi⟩
  · refine ⟨_, dummy1, [], rfl, ?_, ⟨_, Hw_dummy1 w, rfl, by simp, by simp⟩⟩
    simp only [VR]; exact .inr ⟨rfl, _, rfl⟩
  · simp only [if_true] at hmm
    subst hmm
    by_cases h0 : m = 0
    · have hl0 : len = 0 := by omega
      subst h0; subst hl0
      refine ⟨_, dummy1, [], rfl, ?_, ⟨_, Hw_dummy1 w, rfl, by simp, by simp⟩⟩
      simp only [VR]; exact .inr ⟨rfl, _, rfl⟩
    · have hrow : ∀ i, ∃ b : Int, i < m → w.cell? (a.add i) = some (.int .u8 b) ∧ 0 ≤ b ∧ b < 256 := fun i => by
        by_cases him : i < m
        · obtain ⟨cs', hc, ht⟩ := hi i him
          obtain ⟨_, _, hcell⟩ := World.cells?_some hc
          obtain ⟨b, rfl, _, hwf⟩ := DataW.trod_int Try.underlying5 ht
          refine ⟨b, fun _ => ⟨?_, ?_⟩⟩
          · have := hcell 0 (by show 0 < 1; omega)
            rw [Go.Deep.add_add, show Try.prog.cellsOf 5 = 1 from by kernel_rfl] at this
            simpa using this
          · simp only [Lit.wf, Bool.and_eq_true, decide_eq_true_eq] at hwf
            have e1 : IntKind.u8.min = 0 := by decide
            have e2 : IntKind.u8.max = 255 := by decide
            omega
        · exact ⟨0, fun h => absurd h him⟩
      let z := fun i => Classical.choose (hrow i)
      have hz : ∀ i, i < m → w.cell? (a.add i) = some (.int .u8 (z i)) ∧ 0 ≤ z i ∧ z i < 256 := fun i => Classical.choose_spec (hrow i)
      have h00 := (hz 0 (by omega)).1
      have hs : a.spot = none := spot_of_cell h00
      obtain ⟨c, E, fr, hblk, hlt⟩ := last_cell (hz (m - 1) (by omega)).1 hs
      have hbs : bs w a.block = some c.size := by unfold bs; rw [hblk]
      have hae : a.add 0 = a := by rw [addr_mk hs]; cases a; simp only at hs; subst hs; rfl
      rw [hae] at h00
      have hget := Hw_cell h00
      obtain ⟨q1, q2⟩ := rowEs_has (w := w) (a := a) (e := 1) (bsize w a.block) 0 len (fun i => [.int .u8 (z i)]) (by simp only [bsize, hbs, Option.getD_some]; omega) (fun i hi' => by
        have := hz i (by omega)
        refine ⟨rfl, fun j hj => ?_⟩
        have hj' : j = 0 := by simp at hj; omega
        subst hj'
        simp only [List.getElem_cons_zero, Nat.zero_add, Nat.mul_one, Nat.add_zero]
        exact ⟨this.1, rfl, by simp [cav, VR]⟩)
      refine ⟨_, a, (List.range len).map fun i => UInt8.ofNat (z i).toNat, rfl, ?_, ⟨_, hget, rfl, ?_, ?_⟩⟩
      · simp only [VR, List.length_map, List.length_range]
        refine .inl ⟨hs, m, c.size, by rw [addr_mk hs]; cases a; simp only at hs; subst hs; rfl, hl, hbs, by omega⟩
      · rw [List.drop_zero, List.length_map, List.length_map, List.length_range, q2, List.map_map]
        refine List.map_congr_left fun i hi' => ?_
        have hi' : i < len := by simpa using hi'
        have := hz i (by omega)
        simp only [List.map_cons, List.map_nil, Function.comp, byteCell, cav]
        rw [byte_of this.2.1 this.2.2]
      · simp only [List.length_map, List.length_range, Nat.zero_add]; exact q1

end
end Go.Proofs.Ytdbedlomiedncaa.Vc
