/- Appends, calls and the rest: each operation that makes or changes memory does what its condition says. -/
import Derived.Test.YtdbedlomiedncaaVc7
import Derived.Laws.Append
namespace Go.Proofs.Ytdbedlomiedncaa.Vc
open Go

section
variable {P : Program} {T : Tab} {w0 : Base} {H0 : Hp} {δ : Nat → Nat} {s : St} {a : Act} {w : World} {esc : List Nat} {K : AV → St → Prop} {dst : Option Tmp} {type : TypeId} {pos : String} {after : Array Edge} {guard : Option (Nat × Bool)}

theorem wrap64_in {n : Int} (h0 : 0 ≤ n) (h : n ≤ 9223372036854775807) : IntKind.i64.wrap n = n := by
  rw [← wrapK_eq]; simp only [wrapK]; omega

theorem ms_makeSlice (hT : TabOk P T) (hr : RelD w0 H0 δ s a w) {t : TypeId} {l c : Operand} (h : mutOp (AC P) T esc s ⟨dst, .makeSlice t l c, type, pos, after, guard⟩ K) : OpRuns P ⟨dst, .makeSlice t l c, type, pos, after, guard⟩ a w (After w0 H0 a K) := by
  have h' := parts_elim (K := fun L H => _) h
  clear h
  simp only at h'
  split at h'
  · rename_i u hd
    obtain ⟨k1, n, e1, h'⟩ := intOf_elim h'
    obtain ⟨k2, m, e2, h'⟩ := intOf_elim h'
    obtain ⟨hok, h'⟩ := ifB_elim h'
    obtain ⟨⟨h1, h2, h3, h4⟩, h'⟩ := Must_elim h'
    have hl := hr.ev l
    have hc := hr.ev c
    rw [e1] at hl; rw [e2] at hc
    simp only [ER, VR] at hl hc
    obtain ⟨i0, z, hi0, hsz, hby, hz, hzv, hzc, hzl⟩ := (hT.get hok).info
    have hzr : (zeroValue u).run P w = .ok z w := by unfold zeroValue typeInfo; simp [hi0, hz]
    have hsr := (hT.get hok).sizeOf w
    have hpos := (hT.get hok).pos
    have hK := setH_elim (New_elim h' _ (fresh_block hr.sat))
    have hrow := zeros_row (n := m.toNat) (es := List.replicate m.toNat (T.at u).zero) (hzv (bs w)) hzc hzl (by simp) (fun i cs hi => by simp [List.getElem?_replicate] at hi; exact hi.2.symm)
    have hti : (typeInfo u).run P w = .ok i0 w := by unfold typeInfo; simp [hi0]
    have hrun : (execOp a.eval ⟨dst, .makeSlice t l c, type, pos, after, guard⟩).run P w = .ok (.value (.slice (some ⟨w.heap.size, 0, none⟩) n.toNat m.toNat)) (pushB w (.cells ((Array.range (m.toNat * (T.at u).size)).map (z.cells[· % z.cells.size]!)) u (0, 0))) := by
      have w1 : IntKind.i64.wrap n = n := wrap64_in h1 (by omega)
      have w2 : IntKind.i64.wrap m = m := wrap64_in (by omega) h4
      have hcond : ¬ (((m < 0 ∨ 281474976710656 < ((i0.bytes : Nat) : Int) * m) ∨ n < 0) ∨ m < n) := by rw [hby]; omega
      by_cases h0 : m.toNat * (T.at u).size = 0
      · simp [execOp, Instr.makeSlice, run_underlying (und_slice hT hd), hl, hc, asInt, asIntOf, hti, w1, w2, hsr, h0, newRow, pushB]
        rw [if_neg hcond]
        have hr0 : Array.range 0 = (#[] : Array Nat) := rfl
        simp [h0, hr0]
      · simp [execOp, Instr.makeSlice, run_underlying (und_slice hT hd), hl, hc, asInt, asIntOf, hti, w1, w2, hsr, h0, newRow, pushB, hzr]
        intro h; exact absurd h hcond
    refine .inl ⟨_, _, hrun, _, _, δ, hK, .of_VR ?_, after_push hr hpos ?_ (fun _ i _ h => by omega) (fun i cs hi => ?_)⟩
    · simp only [VR]
      left
      refine ⟨rfl, m.toNat, _, by simp [Addr.add], by omega, bs_new _ _ _ _, by simp⟩
    · simp; exact Nat.mul_le_mul_right _ (by omega)
    · refine hrow.2 i cs ?_
      have hi' : i < n.toNat ∧ cs = (T.at u).zero := by
        rw [List.getElem?_replicate] at hi; split at hi
        · rename_i h'; exact ⟨h', by simpa using hi.symm⟩
        · cases hi
      rw [List.getElem?_replicate, if_pos (by omega), hi'.2]
  · exact h'.elim

theorem after_push' (hr : RelD w0 H0 δ s a w) {w1 : World} (hw : w1.heap = w.heap) (ho : w1.os = w.os) (hu : w1.output = w.output) (ht : w1.tape = w.tape) : RelD w0 H0 δ s a w1 := by
  have hb : bs w1 = bs w := by funext b; unfold bs; rw [hw]
  have hf : Fr w s.hp w1 s.hp := ⟨by rw [hw]; exact Nat.le_refl _, fun b _ _ => by rw [hw], fun _ h => .inl h, fun _ r h _ => .inl ⟨r, h⟩, by rw [hb]; exact BLe.refl _, ho, hu, ht⟩
  exact hr.step hf (hr.sat.congr hw)

theorem strCells_row {B} (l : List UInt8) (n : Nat) : ∀ (i : Nat) cs, (strCells l)[i]? = some cs → cs.length = 1 ∧ allCells cs = true ∧ VRs B cs (((l.map fun b : UInt8 => Value.int .u8 b.toNat) ++ List.replicate n (Value.int .u8 0)).drop (i * 1) |>.take 1) := by
  intro i cs hi
  simp only [strCells, List.getElem?_map] at hi
  cases hl : l[i]? with
  | none => rw [hl] at hi; cases hi
  | some b =>
    rw [hl] at hi; simp at hi; subst hi
    have hlt : i < l.length := by
      rcases Nat.lt_or_ge i l.length with h' | h'
      · exact h'
      · rw [List.getElem?_eq_none h'] at hl; cases hl
    refine ⟨rfl, rfl, ?_⟩
    have : (((l.map fun b : UInt8 => Value.int .u8 b.toNat) ++ List.replicate n (Value.int .u8 0)).drop (i * 1)).take 1 = [Value.int .u8 b.toNat] := by
      rw [Nat.mul_one]
      have h1 : i < ((l.map fun b : UInt8 => Value.int .u8 b.toNat) ++ List.replicate n (Value.int .u8 0)).length := by simp; omega
      rw [List.drop_eq_getElem_cons h1, List.take_succ_cons, List.take_zero]
      congr 1
      rw [List.getElem_append_left (by simpa using hlt)]
      simp
      rw [List.getElem?_eq_getElem hlt] at hl; injection hl with hl; rw [hl]
    rw [this]
    simp only [VRs, VR, and_true]

theorem ms_convert (hT : TabOk P T) (hr : RelD w0 H0 δ s a w) {src d : TypeId} {x : Operand} (h : mutOp (AC P) T esc s ⟨dst, .convert src d x, type, pos, after, guard⟩ K) : OpRuns P ⟨dst, .convert src d x, type, pos, after, guard⟩ a w (After w0 H0 a K) := by
  have h' := parts_elim (K := fun L H => _) h
  clear h
  simp only at h'
  split at h'
  · rename_i u l h1 h2 ev
    split at h'
    · rename_i h3
      have hx := hr.ev x
      rw [ev] at hx; simp only [ER, VR] at hx
      have hu1 := und_string hT h1
      have hu2 := und_slice hT h2
      have hu3 := und_int hT h3
      have hK := setH_elim (New_elim h' _ (fresh_block hr.sat))
      let cap := (Question.appendCap l.length 0 u).cut (w.tape w.drawn (.appendCap l.length 0 u))
      let c : Array Value := ((l.map fun b : UInt8 => Value.int .u8 b.toNat) ++ List.replicate (cap - l.length) (Value.int .u8 0)).toArray
      have hcap : l.length ≤ cap := by simp [cap, Question.cut]
      have hcs : c.size = cap := by simp [c]; omega
      have hrun : (execOp a.eval ⟨dst, .convert src d x, type, pos, after, guard⟩).run P w = .ok (.value (.slice (some ⟨w.heap.size, 0, none⟩) l.length cap)) (pushB { w with drawn := w.drawn + 1 } (.cells c u (cap, cap + 1))) := by
        have hch : (choose (.appendCap l.length 0 u)).run P w = .ok cap { w with drawn := w.drawn + 1 } := by
          simp [Question.forced, cap]
        have hcc : (l.toArray.map fun b : UInt8 => Value.int .u8 b.toNat) ++ Array.replicate (cap - l.length) (Value.int .u8 0) = c := by
          apply Array.ext'; simp [c]
        have hfz : ∀ w1 : World, w1.heap.size = w.heap.size → (markStringish ⟨w.heap.size, 0, none⟩).run P (pushB w1 (.cells c u (0, 0))) = .ok () (pushB w1 (.cells c u (cap, cap + 1))) := by
          intro w1 hw1
          have hsh : (pushB w1 (.cells c u (0, 0))).shape? w.heap.size = some (u, cap) := by
            unfold World.shape?; rw [pushB_get, if_pos hw1.symm]
            show some (u, c.size) = _
            rw [hcs]
          unfold markStringish
          simp only [Sem.run_bind, run_shape, hsh, Result.andThen_ok, run_freeze, World.freeze]
          congr 1
          rw [if_neg (by decide)]
          simp only [pushB]
          congr 1
          apply Array.ext_getElem?
          intro j
          rw [Array.getElem?_modify, Array.getElem?_push, Array.getElem?_push]
          by_cases hj : j = w1.heap.size
          · subst hj; simp [hw1]
          · rw [if_neg hj, if_neg hj, if_neg (by omega)]
        have hconv : (Conv.stringToBytes u ⟨l.toArray⟩).run P w = .ok (.slice (some ⟨w.heap.size, 0, none⟩) l.length cap) (pushB { w with drawn := w.drawn + 1 } (.cells c u (cap, cap + 1))) := by
          have := hfz { w with drawn := w.drawn + 1 } rfl
          unfold Conv.stringToBytes
          simp only [size_mk, Sem.run_bind, hch, Result.andThen_ok, newRow, run_newObj, Sem.run_pure]
          rw [hcc]
          simp only [pushB] at this ⊢
          rw [this]
          rfl
        simp [execOp, convert, run_underlying hu1, run_underlying hu2, run_underlying hu3, hx, hconv]
      have hr1 := after_push' hr (w1 := { w with drawn := w.drawn + 1 }) rfl rfl rfl rfl
      refine .inl ⟨_, _, hrun, _, _, δ, hK, .of_VR ?_, after_push hr1 Nat.zero_lt_one ?_ (fun ho => nomatch ho) (fun i cs hi => ?_)⟩
      · simp only [VR]
        left
        exact ⟨rfl, cap, _, by simp [Addr.add], hcap, bs_new _ _ _ _, by simp [hcs]⟩
      · simp [strCells, hcs]; exact hcap
      · exact strCells_row l (cap - l.length) i cs hi
    · exact h'.elim
  · exact h'.elim

end
end Go.Proofs.Ytdbedlomiedncaa.Vc
