/- Calls; all operations together; a region in the text's order. -/
import Derived.Test.YtdbedlomiedncaaVc9b
namespace Go.Proofs.Ytdbedlomiedncaa.Vc
open Go

section
variable {P : Program} {T : Tab} {w0 : Base} {H0 : Hp} {δ : Nat → Nat} {s : St} {a : Act} {w : World} {esc : List Nat} {K : AV → St → Prop} {dst : Option Tmp} {type : TypeId} {pos : String} {after : Array Edge} {guard : Option (Nat × Bool)}

theorem ms_call (hr : RelD w0 H0 δ s a w) {f : Operand} {args : Array Operand} {tys : Array TypeId} (h : mutOp (AC P) T esc s ⟨dst, .call ⟨.value f, args, tys⟩, type, pos, after, guard⟩ K) :
    OpRuns P ⟨dst, .call ⟨.value f, args, tys⟩, type, pos, after, guard⟩ a w (After w0 H0 a K) := by
  have h' := parts_elim (K := fun L H => _) h
  clear h
  simp only at h'
  have hf := hr.ev f
  split at h'
  · rename_i g caps ev
    rw [ev] at hf; simp only [ER, VR] at hf
    obtain ⟨cv, hf, hcv⟩ := hf
    obtain ⟨vs, h1, hvs⟩ := evs_elim (fun x => hr.ev x) h'
    clear h'
    obtain ⟨hfl, h1⟩ := ifB_elim h1
    have hargs := hvs.flat hfl
    unfold AC at h1
    have := h1 w (args.toList.map a.eval ++ cv.toList) hr.sat (hargs.append hcv)
    have hcall : ∀ w', (execOp a.eval ⟨dst, .call ⟨.value f, args, tys⟩, type, pos, after, guard⟩).run P w' = (callFunc g (args.toList.map a.eval ++ cv.toList).toArray).run P w' := by
      intro w'
      have e : (args.toList.map a.eval ++ cv.toList).toArray = args.map a.eval ++ cv := by apply Array.ext'; simp
      rw [e]
      simp [execOp, resolve, hf, Deferred.ofValue, invoke]
    rcases this with ⟨h1, h2⟩ | ⟨v, w', h1, av, H', h2, h3, h4, h5⟩
    · refine .inr (.inr ⟨g, _, by rw [hcall]; exact h1, Calls.mono h2 fun e w' ⟨v, he, av, H', h2, h3, h4, h5⟩ => ⟨v, he, av, _, δ, setH_elim h3, .of_VR h2, hr.step h5 h4⟩⟩)
    · exact .inl ⟨v, w', by rw [hcall]; exact h1, av, _, δ, setH_elim h3, .of_VR h2, hr.step h5 h4⟩
  · exact h'.elim

theorem mut_sound (hT : TabOk P T) (hr : RelD w0 H0 δ s a w) {o : Oper} (hb0 : ∀ d, stl s o = some d → w0.n = w0.w.heap.size) (h : mutOp (AC P) T esc s o K) : OpRuns P o a w (After w0 H0 a K) := by
  obtain ⟨dst, op, type, pos, after, guard⟩ := o
  cases op with
  | alloc t => exact ms_alloc hT hr h
  | box t x => exact ms_box hT hr h
  | buildSlice t n ps => exact ms_buildSlice hT hr h
  | store t x y => exact ms_store hT hr hb0 h
  | makeSlice t l c => exact ms_makeSlice hT hr h
  | convert t u x => exact ms_convert hT hr h
  | call c =>
    obtain ⟨callee, args, tys⟩ := c
    cases callee with
    | value f => exact ms_call hr h
    | builtin b =>
      cases b with
      | append =>
        by_cases hi : ∃ t t' k, tys = #[t, t'] ∧ (T.at t').desc = .int k
        · obtain ⟨t, t', k, rfl, hk⟩ := hi
          exact ms_appendInt hT hr hk h
        · exact ms_append hT hr (fun t t' k h1 h2 => hi ⟨t, t', k, h1, h2⟩) h
      | copy => exact ms_copy hT hr h
      | clear => exact ms_clear hT hr h
      | _ => exact (parts_elim (K := fun L H => _) h).elim
    | invoke r m => exact (parts_elim (K := fun L H => _) h).elim
  | _ => exact (parts_elim (K := fun L H => _) h).elim

/-- an operation, and what becomes of the state behind it -/
theorem opS_sound (hT : TabOk P T) (hb0 : w0.n = w0.w.heap.size) (hr : RelD w0 H0 δ s a w) {o : Oper} {K : St → Prop} (h : opS (AC P) T esc o s K) : OpRuns P o a w fun x w' => ∃ s' δ', K s' ∧ RelD w0 H0 δ' s' (a.put o.dst x) w' := by
  unfold opS at h
  split at h
  · obtain ⟨v, x, h, hx, hrun⟩ := pure_sound hT (fun x => hr.evC x) o h
    obtain ⟨s', h, hr'⟩ := putK_elim h hr hx
    exact .inl ⟨x, w, hrun w, s', δ, h, hr'⟩
  · obtain ⟨v, x, h, hx, hrun⟩ := load_sound hT hr h
    obtain ⟨s', h, hr'⟩ := putK_elim h hr hx
    exact .inl ⟨x, w, hrun, s', δ, h, hr'⟩
  · refine (mut_sound hT hr (fun _ _ => hb0) h).mono fun x w' ⟨v, s', δ', h, hx, hr'⟩ => ?_
    obtain ⟨s'', h, hr''⟩ := putK_elim h hr' hx
    exact ⟨s'', δ', h, hr''⟩

theorem dstAt_eq : ∀ (l : List Oper) (j : Nat), dstAt l j = (l[j]?).bind (·.dst)
  | [], _ => by simp [dstAt]
  | o :: _, 0 => by simp [dstAt]
  | _ :: r, i + 1 => by simp [dstAt, dstAt_eq r i]

/-- is an operation carried out? -/
theorem guardK_elim (hr : RelD w0 H0 δ s a w) {ops : Array Oper} {o : Oper} {yes no : St → Prop} (h : guardK ops.toList o s yes no) :
    ∃ s', RelD w0 H0 δ s' a w ∧ ((Region.wanted o (yielded ops a.tmps) = true ∧ yes s') ∨ (Region.wanted o (yielded ops a.tmps) = false ∧ no s')) := by
  unfold guardK at h
  cases hg : o.guard with
  | none => rw [hg] at h; exact ⟨s, hr, .inl ⟨by simp [Region.wanted, hg], h⟩⟩
  | some jw =>
    obtain ⟨j, want⟩ := jw
    rw [hg] at h
    simp only at h
    split at h
    · rename_i g hd
      rw [dstAt_eq] at hd
      split at h
      · rename_i hsk
        have hv := hr.env g
        rw [hsk] at hv; simp only [ER, VR] at hv
        refine ⟨s, hr, .inr ⟨?_, h⟩⟩
        have hd' : (ops[j]?).bind (·.dst) = some g := by simpa using hd
        have hy : yielded ops a.tmps j = none := by
          unfold yielded
          rw [hd']
          rw [Array.getD_eq_getD_getElem?] at hv
          cases hgt : a.tmps[g]? with
          | none => simp [hgt]
          | some v => rw [hgt] at hv; simp at hv; subst hv; simp [hgt, undef]
        simp [Region.wanted, hg, hy]
      obtain ⟨b, hb, h1, h2⟩ := boolOf_elim h
      have hv := hb _ _ _ (hr.env g)
      have hy : yielded ops a.tmps j = some b := by
        unfold yielded
        have hd' : (ops[j]?).bind (·.dst) = some g := by simpa using hd
        rw [hd']
        rw [Array.getD_eq_getD_getElem?] at hv
        cases hgt : a.tmps[g]? with
        | none => rw [hgt] at hv; simp [undef] at hv
        | some v => rw [hgt] at hv; simp at hv; subst hv; simp [hgt]
      obtain ⟨n, env, l, H⟩ := s
      have hw : Region.wanted o (yielded ops a.tmps) = (b == want) := by simp [Region.wanted, hg, hy]
      cases b
      · have h2 := h2 rfl
        simp only [St.putT] at h2
        refine ⟨_, hr.same (d := g) (v := .ff) (by rw [hv]; simp only [ER, VR]), ?_⟩
        cases want
        · exact .inl ⟨by rw [hw]; rfl, h2⟩
        · exact .inr ⟨by rw [hw]; rfl, h2⟩
      · have h1 := h1 rfl
        simp only [St.putT] at h1
        refine ⟨_, hr.same (d := g) (v := .tt) (by rw [hv]; simp only [ER, VR]), ?_⟩
        cases want
        · exact .inr ⟨by rw [hw]; rfl, h1⟩
        · exact .inl ⟨by rw [hw]; rfl, h1⟩
    · exact h.elim

theorem opsS_sound (hT : TabOk P T) (hb0 : w0.n = w0.w.heap.size) {ops : Array Oper} {Q : Exit → Act → World → Prop} : ∀ {l : List Oper} {s : St} {δ : Nat → Nat} {a : Act} {w : World} {K : St → Prop}, RelD w0 H0 δ s a w → opsS (AC P) T esc ops.toList l s K →
    (∀ s' δ' a' w', K s' → RelD w0 H0 δ' s' a' w' → Q .normal a' w') → wpList P ops Q l a w
  | [], s, δ, a, w, K, hr, h, hQ => hQ s δ a w h hr
  | o :: r, s, δ, a, w, K, hr, h, hQ => by
    have h : guardK ops.toList o s (fun s => opS (AC P) T esc o s fun s' => opsS (AC P) T esc ops.toList r s' K) (fun s => putK s o.dst .skip fun s' => opsS (AC P) T esc ops.toList r s' K) := h
    obtain ⟨s1, hr1, ⟨hw, h⟩ | ⟨hw, h⟩⟩ := guardK_elim hr h
    · simp only [wpList, hw, if_true]
      refine .inl ((opS_sound hT hb0 hr1 h).wp fun x w' ⟨s', δ', h, hr'⟩ => ?_)
      exact opsS_sound hT hb0 hr' h hQ
    · simp only [wpList, hw]
      obtain ⟨s', h, hr'⟩ := putK_elim h hr1 (x := undef) (by simp only [ER, VR])
      exact opsS_sound hT hb0 hr' h hQ

end
end Go.Proofs.Ytdbedlomiedncaa.Vc
