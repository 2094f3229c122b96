/- For every code the law FnRolling answers true, and its argument reads as it did. -/
import Derived.Test.YtdbedlomiedncaaLRolling
import Derived.Test.YtdbedlomiedncaaRd2
namespace Go.Proofs.Ytdbedlomiedncaa.Vc
open Go Go.ChangeShapes Go.WideShapes Go.RowKit Go.Deep Go.ChangeAt Go.Joins

theorem ownK : ownKnob Try.prog.godebug = none := by kernel_rfl
theorem laidOut : laidOutB Try.prog = true := by kernel_rfl

set_option maxRecDepth 100000 in
theorem rollingContract (H : Type) (enc : TypeId × Value → H) (W : World) (base : Nat) (args : Array Value) (ds gs : List (DataW H)) (before : List MemPlace)
    (hval : ∀ (j : Nat) t v, Try.f8.params[j]? = some t → args[j]? = some v → Value.okWide Try.prog W .any base t v)
    (hW : DataW.Whole enc Try.prog Try.f8.params.toList Rows.fnRollingSpec.vars false W args.toList ds gs before) (hk : Rows.uptoSmall H (ds ++ gs) = true) :
    Calls Try.prog 8 args W fun e W' => ∃ v, e = .returned v ∧ Rows.fnRollingSpec.post enc Try.prog Try.f8 false true false false W args v W' := by
  have hW' := hW
  obtain ⟨p, q, hA0, hV, rfl, hfz, hnd⟩ := hW
  have hA : DataW.TrodAll enc Try.prog W 0 (fun _ => true) true Try.f8.params.toList args.toList ds p := hA0
  rw [Try.params8] at hA hval
  obtain ⟨v0, vs0, d0, ds0, p0, q0, hargs, rfl, rfl, h0, r0⟩ := trodAll_cons hA
  obtain ⟨rfl, rfl, rfl⟩ := trodAll_nil r0
  obtain rfl : args = #[v0] := by cases args; simp_all
  obtain ⟨rfl, rfl⟩ := trodVars_none hV
  obtain ⟨sa, sl, sc, rfl⟩ := okWide_slice (show Try.prog.underlying bytesT = some (.slice 5) from by kernel_rfl) (hval 0 _ v0 rfl rfl)
  obtain ⟨fuel, t0⟩ := h0
  obtain ⟨v, a, bs, e0, hv, hx⟩ := bytesRead t0
  have e0 : Value.slice sa sl sc = v := by simpa [Value.cells] using e0
  subst e0
  refine law_close laidOut (by kernel_rfl) rfl Try.underlying4 rfl rfl rfl rfl hW' ?_
  refine law_calls Try.func8 rfl rfl (rolling_ok (Hw W) a 0 bs hx) ?_
  simp only [VRs, and_true]
  exact hv

set_option maxRecDepth 100000 in
theorem rollingLifted (os : Os) (started : os.Started) (H : Type) (enc : TypeId × Value → H) (F : Stop.Interp) :
    ReturnsInHanded {} Try.checked os 8 .any ((Rows.OpenSpec.upto Rows.fnRollingSpec).pre6 enc Try.prog Try.f8 Rows.fnRollingUptoRow.domain false) (((Rows.OpenSpec.upto Rows.fnRollingSpec).at F).post enc Try.prog Try.f8 false true false false) := by
  refine returnsInHanded_of_cond (C := Try.checked) (s := Rows.OpenSpec.upto Rows.fnRollingSpec) (k := Rows.uptoSmall) rfl ownK started (by kernel_rfl) Try.func8
    (OpenSpec.witness (enc := enc) (C := Try.checked) (s := Rows.OpenSpec.upto Rows.fnRollingSpec) (k := Rows.uptoSmall) rfl false ⟨#[], #[.slice none 0 0], []⟩ 8 (by kernel_rfl) (by kernel_rfl) (by kernel_rfl)
      (x := ([.nil], [], [])) (by kernel_rfl) rfl (by kernel_rfl)) ?_
  intro W base args ds gs before hval hW _ hk _
  exact rollingContract H enc W base args ds gs before hval hW hk

theorem rollingHolds : Rows.FnRollingUptoSaid :=
  OpenClaim.holds_of_cond 8 Try.f8 rfl rfl rfl rfl rfl rfl rfl ⟨rfl, rfl, rfl, rfl, rfl⟩ rfl rfl rfl rfl rfl (by kernel_rfl) Try.func8 (by kernel_rfl)
    (of_decide_eq_true (by kernel_rfl)) (by unfold Func.isWrapper; first | (rw [if_pos (by decide +kernel)]; kernel_rfl) | (rw [if_neg (by decide +kernel)]; exact ⟨rfl, rfl⟩))
    (fun os started H enc _ F => rollingLifted os started H enc F)

#print axioms rollingHolds

end Go.Proofs.Ytdbedlomiedncaa.Vc
