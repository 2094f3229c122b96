/- For every store and every report that together hold at most 1048576 values and letters the law FnExactPush answers true, and its arguments read as they did. -/
import Derived.Test.YtdbedlomiedncaaLPush
import Derived.Test.YtdbedlomiedncaaRd1
namespace Go.Proofs.Ytdbedlomiedncaa.Vc
open Go Go.ChangeShapes Go.WideShapes Go.RowKit Go.Deep Go.ChangeAt Go.Joins

theorem ownK : ownKnob Try.prog.godebug = none := by kernel_rfl
theorem laidOut : laidOutB Try.prog = true := by kernel_rfl

set_option maxRecDepth 100000 in
theorem pushContract (H : Type) (enc : TypeId × Value → H) (W : World) (base : Nat) (args : Array Value) (ds gs : List (DataW H)) (before : List MemPlace)
    (hval : ∀ (j : Nat) t v, Try.f4.params[j]? = some t → args[j]? = some v → Value.okWide Try.prog W .any base t v)
    (hW : DataW.Whole enc Try.prog Try.f4.params.toList Rows.fnExactPushSpec.vars false W args.toList ds gs before) (hk : Rows.uptoSmall H (ds ++ gs) = true) :
    Calls Try.prog 4 args W fun e W' => ∃ v, e = .returned v ∧ Rows.fnExactPushSpec.post enc Try.prog Try.f4 false true false false W args v W' := by
  have hW' := hW
  obtain ⟨p, q, hA0, hV, rfl, hfz, hnd⟩ := hW
  have hA : DataW.TrodAll enc Try.prog W 0 (fun _ => true) true Try.f4.params.toList args.toList ds p := hA0
  rw [Try.params4] at hA hval
  obtain ⟨v0, vs0, d0, ds0, p0, q0, hargs, rfl, rfl, h0, r0⟩ := trodAll_cons hA
  obtain ⟨v1, vs1, d1, ds1, p1, q1, rfl, rfl, rfl, h1, r1⟩ := trodAll_cons r0
  obtain ⟨rfl, rfl, rfl⟩ := trodAll_nil r1
  obtain rfl : args = #[v0, v1] := by cases args; simp_all
  obtain ⟨rfl, rfl⟩ := trodVars_none hV
  obtain ⟨c0, c1, c2, y0, y1, y2, n, rfl, hd0, _, t0, t1, t2⟩ := open_agg3 Try.underlying32 (by kernel_rfl) (by kernel_rfl) (hval 0 _ v0 rfl rfl) h0
  obtain ⟨n0, e0, _⟩ := DataW.trod_int Try.underlying3 t0
  obtain ⟨n1, e1, _⟩ := DataW.trod_int Try.underlying3 t1
  obtain ⟨v2, a, xs, e2, hv2, hx, hxl, hxk⟩ := rowssRead t2
  obtain ⟨sa, sl, sc, rfl⟩ := okWide_slice Try.underlying22 (hval 1 _ v1 rfl rfl)
  obtain ⟨fuel, t3⟩ := h1
  obtain ⟨v3, b, l, e3, hc3, hv3, hy, hyl, hyk, _⟩ := rowsRead t3
  injection e0 with e0; injection e1 with e1; injection e2 with e2
  subst e0; subst e1; subst e2
  have e3 : Value.slice sa sl sc = v3 := by simpa [Value.cells] using e3
  subst e3
  have hbulk : Rows.uptoBulkAll ([d0, d1] ++ []) ≤ 1048576 := of_decide_eq_true hk
  have hb2 : Rows.uptoBulk y2.1 ≤ 1048576 := by
    subst hd0
    simp only [Rows.uptoBulkAll, Rows.uptoBulk, List.append_nil] at hbulk
    omega
  have hb3 : Rows.uptoBulk d1 ≤ 1048576 := by simp only [Rows.uptoBulkAll, List.append_nil] at hbulk; omega
  have hks : KSS xs := ⟨by omega, fun x hx => ⟨fun r hr => Nat.le_trans ((hxk x hx).2 r hr) hb2, Nat.le_trans (hxk x hx).1 hb2⟩⟩
  refine law_close laidOut (by kernel_rfl) rfl Try.underlying4 rfl rfl rfl rfl hW' ?_
  refine law_calls Try.func4 rfl rfl (exactPush_ok (Hw W) n0 n1 a b 0 0 xs l hx hks hy (fun r hr => Nat.le_trans (hyk r hr) hb3) (Nat.le_trans hyl hb3)) ?_
  rw [hc3] at hv3
  simp only [VRs, VR, and_true, true_and] at hv2 hv3 ⊢
  exact ⟨⟨_, rfl, by simp only [VRs, VR, and_true, true_and]; exact hv2⟩, hv3⟩

set_option maxRecDepth 100000 in
theorem pushLifted (os : Os) (started : os.Started) (H : Type) (enc : TypeId × Value → H) (F : Stop.Interp) :
    ReturnsInHanded {} Try.checked os 4 .any ((Rows.OpenSpec.upto Rows.fnExactPushSpec).pre6 enc Try.prog Try.f4 Rows.fnExactPushUptoRow.domain false) (((Rows.OpenSpec.upto Rows.fnExactPushSpec).at F).post enc Try.prog Try.f4 false true false false) := by
  refine returnsInHanded_of_cond (C := Try.checked) (s := Rows.OpenSpec.upto Rows.fnExactPushSpec) (k := Rows.uptoSmall) rfl ownK started (by kernel_rfl) Try.func4
    (OpenSpec.witness (enc := enc) (C := Try.checked) (s := Rows.OpenSpec.upto Rows.fnExactPushSpec) (k := Rows.uptoSmall) rfl false ⟨#[], #[.agg #[.int .i64 0, .int .i64 0, .slice none 0 0], .slice none 0 0], []⟩ 8 (by kernel_rfl) (by kernel_rfl) (by kernel_rfl)
      (x := ([.agg [.lit (.int .i64 0), .lit (.int .i64 0), .nil], .nil], [], [])) (by kernel_rfl) rfl (by kernel_rfl)) ?_
  intro W base args ds gs before hval hW _ hk _
  exact pushContract H enc W base args ds gs before hval hW hk

theorem pushHolds : Rows.FnExactPushUptoSaid :=
  OpenClaim.holds_of_cond 4 Try.f4 rfl rfl rfl rfl rfl rfl rfl ⟨rfl, rfl, rfl, rfl, rfl⟩ rfl rfl rfl rfl rfl (by kernel_rfl) Try.func4 (by kernel_rfl)
    (of_decide_eq_true (by kernel_rfl)) (by unfold Func.isWrapper; first | (rw [if_pos (by decide +kernel)]; kernel_rfl) | (rw [if_neg (by decide +kernel)]; exact ⟨rfl, rfl⟩))
    (fun os started H enc _ F => pushLifted os started H enc F)

#print axioms pushHolds

end Go.Proofs.Ytdbedlomiedncaa.Vc
