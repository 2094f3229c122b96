/- Code does what its condition says. -/
import Derived.Test.YtdbedlomiedncaaVc13
import Derived.LoopN
namespace Go.Proofs.Ytdbedlomiedncaa.Vc
open Go

theorem HSub.refl (h : Hp) : HSub h h := fun _ r e => ⟨r, e, rfl, id, List.prefix_rfl⟩

theorem HSub.of_eq {h' h : Hp} (e : h' = h) : HSub h' h := e ▸ HSub.refl h'

theorem HSub.trans {h1 h2 h3 : Hp} (x : HSub h1 h2) (y : HSub h2 h3) : HSub h1 h3 := fun b r e => by
  obtain ⟨r2, e2, p1, p2, p3⟩ := x b r e
  obtain ⟨r3, e3, q1, q2, q3⟩ := y b r2 e2
  exact ⟨r3, e3, p1.trans q1, fun h => q2 (p2 h), p3.trans q3⟩

theorem Sat.sub {w h h'} (hs : Sat w h) (x : HSub h' h) : Sat w h' := by
  refine ⟨fun a r ha => ?_, fun a r b r' ha hb hr h1 h2 h3 => ?_, ?_⟩
  · obtain ⟨q, hq, e1, e2, p⟩ := x a r ha
    rcases hs.rows a q hq with ⟨z1, z2, c, E, fr, z3, z4, z5, z6⟩ | ⟨z1, z2⟩
    · have hl := p.length_le
      have := Nat.mul_le_mul_right q.e hl
      refine .inl ⟨z1, by rw [e1]; exact z2, c, E, fr, z3, by rw [e1]; omega, fun h => z5 (e2 h), fun i cs hi => ?_⟩
      have hi' : q.es[i]? = some cs := by
        obtain ⟨t, ht⟩ := p
        rw [← ht, List.getElem?_append_left]
        · exact hi
        · rcases Nat.lt_or_ge i r.es.length with h' | h'
          · exact h'
          · rw [List.getElem?_eq_none h'] at hi; cases hi
      rw [e1]; exact z6 i cs hi'
    · rw [z2] at p
      exact .inr ⟨z1, List.prefix_nil.1 p⟩
  · obtain ⟨q, hq, _, e2, _⟩ := x a r ha
    obtain ⟨q', hq', _⟩ := x b r' hb
    exact hs.excl a q b q' hq hq' (e2 hr) h1 h2 h3
  · obtain ⟨N, hN⟩ := hs.ghost
    refine ⟨N, fun k hk => ?_⟩
    cases hg : h'.get ⟨0, 0, some k⟩ with
    | none => rfl
    | some r => obtain ⟨q, hq, _⟩ := x _ r hg; rw [hN k hk] at hq; cases hq

theorem Fr.sub {w0 h0 w h h'} (hf : Fr w0 h0 w h) (x : HSub h' h) : Fr w0 h0 w h' where
  size := hf.size
  keep := hf.keep
  owns b hb := by
    obtain ⟨a, r, h1, h2, h3, h4⟩ := hb
    obtain ⟨q, hq, _, e2, _⟩ := x a r h1
    exact hf.owns b ⟨a, q, hq, e2 h2, h3, h4⟩
  blks a r ha hs := by
    obtain ⟨q, hq, _⟩ := x a r ha
    exact hf.blks a q hq hs
  bl := hf.bl
  os := hf.os
  out := hf.out
  tape := hf.tape

section
variable {P : Program} {T : Tab} {w0 : Base} {H0 : Hp} {δ : Nat → Nat} {s : St} {a : Act} {w : World} {esc : List Nat} {D : Nat → Sch}

theorem vle_ER {B} {v v1 : AV} {x : Value} (h : vle v v1) (hx : ER δ B v x) : ER δ B v1 x := by
  rcases h with rfl | rfl | ⟨rfl, b, e, o, rfl⟩
  · exact hx
  · simp only [ER, VR]
  · simp only [ER, VR] at *; right; exact ⟨rfl, none, hx⟩

theorem cle_VRs {B} : ∀ {cs c1 : List AV} {vs : List Value}, cle cs c1 → VRs B cs vs → VRs B c1 vs
  | [], [], vs, _, h => h
  | v :: r, v1 :: r1, vs, h, hv => by
    simp only [cle] at h
    cases vs with
    | nil => simp only [VRs] at hv
    | cons x xs =>
      simp only [VRs] at *
      refine ⟨?_, cle_VRs h.2 hv.2⟩
      rcases h.1 with rfl | ⟨rfl, b, e, o, rfl⟩
      · exact hv.1
      · have := hv.1
        simp only [VR] at this ⊢; right; exact ⟨rfl, none, this⟩
  | [], _ :: _, _, h, _ => by simp only [cle] at h
  | _ :: _, [], _, h, _ => by simp only [cle] at h

theorem cle_cells : ∀ {cs c1 : List AV}, cle cs c1 → allCells cs = true → allCells c1 = true
  | [], [], _, _ => rfl
  | v :: r, v1 :: r1, h, hc => by
    simp only [cle] at h
    simp only [allCells, Bool.and_eq_true] at *
    refine ⟨?_, cle_cells h.2 hc.2⟩
    rcases h.1 with rfl | ⟨rfl, b, e, o, rfl⟩
    · exact hc.1
    · rfl
  | [], _ :: _, h, _ => by simp only [cle] at h
  | _ :: _, [], h, _ => by simp only [cle] at h

theorem envLe_get {env : List (Nat × AV)} : ∀ {env1 : List (Nat × AV)} (t : Nat), envLe env env1 → vle (alGet .undef env t) (alGet .undef env1 t)
  | [], t, _ => .inr (.inl rfl)
  | (d, v) :: r, t, h => by
    simp only [envLe] at h
    simp only [alGet_cons]
    by_cases e : d = t
    · subst e; rw [if_pos rfl]; exact h.1
    · rw [if_neg e]; exact envLe_get t h.2

theorem locLe_get {loc : List (Nat × List AV)} : ∀ {loc1 : List (Nat × List AV)} {t : Nat} {c1}, locLe loc loc1 → locGet loc1 t = some c1 → ∃ c, locGet loc t = some c ∧ cle c c1
  | [], t, c1, _, h => by simp [locGet] at h
  | (d, c0) :: r, t, c1, h, hg => by
    simp only [locLe] at h
    simp only [locGet_cons] at hg
    by_cases e : d = t
    · subst e; rw [if_pos rfl] at hg; injection hg with hg; subst hg; exact h.1
    · rw [if_neg e] at hg; exact locLe_get h.2 hg

theorem RelD.wk {s1} (h : RelD w0 H0 δ s a w) (hw : Wk s s1) : RelD w0 H0 δ s1 a w := by
  obtain ⟨n, env, l, H⟩ := s
  obtain ⟨n1, env1, l1, H1⟩ := s1
  obtain ⟨h1, h2, h3, h4⟩ := hw
  simp only at h1 h2 h3 h4
  subst h1
  refine ⟨h.size, h.dfr, fun t => vle_ER (envLe_get t h2) (h.env t), fun d c1 hd => ?_, fun d d' c c' hc hc' he => ?_, h.sat.sub h4, h.frm.sub h4, h.base⟩
  · obtain ⟨c, hc, hcl⟩ := locLe_get h3 hd
    obtain ⟨⟨cc, E, fr, q1, q2, q3, q4⟩, q5, q6⟩ := h.loc d c hc
    exact ⟨⟨cc, E, fr, q1, cle_VRs hcl q2, cle_cells hcl q3, q4⟩, q5, fun ⟨b, r, z1, z2, z3⟩ => q6 (by obtain ⟨r', z4, _⟩ := h4 b r z1; exact ⟨b, r', z4, z2, z3⟩)⟩
  · obtain ⟨c1, hc, _⟩ := locLe_get h3 hc
    obtain ⟨c2, hc', _⟩ := locLe_get h3 hc'
    exact h.inj d d' _ _ hc hc' he

def exOf : Ex → Exit
  | .normal => .normal
  | .ret => .ret
  | .exit id => .exit id

/-- the states that Q takes -/
def Lift (w0 : Base) (H0 : Hp) (Q : Ex → St → Prop) (e : Exit) (a : Act) (w : World) : Prop := ∃ ex s δ, e = exOf ex ∧ Q ex s ∧ RelD w0 H0 δ s a w

theorem vc_sound (hT : TabOk P T) (hmix : P.follows .mixedOrders = true) (hb0 : w0.n = w0.w.heap.size) : ∀ (c : Code) {Q : Ex → St → Prop} {s : St} {δ : Nat → Nat} {a : Act} {w : World}, RelD w0 H0 δ s a w → vc (AC P) T D esc c Q s → c.wp P (Lift w0 H0 Q) a w
  | .skip, Q, s, δ, a, w, hr, h => wp_skip ⟨.normal, s, δ, rfl, h, hr⟩
  | .ret, Q, s, δ, a, w, hr, h => wp_ret ⟨.ret, s, δ, rfl, h, hr⟩
  | .exit id, Q, s, δ, a, w, hr, h => wp_exit ⟨.exit id, s, δ, rfl, h, hr⟩
  | .region id ops draw, Q, s, δ, a, w, hr, h => by
    cases draw
    · exact wp_region_list (opsS_sound hT hb0 hr h fun s' δ' a' w' hK hr' => ⟨.normal, s', δ', rfl, hK, hr'⟩)
    · have h : Drawn T ops (D id) (opsD (AC P) T esc ops.toList (D id) [] s fun s' => Q .normal s') := h
      exact drawn_sound hT hmix hb0 hr h fun s' δ' a' w' hK hr' => ⟨.normal, s', δ', rfl, hK, hr'⟩
  | .seq x y, Q, s, δ, a, w, hr, h => by
    refine wp_seq (wp_mono (vc_sound hT hmix hb0 x hr h) fun e a' w' ⟨ex, s', δ', he, hQ, hr'⟩ => ?_)
    subst he
    cases ex with
    | normal => exact vc_sound hT hmix hb0 y hr' hQ
    | ret => exact ⟨.ret, s', δ', rfl, hQ, hr'⟩
    | exit id => exact ⟨.exit id, s', δ', rfl, hQ, hr'⟩
  | .cond c x y, Q, s, δ, a, w, hr, h => by
    obtain ⟨b, hb, h1, h2⟩ := boolOf_elim h
    exact wp_cond_split (hb _ _ _ (hr.ev c)) (fun e => vc_sound hT hmix hb0 x hr (h1 e)) (fun e => vc_sound hT hmix hb0 y hr (h2 e))
  | .block id x, Q, s, δ, a, w, hr, h => by
    refine wp_block (wp_mono (vc_sound hT hmix hb0 x hr h) fun e a' w' ⟨ex, s', δ', he, hQ, hr'⟩ => ?_)
    subst he
    cases ex with
    | normal => exact ⟨.normal, s', δ', rfl, hQ, hr'⟩
    | ret => exact ⟨.ret, s', δ', rfl, hQ, hr'⟩
    | exit j =>
      simp only [exOf, Exit.inBlock]
      simp only at hQ
      split at hQ
      · rename_i e
        rw [if_pos (Nat.eq_of_beq_eq_true e)]
        exact ⟨.normal, s', δ', rfl, hQ, hr'⟩
      · rename_i e
        rw [if_neg (Nat.ne_of_beq_eq_false e)]
        exact ⟨.exit j, s', δ', rfl, hQ, hr'⟩
  | .loop x, Q, s, δ, a, w, hr, h => by
    have rounds : ∀ n {s δ a w}, RelD w0 H0 δ s a w → LoopN (vc (AC P) T D esc x) Q n s → Code.rounds P x (Lift w0 H0 Q) n a w := by
      intro n
      induction n with
      | zero => intro s δ a w _ h; exact h
      | succ n ih =>
        intro s δ a w hr h
        obtain ⟨s1, hw, h⟩ := h
        rw [rounds_succ]
        refine wp_mono (vc_sound hT hmix hb0 x (hr.wk hw) h) fun e a' w' ⟨ex, s', δ', he, hQ, hr'⟩ => ?_
        subst he
        cases ex with
        | normal => exact ih hr' hQ
        | ret => exact ⟨.ret, s', δ', rfl, hQ, hr'⟩
        | exit id => exact ⟨.exit id, s', δ', rfl, hQ, hr'⟩
    have key : ∀ {s}, LoopVC (vc (AC P) T D esc x) Q s → ∀ {δ}, RelD w0 H0 δ s a w → (Code.loop x).wp P (Lift w0 H0 Q) a w := by
      clear h hr
      intro s h
      induction h with
      | run n h => intro δ hr; exact wp_loop_rounds n (rounds n hr h)
      | ghost e h ih =>
        intro δ hr
        obtain ⟨N, hN⟩ := hr.sat.ghost
        exact ih ⟨0, 0, some N⟩ (hN N (Nat.le_refl _)) (hr.step (Fr.phantom (by simp)) (hr.sat.phantom (by simp) rfl))
    exact key h hr
  | .label _, Q, s, δ, a, w, hr, h => h.elim
  | .goto _, Q, s, δ, a, w, hr, h => h.elim
  | .refuse _, Q, s, δ, a, w, hr, h => h.elim
  | .scope _, Q, s, δ, a, w, hr, h => h.elim
  | .rangeFunc _ _ _ _, Q, s, δ, a, w, hr, h => h.elim

end
end Go.Proofs.Ytdbedlomiedncaa.Vc
