/- Contracts of functions, out of the condition of their bodies. -/
import Derived.Test.YtdbedlomiedncaaVc14
namespace Go.Proofs.Ytdbedlomiedncaa.Vc
open Go

section
variable {P : Program} {T : Tab} {w0 : Base} {H0 : Hp} {δ : Nat → Nat} {s : St} {a : Act} {w : World} {esc : List Nat} {D : Nat → Sch}

/-- a code from a state, to the states of Q -/
def SVC (P : Program) (c : Code) (Q : Ex → St → Prop) (s : St) : Prop := ∀ (w0 : Base) (H0 : Hp) (δ : Nat → Nat) (a : Act) (w : World), w0.n = w0.w.heap.size → RelD w0 H0 δ s a w → c.wp P (Lift w0 H0 Q) a w

theorem SVC.of_vc (hT : TabOk P T) (hmix : P.follows .mixedOrders = true) {c Q} (h : vc (AC P) T D esc c Q s) : SVC P c Q s := fun _ _ _ _ _ hb0 hr => vc_sound hT hmix hb0 c hr h

theorem SVC.mono {c} {Q Q' : Ex → St → Prop} (h : SVC P c Q s) (hQ : ∀ e s, Q e s → Q' e s) : SVC P c Q' s := fun w0 H0 δ a w hb0 hr =>
  wp_mono (h w0 H0 δ a w hb0 hr) fun _ _ _ ⟨ex, s', δ', he, hq, hr'⟩ => ⟨ex, s', δ', he, hQ _ _ hq, hr'⟩

theorem SVC.wk {c Q} {s1 : St} (h : SVC P c Q s1) (hw : Wk s s1) : SVC P c Q s := fun w0 H0 δ a w hb0 hr => h w0 H0 δ a w hb0 (hr.wk hw)

theorem SVC.seq {x y Q} (h : SVC P x (fun e s' => match e with | .normal => SVC P y Q s' | .ret => Q .ret s' | .exit id => Q (.exit id) s') s) : SVC P (.seq x y) Q s := fun w0 H0 δ a w hb0 hr => by
  refine wp_seq (wp_mono (h w0 H0 δ a w hb0 hr) fun e a' w' ⟨ex, s', δ', he, hQ, hr'⟩ => ?_)
  subst he
  cases ex with
  | normal => exact hQ w0 H0 δ' a' w' hb0 hr'
  | ret => exact ⟨.ret, s', δ', rfl, hQ, hr'⟩
  | exit id => exact ⟨.exit id, s', δ', rfl, hQ, hr'⟩

theorem SVC.block {id x Q} (h : SVC P x (fun e s' => match e with | .normal => Q .normal s' | .ret => Q .ret s' | .exit j => match Nat.beq j id with | true => Q .normal s' | false => Q (.exit j) s') s) : SVC P (.block id x) Q s := fun w0 H0 δ a w hb0 hr => by
  refine wp_block (wp_mono (h w0 H0 δ a w hb0 hr) fun e a' w' ⟨ex, s', δ', he, hQ, hr'⟩ => ?_)
  subst he
  cases ex with
  | normal => exact ⟨.normal, s', δ', rfl, hQ, hr'⟩
  | ret => exact ⟨.ret, s', δ', rfl, hQ, hr'⟩
  | exit j =>
    simp only [exOf, Exit.inBlock]
    simp only at hQ
    split at hQ
    · rename_i e
      rw [if_pos (Nat.eq_of_beq_eq_true e)]
      exact ⟨.normal, s', δ', rfl, hQ, hr'⟩
    · rename_i e
      rw [if_neg (Nat.ne_of_beq_eq_false e)]
      exact ⟨.exit j, s', δ', rfl, hQ, hr'⟩

theorem Wk.refl (s : St) (h1 : envLe s.env s.env) (h2 : locLe s.loc s.loc) : Wk s s := ⟨rfl, h1, h2, HSub.refl _⟩

/-- a loop, by a family of states and a measure -/
theorem LoopVC.intro {X : Type} {body : (Ex → St → Prop) → St → Prop} {Q : Ex → St → Prop} (S : X → St) (I : X → Prop) (m : X → Nat)
    (step : ∀ x, I x → ∀ K : St → Prop, (∀ x' s', I x' → m x' < m x → Wk s' (S x') → K s') → body (fun e s' => match e with | .normal => K s' | .ret => Q .ret s' | .exit id => Q (.exit id) s') (S x))
    {s : St} (x0 : X) (h0 : I x0) (hs : Wk s (S x0)) : LoopVC body Q s := by
  have key : ∀ n x, I x → m x < n → ∀ s, Wk s (S x) → LoopN body Q n s := by
    intro n
    induction n with
    | zero => intro x _ h; omega
    | succ n ih =>
      intro x hx hm s hs
      exact ⟨S x, hs, step x hx _ fun x' s' h1 h2 h3 => ih x' h1 (by omega) s' h3⟩
  exact .run _ (key _ x0 h0 (Nat.lt_succ_self _) s hs)

theorem run_mapM {α β : Type} (f : α → Sem β) (w : World) : ∀ (l : List α) (vs : List β), (∀ (i : Nat) (x : α), l[i]? = some x → ∃ v, vs[i]? = some v ∧ (f x).run P w = .ok v w) → l.length = vs.length → (l.mapM f).run P w = .ok vs w
  | [], [], _, _ => by simp
  | x :: l, v :: vs, h, hl => by
    obtain ⟨v', h1, h2⟩ := h 0 x rfl
    simp at h1; subst h1
    have ih := run_mapM f w l vs (fun i y hy => h (i + 1) y (by simpa using hy)) (by simpa using hl)
    rw [List.mapM_cons]
    simp [Sem.run_bind, h2, ih]
  | [], _ :: _, _, h => by simp at h
  | _ :: _, [], _, h => by simp at h

def resF (tmps : Array Value) : ResultVar → Sem Value
  | .tmp t => pure (tmps.getD t undef)
  | .cell a t => do loadVar t (← asAddr (tmps.getD a undef))

theorem resOne_elim (hT : TabOk P T) (hr : RelD w0 H0 δ s a w) {r : ResultVar} {K : AV → Prop} (h : resOne T s r K) : ∃ v x, K v ∧ ER δ (bs w) v x ∧ (resF a.tmps r).run P w = .ok x w := by
  have h := parts_elim (K := fun L H => _) h
  cases r with
  | tmp t =>
    simp only [resF] at h ⊢
    obtain ⟨v, h, hv, _⟩ := force_elim h
    exact ⟨v, _, h, hv _ _ _ (hr.env t).sl, by simp⟩
  | cell p t =>
    simp only [resF] at h ⊢
    have hp := hr.env p
    split at h
    · rename_i d f ev
      rw [ev] at hp; simp only [ER] at hp
      split at h
      · rename_i cs hl
        obtain ⟨v, x, h1, _, h3, h4⟩ := load_loc hT (hr.loc d cs hl).1 h
        exact ⟨v, x, h1, .of_VR h3, by rw [hp]; simp [asAddr, h4]⟩
      · exact h.elim
    · rename_i b e i f ev
      rw [ev] at hp; simp only [ER, VR] at hp
      obtain ⟨v, x, h1, _, h3, h4⟩ := load_row hT hr.sat h
      exact ⟨v, x, h1, .of_VR h3, by rw [hp.2]; simp [asAddr, h4 hp.1]⟩
    · exact h.elim

theorem resAll_elim (hT : TabOk P T) (hr : RelD w0 H0 δ s a w) : ∀ {rs : List ResultVar} {K : List AV → Prop}, resAll T s rs K → ∃ vs xs, K vs ∧ ERs δ (bs w) vs xs ∧ vs.length = rs.length ∧
    (rs.mapM (resF a.tmps)).run P w = .ok xs w
  | [], K, h => ⟨[], [], h, by simp only [ERs], rfl, by simp⟩
  | r :: rs, K, h => by
    simp only [resAll] at h
    obtain ⟨v, x, h, hx, hrun⟩ := resOne_elim hT hr h
    obtain ⟨vs, xs, h, hxs, hl, hruns⟩ := resAll_elim hT hr h
    refine ⟨v :: vs, x :: xs, h, by simp only [ERs]; exact ⟨hx, hxs⟩, by simp [hl], ?_⟩
    rw [List.mapM_cons]
    rw [Sem.run_bind, hrun]
    simp [Sem.run_bind, hruns]

theorem resK_elim (hT : TabOk P T) (hr : RelD w0 H0 δ s a w) {fn : Func} {K : AV → Prop} (h : resK T s fn.results.toList K) : ∃ v x, K v ∧ VR (bs w) v x ∧ (results fn a.tmps).run P w = .ok x w := by
  obtain ⟨vs, xs, h, hxs, hl, hrun⟩ := resAll_elim hT hr h
  obtain ⟨hfl, h⟩ := ifB_elim h
  have hv := hxs.flat hfl
  have hlen := hv.length
  have hres : (results fn a.tmps).run P w = .ok (if h : xs.toArray.size = 1 then xs.toArray[0] else .tuple xs.toArray) w := by
    have e : results fn a.tmps = (do let vs ← fn.results.mapM (resF a.tmps); pure (if h : vs.size = 1 then vs[0] else .tuple vs)) := rfl
    rw [e, Array.mapM_eq_mapM_toList, Sem.run_bind]
    have : (List.toArray <$> fn.results.toList.mapM (resF a.tmps)).run P w = .ok xs.toArray w := by
      simp [Sem.run_map, hrun]
    rw [this]
    simp
  have many : ∀ K' : AV → Prop, K' (.tuple vs) → vs.length ≠ 1 → ∃ v x, K' v ∧ VR (bs w) v x ∧ (results fn a.tmps).run P w = .ok x w := by
    intro K' hK hne
    refine ⟨_, .tuple xs.toArray, hK, by simp only [VR]; exact ⟨_, rfl, by simpa using hv⟩, ?_⟩
    rw [hres, dif_neg]
    intro h1
    exact hne (by rw [hlen]; simpa using h1)
  match vs, xs, h, hv, hlen, hres, many with
  | [], _, h, _, _, _, many => exact many K h (by simp)
  | [v], [x], h, hv, _, hres, _ =>
    simp only [VRs, and_true] at hv
    exact ⟨v, x, h, hv, by rw [hres]; simp⟩
  | [_], [], _, _, hlen, _, _ => simp at hlen
  | [_], _ :: _ :: _, _, _, hlen, _, _ => simp at hlen
  | v :: v' :: r, _, h, _, _, _, many => exact many K h (by simp)

theorem params_elim {δ : Nat → Nat} {B} : ∀ {args : List AV} {i : Nat} {vs : List Value} {K : List (Nat × AV) → Prop}, params i args K → VRs B args vs →
    ∃ env, K env ∧ ∀ t, (t < i ∨ vs.length + i ≤ t → alGet .undef env t = .undef) ∧ ∀ x, vs[t]? = some x → ER δ B (alGet .undef env (t + i)) x
  | [], i, vs, K, h, hv => ⟨[], h, fun t => ⟨fun _ => rfl, fun x _ => by simp only [alGet, ER, VR]⟩⟩
  | v :: r, i, [], K, h, hv => by simp only [VRs] at hv
  | v :: r, i, x :: xs, K, h, hv => by
    simp only [VRs] at hv
    simp only [params] at h
    obtain ⟨v', h, hv', _⟩ := force_elim h
    obtain ⟨env, h, he⟩ := params_elim (δ := δ) (B := B) h hv.2
    refine ⟨_, h, fun t => ⟨fun ht => ?_, fun y hy => ?_⟩⟩
    · simp only [alGet_cons]
      simp only [List.length_cons] at ht
      rw [if_neg (by omega)]
      exact (he t).1 (by omega)
    · cases t with
      | zero => simp at hy; subst hy; simp only [alGet_cons, Nat.zero_add, if_true]; exact hv' _ _ _ (.of_VR hv.1)
      | succ t =>
        simp only [alGet_cons]
        rw [if_neg (by omega)]
        have := (he t).2 y (by simpa using hy)
        rwa [show t + 1 + i = t + (i + 1) from by omega]

theorem AC_of_svc (hT : TabOk P T) {f : Nat} {fn : Func} {c : Code} {args : List AV} {H : Hp} {R : AV → Hp → Prop} (hf : P.funcs[f]? = some fn) (hb : fn.body = some c) (hname : (fn.name == "runtime.NumGoroutine") = false)
    (hn : Nat.ble args.length fn.ntmps = true) (h : params 0 args fun env => SVC P c (retQ T fn.results.toList R) ⟨fn.ntmps, env, [], H⟩) : AC P f args H R := by
  unfold AC
  intro w vs hs hv
  have hlen := hv.length
  have hn := Nat.le_of_ble_eq_true hn
  obtain ⟨env, h, henv⟩ := params_elim (δ := fun _ => 0) h hv
  refine .inl ⟨?_, ?_⟩
  · simp [callFunc, hf, hb, (by simpa using hname : ¬fn.name = "runtime.NumGoroutine")]
  · refine calls_of_wp hf hb ?_
    have hr : RelD ⟨w, w.heap.size⟩ H (fun _ => 0) ⟨fn.ntmps, env, [], H⟩ { tmps := vs.toArray ++ Array.replicate (fn.ntmps - vs.toArray.size) undef, defers := [] } w := by
      refine ⟨by simp; omega, rfl, fun t => ?_, fun d cs hd => by simp [locGet] at hd, fun d d' c c' hd => by simp [locGet] at hd, hs, Fr.refl _ _, Nat.le_refl _⟩
      obtain ⟨h1, h2⟩ := henv t
      rcases Nat.lt_or_ge t vs.length with ht | ht
      · have := h2 vs[t] (by simp [ht])
        simp only [Nat.add_zero] at this
        rw [Array.getD_eq_getD_getElem?, Array.getElem?_append_left (by simpa using ht)]
        simpa [ht, St.val] using this
      · simp only [St.val, h1 (.inr ht), ER, VR]
    refine wp_mono (h _ _ _ _ _ rfl hr) fun e a' w' ⟨ex, s', δ', he, hQ, hr'⟩ => ?_
    subst he
    have fin : resK T s' fn.results.toList (fun v => s'.parts fun _ H => R v H) → a'.defers = [] ∧ ∃ v, (results fn a'.tmps).run P w' = .ok v w' ∧ ∃ v', Ending.returned v = .returned v' ∧ ∃ av H', VR (bs w') av v' ∧ R av H' ∧ Sat w' H' ∧ Fr w H w' H' := by
      intro hq
      obtain ⟨v, x, h1, h2, h3⟩ := resK_elim hT hr' hq
      exact ⟨hr'.dfr, x, h3, x, rfl, v, _, h2, parts_elim h1, hr'.sat, hr'.frm⟩
    cases ex with
    | normal => exact fin hQ
    | ret => exact fin hQ
    | exit id => exact hQ.elim

theorem AC_of_vc (hT : TabOk P T) (hmix : P.follows .mixedOrders = true) {f : Nat} {fn : Func} {c : Code} {args : List AV} {H : Hp} {R : AV → Hp → Prop} (hf : P.funcs[f]? = some fn) (hb : fn.body = some c) (hname : (fn.name == "runtime.NumGoroutine") = false)
    (hn : Nat.ble args.length fn.ntmps = true) (h : fnVC (AC P) T D esc fn c args H R) : AC P f args H R := by
  refine AC_of_svc hT hf hb hname hn ?_
  unfold fnVC at h
  have mono : ∀ (args : List AV) (i : Nat) {K K' : List (Nat × AV) → Prop}, (∀ e, K e → K' e) → params i args K → params i args K' := by
    intro args
    induction args with
    | nil => intro i K K' hK h; exact hK _ h
    | cons v r ih =>
      intro i K K' hK h
      simp only [params] at h ⊢
      cases v <;> simp only [force] at h ⊢ <;> exact ih _ (fun e he => hK _ he) h
  exact mono args 0 (fun env h => SVC.of_vc hT hmix h) h

end
end Go.Proofs.Ytdbedlomiedncaa.Vc
