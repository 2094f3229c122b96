/- A region whose order is open does what its condition says: the whole. -/
import Derived.Test.YtdbedlomiedncaaVc12
namespace Go.Proofs.Ytdbedlomiedncaa.Vc
open Go

section
variable {P : Program} {T : Tab} {w0 : Base} {H0 : Hp} {δ : Nat → Nat} {s : St} {a : Act} {w : World} {esc : List Nat} {ops : Array Oper}

def fst? : List (Nat × Place) → Nat → Option Place
  | [], _ => none
  | (i, p) :: r, j => if i = j then some p else fst? r j

theorem pick1_elim {j : Nat} {K : Place → Prop} : ∀ {rs : List (Nat × Place)}, pick1 rs j K → ∃ p, fst? rs j = some p ∧ K p
  | [], h => by simp only [pick1] at h
  | (i, p) :: r, h => by
    simp only [pick1] at h
    simp only [fst?]
    split at h
    · rename_i e; rw [if_pos (Nat.eq_of_beq_eq_true e)]; exact ⟨p, rfl, h⟩
    · rename_i e; rw [if_neg (Nat.ne_of_beq_eq_false e)]; exact pick1_elim h

theorem picks_elim {rs : List (Nat × Place)} : ∀ {ps : List Nat} {K : List (Nat × Place) → Prop}, picks rs ps K →
    ∃ rs', K rs' ∧ (∀ j ∈ ps, ∃ p, fst? rs j = some p ∧ (j, p) ∈ rs') ∧ (∀ j p, fst? rs' j = some p → fst? rs j = some p ∧ (j, p) ∈ rs')
  | [], K, h => ⟨[], h, by simp, by simp [fst?]⟩
  | i :: r, K, h => by
    simp only [picks] at h
    obtain ⟨p, hp, h⟩ := pick1_elim h
    obtain ⟨rs', hK, h1, h2⟩ := picks_elim h
    refine ⟨_, hK, fun j hj => ?_, fun j q hq => ?_⟩
    · rcases List.mem_cons.1 hj with rfl | hj
      · exact ⟨p, hp, List.mem_cons_self⟩
      · obtain ⟨q, h3, h4⟩ := h1 j hj; exact ⟨q, h3, List.mem_cons_of_mem _ h4⟩
    · simp only [fst?] at hq
      by_cases e : i = j
      · subst e; rw [if_pos rfl] at hq; injection hq with hq; subst hq; exact ⟨hp, List.mem_cons_self⟩
      · rw [if_neg e] at hq
        obtain ⟨h3, h4⟩ := h2 j q hq; exact ⟨h3, List.mem_cons_of_mem _ h4⟩

theorem nthO_eq : ∀ (l : List Oper) (i : Nat), nthO l i = l[i]?
  | [], _ => by simp [nthO]
  | o :: _, 0 => by simp [nthO]
  | _ :: r, i + 1 => by simp [nthO, nthO_eq r i]

def isRead (T : Tab) (ops : Array Oper) (j : Nat) : Prop := ∃ o, ops[j]? = some o ∧ cls T o = 1

def Inv (T : Tab) (ops : Array Oper) (R : Reads) (rs : List (Nat × Place)) (l : Array Bool) (δ : Nat → Nat) (s : St) (w : World) : Prop :=
  ∀ jr ∈ R, l.getD jr.1 false = true ∧ ((∀ w', jr.2 w') ∨ (isRead T ops jr.1 ∧ ∀ p, fst? rs jr.1 = some p → PlaceOk δ p jr.2 s w))

theorem Inv.quiet {R rs l s w s'} (h : Inv T ops R rs l δ s w) (hs : s'.hp = s.hp) (hl : s'.loc = s.loc) {i : Nat} (hi : l.getD i false = false) (x : List (Nat × Place)) (hx : ∀ j, j ≠ i → fst? (x ++ rs) j = fst? rs j) : Inv T ops R (x ++ rs) (l.setIfInBounds i true) δ s' w := by
  intro jr hjr
  obtain ⟨h1, h2⟩ := h jr hjr
  refine ⟨getD_set_true h1, ?_⟩
  have hne : jr.1 ≠ i := fun e => by rw [e, hi] at h1; cases h1
  rcases h2 with h2 | ⟨h2, h3⟩
  · exact .inl h2
  · refine .inr ⟨h2, fun p hp => ?_⟩
    rw [hx _ hne] at hp
    exact (h3 p hp).env hs hl

theorem putK_hp {d v x} {K : St → Prop} (h : putK s d v K) (hr : RelD w0 H0 δ s a w) (hx : ER δ (bs w) v x) : ∃ s', K s' ∧ RelD w0 H0 δ s' (a.put d x) w ∧ s'.hp = s.hp ∧ s'.loc = s.loc := by
  obtain ⟨n, env, l, H⟩ := s
  cases d with
  | none => exact ⟨_, h, hr, rfl, rfl⟩
  | some d =>
    simp only [putK] at h
    obtain ⟨hd, h⟩ := ifB_elim h
    simp only [St.putT] at h
    exact ⟨_, h, hr.put hx (Nat.lt_of_succ_le (by simpa [Nat.blt] using hd)), rfl, rfl⟩

theorem guardK_hp (hr : RelD w0 H0 δ s a w) {o : Oper} {yes no : St → Prop} (h : guardK ops.toList o s yes no) :
    ∃ s', RelD w0 H0 δ s' a w ∧ (s'.hp = s.hp ∧ s'.loc = s.loc) ∧ ((Region.wanted o (yielded ops a.tmps) = true ∧ yes s') ∨ (Region.wanted o (yielded ops a.tmps) = false ∧ no s')) := by
  have h' : guardK ops.toList o s (fun s' => (s'.hp = s.hp ∧ s'.loc = s.loc) ∧ yes s') (fun s' => (s'.hp = s.hp ∧ s'.loc = s.loc) ∧ no s') := by
    obtain ⟨n, env, l, H⟩ := s
    unfold guardK at h ⊢
    split at h
    · exact ⟨⟨rfl, rfl⟩, h⟩
    · rename_i j want _
      split at h
      · rename_i g _
        split at h
        · exact ⟨⟨rfl, rfl⟩, h⟩
        unfold boolOf at h ⊢
        split at h
        · unfold Br at h ⊢
          refine ⟨fun e => ?_, fun e => ?_⟩
          · have := h.1 e
            simp only [St.putT] at this ⊢
            cases want <;> exact ⟨⟨rfl, rfl⟩, this⟩
          · have := h.2 e
            simp only [St.putT] at this ⊢
            cases want <;> exact ⟨⟨rfl, rfl⟩, this⟩
        · simp only [St.putT] at h ⊢
          cases want <;> exact ⟨⟨rfl, rfl⟩, h⟩
        · simp only [St.putT] at h ⊢
          cases want <;> exact ⟨⟨rfl, rfl⟩, h⟩
        · exact h.elim
      · exact h.elim
  obtain ⟨s', h1, ⟨h2, h3, h4⟩ | ⟨h2, h3, h4⟩⟩ := guardK_elim hr h'
  · exact ⟨s', h1, h3, .inl ⟨h2, h4⟩⟩
  · exact ⟨s', h1, h3, .inr ⟨h2, h4⟩⟩

theorem fst?_age (l : List (Nat × Place)) (j : Nat) : fst? (age l) j = (fst? l j).map ageP := by
  induction l with
  | nil => rfl
  | cons x r ih =>
    obtain ⟨i, p⟩ := x
    simp only [age, fst?]
    by_cases e : i = j
    · rw [if_pos e, if_pos e]; rfl
    · rw [if_neg e, if_neg e]; exact ih

theorem Two_elim {p q : Prop} (h : Two p q) : p ∧ q := by unfold Two at h; exact h

theorem pend_spec {i : Nat} {ps : List Nat} {l : Array Bool} (h : pend T ops i ps l = true) : ∀ j, l.getD j false = true → isRead T ops j → ¬ Waits ops i j → j ∈ ps := by
  simp only [pend, List.all_eq_true, List.mem_range] at h
  intro j hj ⟨o', ho', hc⟩ hw
  have := h j (Array.getElem?_eq_some_iff.1 ho').1
  simp only [hj, ho', hc, Bool.or_eq_true, Bool.not_true, Bool.false_eq_true, false_or, or_false, List.contains_iff_mem] at this
  rcases this with h | h
  · exact h
  · exact absurd (waitsB_spec h) hw

/-- the condition of one operation and what follows -/
abbrev dOne (AC : Con) (T : Tab) (esc : List Nat) (ops : List Oper) (i : Nat) (ps : List Nat) (r : List (Nat × Place) → St → (St → Prop) → Prop) : List (Nat × Place) → St → (St → Prop) → Prop := dCons AC T esc ops i ps r

/-- a mutator -/
theorem mut_node (hT : TabOk P T) (hb0 : w0.n = w0.w.heap.size) {Q : Exit → Act → World → Prop} {K : St → Prop} {i : Nat} {ps : List Nat} {n : Nat} {l : Array Bool} {R : Reads} {rs : List (Nat × Place)} {o : Oper} {rest : List (Nat × Place) → St → (St → Prop) → Prop}
    (ho : ops[i]? = some o) (hm : isMut T o = true) (hri : i ∈ Region.ready .any ops l) (hps : pend T ops i ps l = true) (hr : RelD w0 H0 δ s a w) (h : dOne (AC P) T esc ops.toList i ps rest rs s K) (hinv : Inv T ops R rs l δ s w)
    (IH : ∀ rs' s' δ' a' w', RelD w0 H0 δ' s' a' w' → rest rs' s' K → Inv T ops R rs' (l.setIfInBounds i true) δ' s' w' → Node P ops (isMut T) Q R n (l.setIfInBounds i true) a' w') :
    OpI P ops (isMut T) R i (Node P ops (isMut T) Q R n (l.setIfInBounds i true)) a w := by
  have hps := pend_spec hps
  simp only [dOne, dCons, nthO_eq] at h
  rw [Array.getElem?_toList, ho] at h
  simp only at h
  obtain ⟨s1, hr1, ⟨hhp, hlp⟩, h⟩ := guardK_hp hr h
  rcases h with ⟨hw, h⟩ | ⟨hw, h⟩
  · split at h
    · rename_i hc; simp [isMut, hc] at hm
    · rename_i hc; simp [isMut, hc] at hm
    · obtain ⟨rs', hmd, hp1, hp2⟩ := picks_elim h
      refine ⟨o, ho, .inl ⟨hm, .inl ⟨hw, ?_⟩⟩⟩
      refine (mutD_sound hT hb0 hr1 hmd).mono fun x w' ⟨v, s2, δ', h, hx, hr2, hkeep⟩ => ?_
      obtain ⟨s', h, hr', hs', hl'⟩ := putK_hp h hr2 hx
      have ok : ∀ jr ∈ R, l.getD jr.1 false = true ∧ ((∀ w', jr.2 w') ∨ (isRead T ops jr.1 ∧ ∀ p, fst? rs jr.1 = some p → PlaceOk δ p jr.2 s1 w)) := fun jr hjr => by
        obtain ⟨h1, h2⟩ := hinv jr hjr
        exact ⟨h1, h2.imp id fun ⟨h2, h3⟩ => ⟨h2, fun p hp => (h3 p hp).env hhp hlp⟩⟩
      refine ⟨fun jr hjr hnw => ?_, IH _ _ _ _ _ hr' h fun jr hjr => ?_⟩
      · obtain ⟨h1, h2⟩ := ok jr hjr
        rcases h2 with h2 | ⟨h2, h3⟩
        · exact h2 w'
        · obtain ⟨p, hp, hmem⟩ := hp1 _ (hps _ h1 h2 hnw)
          exact (hkeep _ hmem _ (h3 p hp)).1
      · obtain ⟨h1, h2⟩ := ok jr hjr
        refine ⟨getD_set_true h1, ?_⟩
        rcases h2 with h2 | ⟨h2, h3⟩
        · exact .inl h2
        · refine .inr ⟨h2, fun p hp => ?_⟩
          unfold aged at hp
          cases hst : stl s1 o with
          | some d =>
            rw [hst] at hp
            obtain ⟨hp', hmem⟩ := hp2 _ _ hp
            have := (hkeep _ hmem _ (h3 p hp')).2
            rw [hst] at this
            exact this.env hs' hl'
          | none =>
            rw [hst] at hp
            simp only [fst?_age, Option.map_eq_some_iff] at hp
            obtain ⟨q, hq, rfl⟩ := hp
            obtain ⟨hp', hmem⟩ := hp2 _ _ hq
            have := (hkeep _ hmem _ (h3 q hp')).2
            rw [hst] at this
            exact this.env hs' hl'
  · obtain ⟨s', h, hr', hs', hl'⟩ := putK_hp h hr1 (x := undef) (by simp only [ER, VR])
    exact ⟨o, ho, .inl ⟨hm, .inr ⟨hw, IH _ _ _ _ _ hr' h (hinv.quiet (hs'.trans hhp) (hl'.trans hlp) (unlisted hri) [(i, .none)] (fun j hj => by simp [fst?, Ne.symm hj]))⟩⟩⟩

theorem opsD_sound (hT : TabOk P T) (hb0 : w0.n = w0.w.heap.size) {Q : Exit → Act → World → Prop} (hsel : ∀ (j : Nat) (o : Oper) cs b, ops[j]? = some o → o.op ≠ .select cs b) {K : St → Prop}
    (hQ : ∀ s' δ' a' w', K s' → RelD w0 H0 δ' s' a' w' → Q .normal a' w') : ∀ (sch : Sch) (n : Nat) (l : Array Bool) (R : Reads) (rs : List (Nat × Place)) (s : St) (δ : Nat → Nat) (a : Act) (w : World),
    sch.len ≤ n → schOk T ops sch l = true → Closed ops l → RelD w0 H0 δ s a w → opsD (AC P) T esc ops.toList sch rs s K → Inv T ops R rs l δ s w → Node P ops (isMut T) Q R n l a w
  | .done, n, l, R, rs, s, δ, a, w, hn, hok, hcl, hr, h, hinv => by
    simp only [schOk, List.isEmpty_iff] at hok
    exact Node.done hok (hQ s δ a w h hr) n
  | .op i ps sch, 0, l, R, rs, s, δ, a, w, hn, hok, hcl, hr, h, hinv => by simp [Sch.len] at hn
  | .two (.op i ps r) (.op j qs t), 0, l, R, rs, s, δ, a, w, hn, hok, hcl, hr, h, hinv => by simp [Sch.len] at hn
  | .two (.op i ps r) (.op j qs t), n + 1, l, R, rs, s, δ, a, w, hn, hok, hcl, hr, h, hinv => by
    have hn1 : r.len ≤ n := by simp only [Sch.len] at hn; omega
    have hn2 : t.len ≤ n := by simp only [Sch.len] at hn; omega
    simp only [schOk, Bool.and_eq_true] at hok
    obtain ⟨⟨hok, hk1⟩, hk2⟩ := hok
    cases ho1 : ops[i]? with
    | none => rw [ho1] at hok; simp at hok
    | some o1 =>
    cases ho2 : ops[j]? with
    | none => rw [ho1, ho2] at hok; simp at hok
    | some o2 =>
    rw [ho1, ho2] at hok
    simp only [Bool.and_eq_true, beq_iff_eq] at hok
    obtain ⟨⟨⟨⟨m1, m2⟩, hrd⟩, p1⟩, p2⟩ := hok
    have hi : i ∈ Region.ready .any ops l := by rw [hrd]; simp
    have hj : j ∈ Region.ready .any ops l := by rw [hrd]; simp
    obtain ⟨h1, h2⟩ := Two_elim h
    refine ⟨fun h => (by rw [h] at hrd; cases hrd), fun k hk => ?_⟩
    rw [hrd] at hk
    rcases List.mem_cons.1 hk with rfl | hk
    · exact mut_node hT hb0 ho1 m1 hi p1 hr h1 hinv fun rs' s' δ' a' w' hr' h' hi' => opsD_sound hT hb0 hsel hQ r n _ R rs' s' δ' a' w' hn1 hk1 (hcl.set hi) hr' h' hi'
    · rw [List.mem_singleton] at hk
      subst hk
      exact mut_node hT hb0 ho2 m2 hj p2 hr h2 hinv fun rs' s' δ' a' w' hr' h' hi' => opsD_sound hT hb0 hsel hQ t n _ R rs' s' δ' a' w' hn2 hk2 (hcl.set hj) hr' h' hi'
  | .two .done _, n, l, R, rs, s, δ, a, w, hn, hok, hcl, hr, h, hinv => by simp [schOk] at hok
  | .two (.two _ _) _, n, l, R, rs, s, δ, a, w, hn, hok, hcl, hr, h, hinv => by simp [schOk] at hok
  | .two (.op _ _ _) .done, n, l, R, rs, s, δ, a, w, hn, hok, hcl, hr, h, hinv => by simp [schOk] at hok
  | .two (.op _ _ _) (.two _ _), n, l, R, rs, s, δ, a, w, hn, hok, hcl, hr, h, hinv => by simp [schOk] at hok
  | .op i ps sch, n + 1, l, R, rs, s, δ, a, w, hn, hok, hcl, hr, h, hinv => by
    have hn : sch.len ≤ n := by simpa [Sch.len] using hn
    simp only [schOk, Bool.and_eq_true] at hok
    obtain ⟨hok1, hok2⟩ := hok
    cases ho : ops[i]? with
    | none => rw [ho] at hok1; simp at hok1
    | some o =>
      rw [ho] at hok1
      simp only at hok1
      have IH := fun R' rs' s' δ' a' w' hcl' => opsD_sound hT hb0 hsel hQ sch n (l.setIfInBounds i true) R' rs' s' δ' a' w' hn hok2 hcl'
      cases hmt : isMut T o with
      | true =>
        rw [hmt] at hok1
        simp only [Bool.and_eq_true, beq_iff_eq] at hok1
        obtain ⟨hrd, hp⟩ := hok1
        have hri : i ∈ Region.ready .any ops l := by rw [hrd]; exact List.mem_cons_self
        refine ⟨fun h => (by rw [h] at hrd; cases hrd), fun j hj => ?_⟩
        rw [hrd, List.mem_singleton] at hj
        subst hj
        exact mut_node hT hb0 ho hmt hri hp hr h hinv fun rs' s' δ' a' w' hr' h' hi' => IH R rs' s' δ' a' w' (hcl.set hri) hr' h' hi'
      | false =>
      have h : guardK ops.toList o s
        (fun s => match cls T o with
          | 0 => pureOp T s o fun v => putK s o.dst v fun s' => opsD (AC P) T esc ops.toList sch rs s' K
          | 1 => placeOf s o fun p => loadOp T s o fun v => putK s o.dst v fun s' => opsD (AC P) T esc ops.toList sch ((i, p) :: rs) s' K
          | _ => picks rs ps fun rs' => mutD (AC P) T esc s o rs' fun v s' => putK s' o.dst v fun s'' => opsD (AC P) T esc ops.toList sch (aged s o rs') s'' K)
        (fun s => putK s o.dst .skip fun s' => opsD (AC P) T esc ops.toList sch ((i, .none) :: rs) s' K) := by
        have h : dCons (AC P) T esc ops.toList i ps (opsD (AC P) T esc ops.toList sch) rs s K := h
        simp only [dCons, nthO_eq] at h
        rw [Array.getElem?_toList, ho] at h
        exact h
      obtain ⟨s1, hr1, ⟨hhp, hlp⟩, h⟩ := guardK_hp hr h
      rw [hmt] at hok1
      simp only [Bool.and_eq_true, List.contains_iff_mem] at hok1
      obtain ⟨hrd, hfr⟩ := hok1
      have quiet : ∀ (v : Value) (r : World → Prop) (s' : St) (x : List (Nat × Place)), Yld P ops o v a w → (∀ w', r w' → Yld P ops o v a w') → RelD w0 H0 δ s' (a.put o.dst v) w → s'.hp = s.hp → s'.loc = s.loc →
          (∀ j, j ≠ i → fst? (x ++ rs) j = fst? rs j) → opsD (AC P) T esc ops.toList sch (x ++ rs) s' K → ((∀ w', r w') ∨ (isRead T ops i ∧ ∀ p, fst? (x ++ rs) i = some p → PlaceOk δ p r s w)) → Node P ops (isMut T) Q R (n + 1) l a w := by
        intro v r s' x hy hrr hr' hs' hl' hx hK hri
        refine Node.first ho hmt hsel n l a w (Region.free_spec ho hfr) hcl hrd hy hrr ?_
        refine IH _ _ _ _ _ _ (hcl.set hrd) hr' hK ?_
        intro jr hjr
        rcases List.mem_cons.1 hjr with rfl | hjr
        · refine ⟨?_, ?_⟩
          · have hlt : i < l.size := by
              have := (mem_ready.1 hrd).1
              rcases Nat.lt_or_ge i l.size with h' | h'
              · exact h'
              · simp [h'] at this
            simp [hlt]
          · rcases hri with h | ⟨h, h'⟩
            · exact .inl h
            · exact .inr ⟨h, fun p hp => (h' p hp).env hs' hl'⟩
        · exact (hinv.quiet hs' hl' (unlisted hrd) x hx) jr hjr
      have hcons : ∀ (p : Place) j, j ≠ i → fst? ([(i, p)] ++ rs) j = fst? rs j := fun p j hj => by simp [fst?, Ne.symm hj]
      rcases h with ⟨hw, h⟩ | ⟨hw, h⟩
      · split at h
        · rename_i hc
          obtain ⟨v, x, h, hx, hrun⟩ := pure_sound hT (fun x => hr1.evC x) o h
          obtain ⟨s', h, hr', hs', hl'⟩ := putK_hp h hr1 hx
          exact quiet x (fun _ => True) s' [] (.inl ⟨hw, hrun w⟩) (fun w' _ => .inl ⟨hw, hrun w'⟩) hr' (hs'.trans hhp) (hl'.trans hlp) (fun _ _ => rfl) h (.inl fun _ => trivial)
        · rename_i hc
          obtain ⟨p, b, v, x, h, hx, hlt, hrun, hp⟩ := load_place hT hr1 h
          obtain ⟨s', h, hr', hs', hl'⟩ := putK_hp h hr1 hx
          refine quiet x (fun w' => w'.heap[b]? = w.heap[b]?) s' [(i, p)] (.inl ⟨hw, hrun w rfl⟩) (fun w' hb => .inl ⟨hw, hrun w' hb⟩) hr' (hs'.trans hhp) (hl'.trans hlp) (hcons p) h (.inr ⟨⟨o, ho, hc⟩, fun q hq => ?_⟩)
          simp [fst?] at hq
          subst hq
          rcases hp with ⟨ad, rfl, h1, rfl, y, hy⟩ | ⟨d, rfl, h0, rfl⟩
          · refine ⟨h1, hlt, fun d cs hd e => ?_, fun _ h => h⟩
            rw [← hlp] at hd
            exact (hr1.loc d cs hd).2.2 ⟨ad, y, hy, h1, e.symm⟩
          · rw [hlp] at h0
            exact ⟨h0, fun _ h => h⟩
        · rename_i hc0 hc1
          exfalso
          unfold isMut at hmt
          split at hmt
          · rename_i h; exact hc0 h
          · rename_i h; exact hc1 h
          · cases hmt
      · obtain ⟨s', h, hr', hs', hl'⟩ := putK_hp h hr1 (x := undef) (by simp only [ER, VR])
        exact quiet undef (fun _ => True) s' [(i, .none)] (.inr ⟨hw, rfl⟩) (fun _ _ => .inr ⟨hw, rfl⟩) hr' (hs'.trans hhp) (hl'.trans hlp) (hcons _) h (.inl fun _ => trivial)

theorem Drawn_elim {sch : Sch} {K : Prop} (h : Drawn T ops sch K) : (Region.noSelect ops && (Nat.ble sch.len ops.size && schOk T ops sch (Array.replicate ops.size false))) = true ∧ K := by unfold Drawn at h; exact h

theorem drawn_sound (hT : TabOk P T) (hmix : P.follows .mixedOrders = true) (hb0 : w0.n = w0.w.heap.size) {id : Nat} {Q : Exit → Act → World → Prop} {K : St → Prop} {sch : Sch} (hr : RelD w0 H0 δ s a w)
    (h : Drawn T ops sch (opsD (AC P) T esc ops.toList sch [] s K)) (hQ : ∀ s' δ' a' w', K s' → RelD w0 H0 δ' s' a' w' → Q .normal a' w') : (Code.region id ops true).wp P Q a w := by
  obtain ⟨hok, h⟩ := Drawn_elim h
  simp only [Bool.and_eq_true] at hok
  obtain ⟨h1, h2, h3⟩ := hok
  refine wp_region_any hmix (Node.any (mt := isMut T) (R := []) ?_)
  have hr' : RelD w0 H0 δ s a { w with drawn := w.drawn + 1 } := after_push' hr rfl rfl rfl rfl
  refine opsD_sound hT hb0 (Region.noSelect_spec h1) hQ sch ops.size _ [] [] s δ a _ (Nat.le_of_ble_eq_true h2) h3 ?_ hr' h (fun _ h => absurd h (by simp))
  intro k o ho hk
  exfalso
  rw [Array.getD_eq_getD_getElem?] at hk
  cases hx : (Array.replicate ops.size false)[k]? with
  | none => rw [hx] at hk; simp at hk
  | some b =>
    rw [hx] at hk
    have := Array.mem_of_getElem? hx
    simp at this
    simp [this] at hk

end
end Go.Proofs.Ytdbedlomiedncaa.Vc
