/- Words for the use of the conditions: how each is shown; what may be forgotten at a call. -/
import Derived.Test.YtdbedlomiedncaaVc16
namespace Go.Proofs.Ytdbedlomiedncaa.Vc
open Go

theorem Br.both {b : Bool} {p q : Prop} (h1 : b = true → p) (h2 : b = false → q) : Br b p q := by unfold Br; exact ⟨h1, h2⟩
theorem Br.yes {b : Bool} {p q : Prop} (h : b = true) (h1 : p) : Br b p q := by unfold Br; subst h; exact ⟨fun _ => h1, fun h => by cases h⟩
theorem Br.no {b : Bool} {p q : Prop} (h : b = false) (h1 : q) : Br b p q := by unfold Br; subst h; exact ⟨fun h => (by cases h), fun _ => h1⟩
theorem Br.dec {c : Prop} [Decidable c] {p q : Prop} (h1 : c → p) (h2 : ¬ c → q) : Br (decide c) p q := by unfold Br; exact ⟨fun h => h1 (of_decide_eq_true h), fun h => h2 (of_decide_eq_false h)⟩
theorem Br.neg {b : Bool} {p q : Prop} (h1 : b = false → p) (h2 : b = true → q) : Br (!b) p q := by unfold Br; cases b; exact ⟨fun _ => h1 rfl, fun h => by cases h⟩; exact ⟨fun h => (by cases h), fun _ => h2 rfl⟩
theorem Ld.intro {H : Hp} {a : Addr} {e i : Nat} {K : List AV → Prop} {r : Row} {cs : List AV} (h : H.get a = some r) (he : r.e = e) (hi : r.es[i]? = some cs) (k : K cs) : Ld H a e i K := by unfold Ld; exact ⟨r, cs, h, he, hi, k⟩
theorem Sto.intro {H : Hp} {a : Addr} {e i : Nat} {K : Row → List AV → Prop} {r : Row} {cs : List AV} (h : H.get a = some r) (he : r.e = e) (ho : r.ro = false) (hi : r.es[i]? = some cs) (k : K r cs) : Sto H a e i K := by unfold Sto; exact ⟨r, cs, h, he, ho, hi, k⟩
theorem Idx.intro {i : Int} {n : Nat} {K : Nat → Prop} (h1 : 0 ≤ i) (h2 : i < n) (k : K i.toNat) : Idx i n K := by unfold Idx; exact ⟨h1, h2, k⟩
theorem Idx.nat {i n : Nat} {K : Nat → Prop} (h2 : i < n) (k : K i) : Idx (i : Int) n K := by unfold Idx; exact ⟨by omega, by omega, k⟩
theorem Cut.intro {l h : Int} {n : Nat} {K : Nat → Nat → Prop} (h1 : 0 ≤ l) (h2 : l ≤ h) (h3 : h ≤ n) (k : K l.toNat h.toNat) : Cut l h n K := by unfold Cut; exact ⟨h1, h2, h3, k⟩
theorem Must.intro {c K : Prop} (h : c) (k : K) : Must c K := by unfold Must; exact ⟨h, k⟩
theorem New.intro {H : Hp} {K : Addr → Prop} (k : ∀ a, H.get a = none → K a) : New H K := by unfold New; exact k
theorem Whole.intro {H : Hp} {a : Addr} {e o l : Nat} {K : List (List AV) → Prop} {r : Row} (h : H.get a = some r) (he : r.e = e) (hl : o + l ≤ r.es.length) (k : K ((r.es.drop o).take l)) : Whole H (.slice a e o l) K := by unfold Whole; exact ⟨r, h, he, hl, k⟩
theorem Over.intro {H : Hp} {a : Addr} {e : Nat} {K : Row → Prop} {r : Row} (h : H.get a = some r) (he : r.e = e) (ho : r.ro = false) (k : K r) : Over H a e K := by unfold Over; exact ⟨r, h, he, ho, k⟩
theorem Bytes.intro {es : List (List AV)} {K : List UInt8 → Prop} (ys : List UInt8) (h : es = ys.map fun b => [.int .u8 b.toNat]) (k : K ys) : Bytes es K := by unfold Bytes; exact ⟨ys, h, k⟩
theorem Has.intro {H : Hp} {a : Addr} {K : Row → Prop} {r : Row} (h : H.get a = some r) (k : K r) : Has H a K := by unfold Has; exact ⟨r, h, k⟩
theorem NilQ.intro {l : Nat} {K : Bool → Prop} (h1 : K false) (h2 : l = 0 → K true) : NilQ l K := by unfold NilQ; exact ⟨h1, h2⟩
theorem Two.intro {p q : Prop} (h1 : p) (h2 : q) : Two p q := by unfold Two; exact ⟨h1, h2⟩
theorem Drawn.intro {T : Tab} {ops : Array Oper} {sch : Sch} {K : Prop} (h : (Region.noSelect ops && (Nat.ble sch.len ops.size && schOk T ops sch (Array.replicate ops.size false))) = true) (k : K) : Drawn T ops sch K := by unfold Drawn; exact ⟨h, k⟩

theorem cle.refl : ∀ c : List AV, cle c c
  | [] => trivial
  | _ :: r => ⟨.inl rfl, cle.refl r⟩

/-! ### heaps -/

theorem Hp.ext {h h' : Hp} (e : ∀ b, h.get b = h'.get b) : h = h' := by
  cases h; cases h'; congr; funext b; exact e b
theorem Hp.set_get (h : Hp) (a : Addr) (r : Row) : (h.set a r).get a = some r := by simp [Hp.set]
theorem Hp.set_other (h : Hp) {a b : Addr} (r : Row) (e : b ≠ a) : (h.set a r).get b = h.get b := by simp [Hp.set, e]
theorem Hp.set_set (h : Hp) (a : Addr) (r r' : Row) : (h.set a r).set a r' = h.set a r' := by
  apply Hp.ext; intro b; simp only [Hp.set]; split <;> rfl
theorem Hp.set_comm (h : Hp) {a b : Addr} (r r' : Row) (e : a ≠ b) : (h.set a r).set b r' = (h.set b r').set a r := by
  apply Hp.ext; intro c; simp only [Hp.set]
  by_cases h1 : c = b <;> by_cases h2 : c = a <;> simp [h1, h2]
  · exact absurd (h2.symm.trans h1) e
  · intro e'; exact absurd e'.symm e
  · intro e'; exact absurd e' e
theorem Hp.set_self (h : Hp) {a : Addr} {r : Row} (e : h.get a = some r) : h.set a r = h := by
  apply Hp.ext; intro b; simp only [Hp.set]; split
  · rename_i e'; rw [e', e]
  · rfl
theorem Hp.thaw {h : Hp} {a : Addr} {r : Row} (e : h.get a = some r) : (h.set a (frz r)).set a r = h := by rw [Hp.set_set, Hp.set_self h e]
theorem Hp.set_del (h : Hp) {a : Addr} (r : Row) (e : h.get a = none) : (h.set a r).del a = h := by
  apply Hp.ext; intro b; simp only [Hp.set, Hp.del]; split
  · rename_i e'; rw [e', e]
  · rfl
theorem Hp.del_set (h : Hp) (a : Addr) (r : Row) : (h.del a).set a r = h.set a r := by
  apply Hp.ext; intro b; simp only [Hp.set, Hp.del]; split <;> rfl
theorem Hp.set_del_comm (h : Hp) {a b : Addr} (r : Row) (e : a ≠ b) : (h.set a r).del b = (h.del b).set a r := by
  apply Hp.ext; intro c; simp only [Hp.set, Hp.del]
  by_cases h1 : c = b
  · subst h1; rw [if_pos rfl, if_neg (fun x => e x.symm), if_pos rfl]
  · rw [if_neg h1, if_neg h1]
theorem Hp.none_set {h : Hp} {a b : Addr} {r : Row} (e : (h.set a r).get b = none) : h.get b = none ∧ b ≠ a := by
  simp only [Hp.set] at e; split at e
  · cases e
  · rename_i h1; exact ⟨e, h1⟩
theorem Hp.ne_of {h : Hp} {a b : Addr} {r : Row} (h1 : h.get a = some r) (h2 : h.get b = none) : a ≠ b := by
  intro e; subst e; rw [h1] at h2; cases h2

/-! ### what may be forgotten -/

/-- a new row is dropped -/
theorem HSub.drop {h : Hp} {a : Addr} (r : Row) (e : h.get a = none) : HSub h (h.set a r) := fun b r' hb => by
  have : b ≠ a := Hp.ne_of hb e
  exact ⟨r', by rw [Hp.set_other _ _ this]; exact hb, rfl, id, List.prefix_rfl⟩

theorem HSub.set {h h' : Hp} {a : Addr} {r r' : Row} (x : HSub h' h) (e : r'.e = r.e) (ho : r'.ro = false → r.ro = false) (p : r'.es <+: r.es) : HSub (h'.set a r') (h.set a r) := fun b q hb => by
  by_cases e' : b = a
  · subst e'; rw [Hp.set_get] at hb; injection hb with hb; subst hb
    exact ⟨r, Hp.set_get _ _ _, e, ho, p⟩
  · rw [Hp.set_other _ _ e'] at hb
    obtain ⟨r2, e2, h2⟩ := x b q hb
    exact ⟨r2, by rw [Hp.set_other _ _ e']; exact e2, h2⟩

/-- less is known of the second value -/
def VLe (v v' : AV) : Prop := ∀ B x, VR B v x → VR B v' x
def VLes (l l' : List AV) : Prop := ∀ B xs, VRs B l xs → VRs B l' xs

theorem VLe.refl (v : AV) : VLe v v := fun _ _ h => h
theorem VLe.nils (a : Addr) (e o : Nat) : VLe .nils (.slice a e o 0) := fun B x h => by simp only [VR] at *; right; exact ⟨rfl, none, h⟩
theorem VLes.refl (l : List AV) : VLes l l := fun _ _ h => h
theorem VLes.cons {v v' l l'} (h : VLe v v') (hl : VLes l l') : VLes (v :: l) (v' :: l') := fun B xs hx => by
  cases xs with
  | nil => simp only [VRs] at hx
  | cons x xs => simp only [VRs] at *; exact ⟨h B x hx.1, hl B xs hx.2⟩
theorem VLe.tuple {l l'} (h : VLes l l') : VLe (.tuple l) (.tuple l') := fun B x hx => by simp only [VR] at *; obtain ⟨vs, e, hs⟩ := hx; exact ⟨vs, e, h B _ hs⟩
theorem VLe.agg {l l'} (h : VLes l l') : VLe (.agg l) (.agg l') := fun B x hx => by simp only [VR] at *; obtain ⟨vs, e, hs⟩ := hx; exact ⟨vs, e, h B _ hs⟩

inductive Post (K : AV → Hp → Prop) : AV → Hp → Prop
  | done {v h} (k : K v h) : Post K v h
  | ghost {v h} (e : Nat) (ro : Bool) (k : ∀ a, h.get a = none → Post K v (h.set a ⟨e, ro, []⟩)) : Post K v h
  | le {v h} (v' : AV) (l : VLe v v') (k : Post K v' h) : Post K v h
  | sub {v h} (h' : Hp) (l : HSub h' h) (k : Post K v h') : Post K v h

section
variable {P : Program}

theorem Post.elim {K : AV → Hp → Prop} {v h} (x : Post K v h) : ∀ {w0 h0 w val}, VR (bs w) v val → Sat w h → Fr w0 h0 w h → ∃ v' h', VR (bs w) v' val ∧ K v' h' ∧ Sat w h' ∧ Fr w0 h0 w h' := by
  induction x with
  | done k => intro w0 h0 w val hv hs hf; exact ⟨_, _, hv, k, hs, hf⟩
  | ghost e ro k ih =>
    intro w0 h0 w val hv hs hf
    obtain ⟨N, hN⟩ := hs.ghost
    exact ih ⟨0, 0, some N⟩ (hN N (Nat.le_refl _)) hv (hs.phantom (by simp) rfl) (hf.trans (Fr.phantom (by simp)))
  | le v' l k ih => intro w0 h0 w val hv hs hf; exact ih (l _ _ hv) hs hf
  | sub h' l k ih => intro w0 h0 w val hv hs hf; exact ih hv (hs.sub l) (hf.sub l)

theorem AC.post {f args H} {K : AV → Hp → Prop} (h : AC P f args H (Post K)) : AC P f args H K := by
  unfold AC at *
  intro w vs hs hv
  rcases h w vs hs hv with ⟨h1, h2⟩ | ⟨v, w', h1, av, H', h2, h3, h4, h5⟩
  · refine .inl ⟨h1, Calls.mono h2 fun e w' ⟨v, he, av, H', h2, h3, h4, h5⟩ => ?_⟩
    obtain ⟨v', h', q1, q2, q3, q4⟩ := h3.elim h2 h4 h5
    exact ⟨v, he, v', h', q1, q2, q3, q4⟩
  · obtain ⟨v', h', q1, q2, q3, q4⟩ := h3.elim h2 h4 h5
    exact .inr ⟨v, w', h1, v', h', q1, q2, q3, q4⟩

/-- a call by its contract -/
theorem AC.use {f args H} {R K : AV → Hp → Prop} (h : AC P f args H R) (hK : ∀ v h, R v h → Post K v h) : AC P f args H K := AC.post (AC.mono h hK)

theorem AC.use0 {f args H} {φ : AV → Prop} {K : AV → Hp → Prop} (h : AC P f args H fun v h => φ v ∧ h = H) (hK : ∀ v, φ v → K v H) : AC P f args H K := AC.mono h fun v _ ⟨h1, h2⟩ => h2 ▸ hK v h1
theorem AC.use1 {f args H} {x : AV} {K : AV → Hp → Prop} (h : AC P f args H fun v h => v = x ∧ h = H) (hK : K x H) : AC P f args H K := AC.mono h fun v _ ⟨h1, h2⟩ => h2 ▸ h1 ▸ hK

theorem AC.args {f args args' H R} (l : VLes args args') (h : AC P f args' H R) : AC P f args H R := by
  unfold AC at *
  intro w vs hs hv
  exact h w vs hs (l _ _ hv)

theorem Fr.unphantom {w H w' H'} {a : Addr} {r : Row} (ha : H.get a = none) (hsp : a.spot ≠ none) (h : Fr w (H.set a r) w' H') : Fr w H w' H' where
  size := h.size
  keep b hb ho := h.keep b hb fun ⟨c, q, h1, h2, h3, h4⟩ => ho ⟨c, q, by rw [← h1, Hp.set_other]; intro e; subst e; exact hsp h3, h2, h3, h4⟩
  owns b hb := by
    rcases h.owns b hb with ⟨c, q, h1, h2, h3, h4⟩ | h
    · exact .inl ⟨c, q, by rw [← h1, Hp.set_other]; intro e; subst e; exact hsp h3, h2, h3, h4⟩
    · exact .inr h
  blks b r' hb hs := by
    rcases h.blks b r' hb hs with ⟨r0, h0⟩ | ⟨c, q, h1, h2, h3, h4⟩ | h
    · refine .inl ⟨r0, ?_⟩
      rw [← h0, Hp.set_other]; intro e; subst e; exact hsp hs
    · exact .inr (.inl ⟨c, q, by rw [← h1, Hp.set_other]; intro e; subst e; exact hsp h3, h2, h3, h4⟩)
    · exact .inr (.inr h)
  bl := h.bl
  os := h.os
  out := h.out
  tape := h.tape

/-- the capacity of the first argument -/
theorem AC.cap {f a e p n rest H R} (h : ∀ c, n ≤ c → AC P f (.cslice a e p n c :: rest) H R) : AC P f (.slice a e p n :: rest) H R := by
  unfold AC at *
  intro w vs hs hv
  cases vs with
  | nil => simp only [VRs] at hv
  | cons v vs =>
    simp only [VRs, VR] at hv
    obtain ⟨hv, hvs⟩ := hv
    rcases hv with ⟨h1, cap, m, h2, h3, h4⟩ | ⟨h1, h2⟩
    · exact h cap h3 w _ hs (by simp only [VRs, VR]; exact ⟨.inl ⟨h1, m, h2, h3, h4⟩, hvs⟩)
    · exact h 0 (by omega) w _ hs (by simp only [VRs, VR]; exact ⟨.inr ⟨h1, rfl, h2⟩, hvs⟩)

/-- an empty slice's row -/
theorem AC.ghost {f args H R} (e : Nat) (ro : Bool) (h : ∀ a, H.get a = none → AC P f args (H.set a ⟨e, ro, []⟩) R) : AC P f args H R := by
  unfold AC at *
  intro w vs hs hv
  obtain ⟨N, hN⟩ := hs.ghost
  have ha := hN N (Nat.le_refl _)
  rcases h _ ha w vs (hs.phantom (by simp) rfl) hv with ⟨h1, h2⟩ | ⟨v, w', h1, av, H', h2, h3, h4, h5⟩
  · exact .inl ⟨h1, Calls.mono h2 fun e w' ⟨v, he, av, H', h2, h3, h4, h5⟩ => ⟨v, he, av, H', h2, h3, h4, h5.unphantom ha (by simp)⟩⟩
  · exact .inr ⟨v, w', h1, av, H', h2, h3, h4, h5.unphantom ha (by simp)⟩

end
end Go.Proofs.Ytdbedlomiedncaa.Vc
