/- Each operation that looks at no memory does what its condition says. -/
import Derived.Test.YtdbedlomiedncaaVc1
namespace Go.Proofs.Ytdbedlomiedncaa.Vc
open Go

def ER (δ : Nat → Nat) (B : Nat → Option Nat) (x : AV) (v : Value) : Prop := match x with
  | .lptr d f => v = .pointer (some ⟨δ d, f, none⟩)
  | x => VR B x v

theorem ER.of_VR {δ B x v} (h : VR B x v) : ER δ B x v := by
  cases x <;> first | exact h | (simp only [VR] at h)

theorem ER.mono {δ B B' x v} (hB : BLe B B') (h : ER δ B x v) : ER δ B' x v := by
  cases x <;> first | exact h | exact VR.mono hB _ h

theorem ER.congr {δ δ' B x v} (hd : ∀ d f, x = .lptr d f → δ d = δ' d) (h : ER δ B x v) : ER δ' B x v := by
  cases x <;> first | exact h | (simp only [ER] at *; rw [h, hd _ _ rfl])

theorem ER.VR {δ B x v} (h : ER δ B x v) (hx : x.cell = true ∨ x.flat = true) : VR B x v := by
  cases x <;> first | exact h | (simp [AV.cell, AV.flat] at hx)

def ERs (δ : Nat → Nat) (B : Nat → Option Nat) : List AV → List Value → Prop
  | [], [] => True
  | x :: xs, v :: vs => ER δ B x v ∧ ERs δ B xs vs
  | _, _ => False

theorem ER.sl {δ B x v} (h : ER δ B x v) : ER δ B x.sl v := by
  cases x <;> first | exact h | (simp only [ER, VR, AV.sl] at *; exact h.sl)

theorem ERs.cells {δ B} : ∀ {xs vs}, ERs δ B xs vs → allCells xs = true → VRs B xs vs
  | [], [], _, _ => by simp only [VRs]
  | x :: xs, v :: vs, h, hx => by
    simp only [allCells, Bool.and_eq_true] at hx; simp only [ERs] at h; simp only [VRs]
    exact ⟨h.1.VR (.inl hx.1), h.2.cells hx.2⟩
  | [], _ :: _, h, _ => by simp only [ERs] at h
  | _ :: _, [], h, _ => by simp only [ERs] at h

theorem ERs.flat {δ B} : ∀ {xs vs}, ERs δ B xs vs → allFlat xs = true → VRs B xs vs
  | [], [], _, _ => by simp only [VRs]
  | x :: xs, v :: vs, h, hx => by
    simp only [allFlat, Bool.and_eq_true] at hx; simp only [ERs] at h; simp only [VRs]
    exact ⟨h.1.VR (.inr hx.1), h.2.flat hx.2⟩
  | [], _ :: _, h, _ => by simp only [ERs] at h
  | _ :: _, [], h, _ => by simp only [ERs] at h

theorem force_elim {v : AV} {K : AV → Prop} (h : force v K) : ∃ v', K v' ∧ (∀ δ B x, ER δ B v x → ER δ B v' x) ∧ (∀ B x, VR B v x → VR B v' x) ∧ (v.cell = true → v'.cell = true) := by
  cases v <;> simp only [force] at h <;> exact ⟨_, h, fun _ _ _ h => (by first | exact h | (simp only [ER, VR] at *; exact h)), fun _ _ h => (by first | exact h | (simp only [VR] at *; exact h)), fun h => (by first | exact h | (simp [AV.cell] at h))⟩

theorem forceL_elim {B} : ∀ {l : List AV} {K : List AV → Prop}, forceL l K → ∃ l', K l' ∧ (∀ vs, VRs B l vs → VRs B l' vs) ∧ (allCells l = true → allCells l' = true)
  | [], _, h => ⟨[], h, fun _ h => h, fun h => h⟩
  | v :: r, K, h => by
    simp only [forceL] at h
    obtain ⟨v', h, _, hv, hc⟩ := force_elim h
    obtain ⟨r', h, hr, hc'⟩ := forceL_elim (B := B) h
    refine ⟨v' :: r', h, ?_, ?_⟩
    · intro vs hvs
      cases vs with
      | nil => simp only [VRs] at hvs
      | cons x xs => simp only [VRs] at *; exact ⟨hv _ _ hvs.1, hr _ hvs.2⟩
    · intro h; simp only [allCells, Bool.and_eq_true] at *; exact ⟨hc h.1, hc' h.2⟩

theorem boolOf_elim {v : AV} {p q : Prop} (h : boolOf v p q) : ∃ b, (∀ δ B x, ER δ B v x → x = .bool b) ∧ (b = true → p) ∧ (b = false → q) := by
  cases v <;> simp only [boolOf] at h
  case bool b => unfold Br at h; exact ⟨b, fun _ _ _ h => by simpa only [ER, VR] using h, h.1, h.2⟩
  case tt => exact ⟨true, fun _ _ _ h => by simpa only [ER, VR] using h, fun _ => h, fun h => by cases h⟩
  case ff => exact ⟨false, fun _ _ _ h => by simpa only [ER, VR] using h, (fun h => by cases h), fun _ => h⟩

theorem intOf_elim {v : AV} {K : IntKind → Int → Prop} (h : Vc.intOf v K) : ∃ k n, v = .int k n ∧ K k n := by
  cases v <;> simp only [Vc.intOf] at h
  exact ⟨_, _, rfl, h⟩

theorem ifB_elim {b : Bool} {K : Prop} (h : ifB b K) : b = true ∧ K := by
  cases b <;> simp only [ifB] at h
  exact ⟨rfl, h⟩

theorem Must_elim {c K : Prop} (h : Must c K) : c ∧ K := by unfold Must at h; exact h

theorem ofValue_ok (B) (v : Value) : VR B (ofValue v) v := by
  cases v <;> simp only [ofValue] <;> (try simp only [VR])
  case pointer a => cases a <;> simp only [VR]
  case slice a l c => split <;> simp only [VR]
  case func fn x y =>
    split
    · rename_i h1 h2
      simp only [VR]
      have e1 : x = #[] := by cases x; simp_all
      have e2 : y = #[] := by cases y; simp_all
      subst e1; subst e2
      exact ⟨#[], rfl, by simp only [VRs]⟩
    · simp only [VR]

theorem wrapK_eq (k : IntKind) (n : Int) : wrapK k n = k.wrap n := by
  cases k <;> simp only [wrapK, IntKind.wrap, IntKind.bits, IntKind.signed] <;> (try simp) <;> (try split) <;> omega

theorem evs_elim {s : St} {δ B} {ρ : Operand → Value} (hρ : ∀ x, ER δ B (s.ev x) (ρ x)) : ∀ {l : List Operand} {K : List AV → Prop}, evs s l K → ∃ vs, K vs ∧ ERs δ B vs (l.map ρ)
  | [], _, h => ⟨[], h, by simp only [List.map_nil, ERs]⟩
  | x :: r, K, h => by
    simp only [evs] at h
    obtain ⟨v, h, hv, _⟩ := force_elim h
    obtain ⟨vs, h, hvs⟩ := evs_elim hρ h
    exact ⟨v :: vs, h, by simp only [List.map_cons, ERs]; exact ⟨hv _ _ _ (hρ x), hvs⟩⟩

end Go.Proofs.Ytdbedlomiedncaa.Vc
