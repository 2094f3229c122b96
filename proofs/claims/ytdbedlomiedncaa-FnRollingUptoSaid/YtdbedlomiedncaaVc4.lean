/- Each operation that looks at no memory does what its condition says: the rest of the kinds, and all of them together. -/
import Derived.Test.YtdbedlomiedncaaVc3
namespace Go.Proofs.Ytdbedlomiedncaa.Vc
open Go

section
variable {P : Program} {T : Tab} {s : St} {K : AV → Prop} {ρ : Operand → Value} {δ : Nat → Nat} {B : Nat → Option Nat} {dst : Option Tmp} {type : TypeId} {pos : String} {after : Array Edge} {guard : Option (Nat × Bool)}

theorem ev_of_evC (h : ∀ x, ER δ B (s.evC x) (ρ x)) (x : Operand) : ER δ B (s.ev x) (ρ x) := by
  have := h x
  cases x <;> first | exact this | exact this.sl

theorem ps_un (hρ : ∀ x, ER δ B (s.ev x) (ρ x)) {op : UnOp} {t : TypeId} {x : Operand} (h : pureOp T s ⟨dst, .unOp op t x, type, pos, after, guard⟩ K) : PS P ⟨dst, .unOp op t x, type, pos, after, guard⟩ ρ δ B K := by
  simp only [pureOp] at h
  have hx := hρ x
  split at h
  · rename_i k n e
    rw [e] at hx; simp only [ER, VR] at hx
    rw [wrapK_eq] at h
    exact ⟨_, _, h, .of_VR (vr_int _ _), fun w => by simp [execOp, hx, Op.unary, Op.intArith]⟩
  · rename_i b e
    rw [e] at hx; simp only [ER, VR] at hx
    exact ⟨_, _, h, .of_VR (vr_bool _), fun w => by simp [execOp, hx, Op.unary]⟩
  · exact h.elim

theorem run_underlying {t : TypeId} {d : TypeDesc} (h : P.underlying t = some d) (w : World) : (underlying t).run P w = .ok d w := by
  unfold underlying; simp [h]

theorem und_of {t : Nat} {d : TD} (hd : (T.at t).desc = d) (hb : d ≠ .bad) : (T.at t).ok = true := by
  unfold TI.ok; rw [hd]; cases d <;> simp at hb ⊢

theorem und_int (hT : TabOk P T) {t : Nat} {k : IntKind} (hd : (T.at t).desc = .int k) : P.underlying t = some (.int k) := by
  have := (hT.get (und_of hd (by simp))).und; rw [hd] at this; exact this.1
theorem und_string (hT : TabOk P T) {t : Nat} (hd : (T.at t).desc = .string) : P.underlying t = some .string := by
  have := (hT.get (und_of hd (by simp))).und; rw [hd] at this; exact this
theorem und_slice (hT : TabOk P T) {t u : Nat} (hd : (T.at t).desc = .slice u) : P.underlying t = some (.slice u) := by
  have := (hT.get (und_of hd (by simp))).und; rw [hd] at this; exact this
theorem und_array (hT : TabOk P T) {t n u : Nat} (hd : (T.at t).desc = .array n u) : P.underlying t = some (.array n u) := by
  have := (hT.get (und_of hd (by simp))).und; rw [hd] at this; exact this

theorem ps_convert (hT : TabOk P T) (hρ : ∀ x, ER δ B (s.ev x) (ρ x)) {a b : TypeId} {x : Operand} (h : pureOp T s ⟨dst, .convert a b x, type, pos, after, guard⟩ K) : PS P ⟨dst, .convert a b x, type, pos, after, guard⟩ ρ δ B K := by
  simp only [pureOp] at h
  have hx := hρ x
  split at h
  · rename_i k n e
    rw [e] at hx; simp only [ER, VR] at hx
    split at h
    · rename_i k2 hd
      obtain ⟨ha, h⟩ := ifB_elim h
      rw [wrapK_eq] at h
      have hu := und_int hT hd
      obtain ⟨i, z, hi, _⟩ := (hT.get ha).info
      have hua : ∃ d, P.underlying a = some d := by
        have := (hT.get ha).und
        cases hda : (T.at a).desc <;> simp only [hda] at this <;> first | exact ⟨_, this⟩ | exact ⟨_, this.1⟩ | (obtain ⟨d, h1, _⟩ := this; exact ⟨_, h1⟩) | exact this.elim
      obtain ⟨d, hua⟩ := hua
      exact ⟨_, _, h, .of_VR (vr_int _ _), fun w => by simp [execOp, hx, convert, run_underlying hua, run_underlying hu, Conv.intToInt]⟩
    · exact h.elim
  · rename_i l e
    rw [e] at hx; simp only [ER, VR] at hx
    split at h
    · rename_i h1 h2
      exact ⟨_, _, h, .of_VR (vr_str _), fun w => by simp [execOp, hx, convert, run_underlying (und_string hT h1), run_underlying (und_string hT h2)]⟩
    · exact h.elim
  · exact h.elim

theorem lowV_elim (hρ : ∀ x, ER δ B (s.ev x) (ρ x)) {x : Option Operand} {d : Int} {K : Int → Prop} (h : lowV (x.map s.ev) d K) :
    ∃ n : Int, K n ∧ ((x = none ∧ n = d) ∨ ∃ y k, x = some y ∧ ρ y = .int k n) := by
  cases x with
  | none => exact ⟨d, h, .inl ⟨rfl, rfl⟩⟩
  | some y =>
    simp only [Option.map_some, lowV] at h
    obtain ⟨k, n, e, h⟩ := intOf_elim h
    have hy := hρ y
    rw [e] at hy; simp only [ER, VR] at hy
    exact ⟨n, h, .inr ⟨y, k, rfl, hy⟩⟩

theorem Cut_elim {l h : Int} {n : Nat} {K : Nat → Nat → Prop} (x : Cut l h n K) : 0 ≤ l ∧ l ≤ h ∧ h ≤ n ∧ K l.toNat h.toNat := by unfold Cut at x; exact x
theorem Idx_elim {i : Int} {n : Nat} {K : Nat → Prop} (x : Idx i n K) : 0 ≤ i ∧ i < n ∧ K i.toNat := by unfold Idx at x; exact x

theorem extract_mk (l : List UInt8) (i j : Nat) : (⟨l.toArray⟩ : ByteArray).extract i j = ⟨(((l.drop i).take (j - i))).toArray⟩ := by
  apply ByteArray.ext
  simp [ByteArray.extract, ByteArray.copySlice]

theorem run_bounds {lo hi : Option Operand} {a b : Int} {isSl : Bool} {len cap d : Nat} (ha : (lo = none ∧ a = (0 : Int)) ∨ ∃ y k, lo = some y ∧ ρ y = .int k a) (hb : (hi = none ∧ b = (d : Int)) ∨ ∃ y k, hi = some y ∧ ρ y = .int k b)
    (h0 : 0 ≤ a) (h1 : a ≤ b) (h2 : b ≤ (cap : Int)) (hd : d = len) (w : World) :
    (Instr.sliceBounds isSl len cap (lo.map ρ) (hi.map ρ) none).run P w = .ok (a.toNat, b.toNat, cap) w := by
  subst hd
  have h0b : 0 ≤ b := by omega
  have hab : a ≤ (b.toNat : Int) := by omega
  rcases ha with ⟨rfl, rfl⟩ | ⟨y, k, rfl, hy⟩ <;> rcases hb with ⟨rfl, rfl⟩ | ⟨z, k', rfl, hz⟩
  · simp [Instr.sliceBounds]
  · simp [Instr.sliceBounds, Instr.sliceBound, hz, asIntOf, h0b, h2]
  · simp [Instr.sliceBounds, Instr.sliceBound, hy, asIntOf, h0, h1]
  · have hm : ¬ (max b 0 < a) := by omega
    simp [Instr.sliceBounds, Instr.sliceBound, hy, hz, asIntOf, h0, h0b, h2, hm]

theorem Addr_add_add {a : Addr} (h : a.spot = none) (n m : Nat) : (a.add n).add m = a.add (n + m) := by
  obtain ⟨b, o, sp⟩ := a
  simp only at h; subst h
  unfold Addr.add
  by_cases hn : n = 0 <;> by_cases hm : m = 0 <;> simp [hn, hm, Nat.add_assoc]

theorem ps_slice (hT : TabOk P T) (hρC : ∀ x, ER δ B (s.evC x) (ρ x)) {t : TypeId} {x : Operand} {lo hi mx : Option Operand} (h : pureOp T s ⟨dst, .slice t x lo hi mx, type, pos, after, guard⟩ K) : PS P ⟨dst, .slice t x lo hi mx, type, pos, after, guard⟩ ρ δ B K := by
  cases mx with
  | some _ => simp only [pureOp] at h
  | none =>
  simp only [pureOp] at h
  have hρ := fun x => ev_of_evC hρC x
  have hx := hρC x
  split at h
  · rename_i a e p n c ev
    rw [ev] at hx; simp only [ER, VR] at hx
    split at h
    · rename_i u hd
      obtain ⟨hu, h⟩ := ifB_elim h
      simp only [Bool.and_eq_true] at hu
      obtain ⟨hu, he⟩ := hu
      have he := Nat.eq_of_beq_eq_true he
      obtain ⟨x0, h, ha⟩ := lowV_elim hρ h
      obtain ⟨y0, h, hb⟩ := lowV_elim hρ h
      obtain ⟨h0, h1, h2, hK⟩ := Cut_elim h
      clear h
      have hsz := fun w => (hT.get hu).sizeOf w
      unfold Br at hK
      rcases hx with ⟨hs, m, hx, hc, hB, hm⟩ | ⟨rfl, rfl, q, hx⟩
      · have r := fun w => run_bounds (P := P) (isSl := true) (len := n) (cap := c) ha hb h0 h1 (by simpa using h2) rfl w
        by_cases hcx : x0.toNat < c
        · refine ⟨_, .slice (if c = x0.toNat then some (a.add (p * e)) else some ((a.add (p * e)).add (x0.toNat * e))) (y0.toNat - x0.toNat) (c - x0.toNat), hK.1 (by simpa using hcx), .of_VR ?_, fun w => ?_⟩
          · simp only [VR]
            rw [if_neg (by omega)]
            left
            refine ⟨hs, m, ?_, by omega, hB, ?_⟩
            · rw [Addr_add_add hs, Nat.add_mul]
            · have : p + x0.toNat + (c - x0.toNat) = p + c := by omega
              rw [this]; exact hm
          · simp [execOp, Instr.sliceAt, Instr.slice, run_underlying (und_slice hT hd), hx, r, hsz, ← he]
        · refine ⟨_, .slice (some (a.add (p * e))) 0 0, hK.2 (by simpa using hcx), .of_VR ?_, fun w => ?_⟩
          · simp only [VR]; right; exact ⟨rfl, _, rfl⟩
          · have e1 : c = x0.toNat := by omega
            have e2 : y0.toNat = x0.toNat := by omega
            subst e1
            simp [execOp, Instr.sliceAt, Instr.slice, run_underlying (und_slice hT hd), hx, r, hsz, ← he, e2]
      · have hz : x0 = 0 ∧ y0 = 0 := by omega
        obtain ⟨rfl, rfl⟩ := hz
        have r := fun w => run_bounds (P := P) (isSl := true) (len := 0) (cap := 0) ha hb h0 h1 (by omega) rfl w
        refine ⟨_, .slice q 0 0, hK.2 rfl, .of_VR ?_, fun w => ?_⟩
        · simp only [VR]; right; exact ⟨rfl, q, rfl⟩
        · simp [execOp, Instr.sliceAt, Instr.slice, run_underlying (und_slice hT hd), hx, r, hsz]
    · exact h.elim
  · rename_i l e
    rw [e] at hx; simp only [ER, VR] at hx
    split at h
    · rename_i hd
      obtain ⟨a, h, ha⟩ := lowV_elim hρ h
      obtain ⟨b, h, hb⟩ := lowV_elim hρ h
      obtain ⟨h0, h1, h2, h⟩ := Cut_elim h
      refine ⟨_, _, h, .of_VR (vr_str _), fun w => ?_⟩
      have r := run_bounds (P := P) (isSl := false) ha hb h0 h1 h2 rfl w
      simp [execOp, Instr.sliceAt, Instr.slice, run_underlying (und_string hT hd), hx, size_mk, r, extract_mk]
    · exact h.elim
  · rename_i a e p n ev
    rw [ev] at hx; simp only [ER, VR] at hx
    split at h
    · rename_i u hd
      obtain ⟨hu, h⟩ := ifB_elim h
      simp only [Bool.and_eq_true] at hu
      obtain ⟨hu, he⟩ := hu
      have he := Nat.eq_of_beq_eq_true he
      obtain ⟨x0, h, ha⟩ := lowV_elim hρ h
      obtain ⟨y0, h, hb⟩ := lowV_elim hρ h
      obtain ⟨h0, h1, h2, hK⟩ := Cut_elim h
      clear h
      have hsz := fun w => (hT.get hu).sizeOf w
      rcases hx with ⟨hs, cap, m, hx, hc, hB, hm⟩ | ⟨rfl, q, hx⟩
      · have r := fun w => run_bounds (P := P) (isSl := true) (cap := cap) ha hb h0 h1 (by omega) rfl w
        refine ⟨_, .slice (if cap = x0.toNat then some (a.add (p * e)) else some ((a.add (p * e)).add (x0.toNat * e))) (y0.toNat - x0.toNat) (cap - x0.toNat), hK, .of_VR ?_, fun w => ?_⟩
        · simp only [VR]
          by_cases hcx : cap = x0.toNat
          · rw [if_pos hcx]
            have hx0 : x0.toNat = y0.toNat := by omega
            right
            refine ⟨by omega, some (a.add (p * e)), ?_⟩
            rw [hcx, hx0]; simp
          · rw [if_neg hcx]
            left
            refine ⟨hs, cap - x0.toNat, m, ?_, by omega, hB, ?_⟩
            · rw [Addr_add_add hs, Nat.add_mul]
            · have : p + x0.toNat + (cap - x0.toNat) = p + cap := by omega
              rw [this]; exact hm
        · simp [execOp, Instr.sliceAt, Instr.slice, run_underlying (und_slice hT hd), hx, r, hsz, ← he]
      · have hz : x0 = 0 ∧ y0 = 0 := by omega
        obtain ⟨rfl, rfl⟩ := hz
        have r := fun w => run_bounds (P := P) (isSl := true) (cap := 0) ha hb h0 h1 (by omega) rfl w
        refine ⟨_, .slice q 0 0, hK, .of_VR ?_, fun w => ?_⟩
        · simp only [VR]; right; exact ⟨by simp, q, rfl⟩
        · simp [execOp, Instr.sliceAt, Instr.slice, run_underlying (und_slice hT hd), hx, r, hsz]
    · exact h.elim
  · rename_i ev
    rw [ev] at hx; simp only [ER, VR] at hx
    split at h
    · rename_i u hd
      obtain ⟨hu, h⟩ := ifB_elim h
      obtain ⟨x0, h, ha⟩ := lowV_elim hρ h
      obtain ⟨y0, h, hb⟩ := lowV_elim hρ h
      obtain ⟨⟨rfl, rfl⟩, hK⟩ := Must_elim h
      clear h
      have hsz := fun w => (hT.get hu).sizeOf w
      have r := fun w => run_bounds (P := P) (isSl := true) (cap := 0) ha (d := 0) hb (by omega) (by omega) (by omega) rfl w
      refine ⟨_, .slice none 0 0, hK, .of_VR (by simp only [VR]), fun w => ?_⟩
      simp [execOp, Instr.sliceAt, Instr.slice, run_underlying (und_slice hT hd), hx, r, hsz]
    · exact h.elim
  · exact h.elim

theorem fieldOf_elim (hT : TabOk P T) {t f : Nat} {K : Nat → Nat → Prop} (h : fieldOf T t f K) : ∃ F : Array Field, P.underlying t = some (.struct F) ∧ ∃ g, F[f]? = some g ∧ K g.offset g.type := by
  unfold fieldOf at h
  split at h
  · rename_i fs hd
    have hu := (hT.get (und_of hd (by simp))).und
    rw [hd] at hu
    obtain ⟨F, hu, hF, _⟩ := hu
    refine ⟨F, hu, ?_⟩
    have : ∀ (l : List Field) (i : Nat) (K : Nat → Nat → Prop), pairAt (l.map fun f => (f.offset, f.type)) i K → ∃ g, l[i]? = some g ∧ K g.offset g.type := by
      intro l
      induction l with
      | nil => intro i K h; simp [pairAt] at h
      | cons x r ih =>
        intro i K h
        cases i with
        | zero => exact ⟨x, rfl, h⟩
        | succ i => simp only [List.map_cons, pairAt] at h; obtain ⟨g, h1, h2⟩ := ih i K h; exact ⟨g, by simpa using h1, h2⟩
    rw [← hF] at h
    obtain ⟨g, h1, h2⟩ := this _ _ _ h
    exact ⟨g, by simpa using h1, h2⟩
  · exact h.elim

theorem ps_fieldAddr (hT : TabOk P T) (hρ : ∀ x, ER δ B (s.ev x) (ρ x)) {t : TypeId} {x : Operand} {f : Nat} (h : pureOp T s ⟨dst, .fieldAddr t x f, type, pos, after, guard⟩ K) : PS P ⟨dst, .fieldAddr t x f, type, pos, after, guard⟩ ρ δ B K := by
  simp only [pureOp] at h
  have hx := hρ x
  obtain ⟨F, hu, g, hg, h⟩ := fieldOf_elim hT h
  obtain ⟨hok, h⟩ := ifB_elim h
  simp only [Bool.and_eq_true] at hok
  have hsz := fun w => (hT.get hok.1).sizeOf w
  have hne : (T.at g.type).size ≠ 0 := by have := hok.2; simp [Nat.blt] at this; omega
  split at h
  · rename_i a e i q ev
    rw [ev] at hx; simp only [ER, VR] at hx
    obtain ⟨hs, hx⟩ := hx
    refine ⟨_, _, h, .of_VR (by simp only [VR]; exact ⟨hs, rfl⟩), fun w => ?_⟩
    simp [execOp, Instr.fieldAt, run_underlying hu, hg, hx, Instr.sureAddr, fieldPlace, hsz, hne, Addr_add_add hs, Nat.add_assoc]
  · rename_i d q ev
    rw [ev] at hx; simp only [ER] at hx
    refine ⟨_, .pointer (some ⟨δ d, q + g.offset, none⟩), h, by simp only [ER], fun w => ?_⟩
    have : (⟨δ d, q, none⟩ : Addr).add g.offset = ⟨δ d, q + g.offset, none⟩ := by unfold Addr.add; split <;> simp_all
    simp [execOp, Instr.fieldAt, run_underlying hu, hg, hx, Instr.sureAddr, fieldPlace, hsz, hne, this]
  · exact h.elim

theorem cutK_elim {B} : ∀ {cs : List AV} {f n : Nat} {K : List AV → Prop}, cutK cs f n K → f + n ≤ cs.length ∧ ∃ r, K r ∧ r.length = n ∧ (∀ vs, VRs B cs vs → VRs B r ((vs.drop f).take n)) ∧ (allCells cs = true → allCells r = true)
  | cs, 0, 0, K, h => ⟨by omega, [], by simpa [cutK] using h, rfl, fun _ _ => by simp [VRs], fun _ => rfl⟩
  | c :: cs, 0, n + 1, K, h => by
    simp only [cutK] at h
    obtain ⟨v, h, _, hv, hc⟩ := force_elim h
    obtain ⟨hl, r, h, hr, hrv, hrc⟩ := cutK_elim (B := B) h
    refine ⟨by simp; omega, v :: r, h, by simp [hr], fun vs hvs => ?_, fun hx => ?_⟩
    · cases vs with
      | nil => simp only [VRs] at hvs
      | cons x xs => simp only [VRs, List.drop_zero, List.take_succ_cons] at *; exact ⟨hv _ _ hvs.1, by simpa using hrv _ hvs.2⟩
    · simp only [allCells, Bool.and_eq_true] at *; exact ⟨hc hx.1, hrc hx.2⟩
  | c :: cs, f + 1, n, K, h => by
    simp only [cutK] at h
    obtain ⟨hl, r, h, hr, hrv, hrc⟩ := cutK_elim (B := B) h
    refine ⟨by simp; omega, r, h, hr, fun vs hvs => ?_, fun hx => ?_⟩
    · cases vs with
      | nil => simp only [VRs] at hvs
      | cons x xs => simp only [VRs, List.drop_succ_cons] at *; exact hrv _ hvs.2
    · simp only [allCells, Bool.and_eq_true] at hx; exact hrc hx.2
  | [], 0, _ + 1, _, h => by simp [cutK] at h
  | [], _ + 1, _, _, h => by simp [cutK] at h

theorem nthK_elim {B} : ∀ {cs : List AV} {f : Nat} {K : AV → Prop}, nthK cs f K → f < cs.length ∧ ∃ v, K v ∧ (∀ vs, VRs B cs vs → ∃ x, vs[f]? = some x ∧ VR B v x) ∧ (allCells cs = true → v.cell = true)
  | [], _, _, h => by simp [nthK] at h
  | c :: _, 0, K, h => by
    simp only [nthK] at h
    obtain ⟨v, h, _, hv, hc⟩ := force_elim h
    refine ⟨by simp, v, h, fun vs hvs => ?_, fun hx => ?_⟩
    · cases vs with
      | nil => simp only [VRs] at hvs
      | cons x xs => simp only [VRs] at hvs; exact ⟨x, rfl, hv _ _ hvs.1⟩
    · simp only [allCells, Bool.and_eq_true] at hx; exact hc hx.1
  | c :: cs, f + 1, K, h => by
    simp only [nthK] at h
    obtain ⟨hl, v, h, hv, hc⟩ := nthK_elim (B := B) h
    refine ⟨by simp; omega, v, h, fun vs hvs => ?_, fun hx => ?_⟩
    · cases vs with
      | nil => simp only [VRs] at hvs
      | cons x xs => simp only [VRs] at hvs; simpa using hv _ hvs.2
    · simp only [allCells, Bool.and_eq_true] at hx; exact hc hx.2

/-- a part of a value, and a part of a variable -/
theorem partV_elim {t : Nat} {cs : List AV} {f : Nat} {K : AV → Prop} {B} (h : partV (T.at t) cs f K) : (T.at t).ok = true ∧ ∃ v, K v ∧ (allCells cs = true → v.flat = true) ∧ ∀ vs : List Value, VRs B cs vs →
    ∃ x, VR B v x ∧ (((T.at t).desc.agg = true ∧ f + (T.at t).size ≤ vs.length ∧ x = .agg ((vs.drop f).take (T.at t).size).toArray) ∨ ((T.at t).desc.agg = false ∧ vs[f]? = some x)) := by
  unfold partV at h
  have agg : (T.at t).desc.agg = true → cutK cs f (T.at t).size (fun c => K (.agg c)) → ∃ v, K v ∧ (allCells cs = true → v.flat = true) ∧ ∀ vs : List Value, VRs B cs vs → ∃ x, VR B v x ∧ (((T.at t).desc.agg = true ∧ f + (T.at t).size ≤ vs.length ∧ x = .agg ((vs.drop f).take (T.at t).size).toArray) ∨ ((T.at t).desc.agg = false ∧ vs[f]? = some x)) := by
    intro hd h
    obtain ⟨hl, r, h, hr, hrv, hrc⟩ := cutK_elim (B := B) h
    refine ⟨.agg r, h, fun hx => hrc hx, fun vs hvs => ⟨_, ?_, .inl ⟨hd, by rw [← hvs.length]; exact hl, rfl⟩⟩⟩
    simp only [VR]
    exact ⟨_, rfl, by simpa using hrv _ hvs⟩
  split at h
  · rename_i fs hd
    exact ⟨und_of hd (by simp), agg (by rw [hd]; rfl) h⟩
  · rename_i n u hd
    exact ⟨und_of hd (by simp), agg (by rw [hd]; rfl) h⟩
  · exact h.elim
  · rename_i hs ha hb
    have hagg : (T.at t).desc.agg = false := by
      cases hd : (T.at t).desc <;> first | rfl | (exact absurd hd (hs _)) | (exact absurd hd (ha _ _))
    obtain ⟨hl, v, h, hv, hc⟩ := nthK_elim (B := B) h
    refine ⟨und_of rfl (fun e => hb e), v, h, fun hx => ?_, fun vs hvs => ?_⟩
    · have := hc hx; cases v <;> simp [AV.cell, AV.flat] at *
    · obtain ⟨x, h1, h2⟩ := hv _ hvs; exact ⟨x, h2, .inr ⟨hagg, h1⟩⟩

/-- 'part' of the model -/
theorem run_part (hT : TabOk P T) {t : Nat} {cs : List AV} {f : Nat} {K : AV → Prop} {B} (h : partV (T.at t) cs f K) (vs : Array Value) (hvs : VRs B cs vs.toList) : ∃ v x, K v ∧ VR B v x ∧ ∀ w, (part t vs f).run P w = .ok x w := by
  obtain ⟨hok, v, h, _, hv⟩ := partV_elim (B := B) h
  obtain ⟨x, hx, hc⟩ := hv _ hvs
  refine ⟨v, x, h, hx, fun w => ?_⟩
  have ha := (hT.get hok).isAgg w
  have hs := (hT.get hok).sizeOf w
  unfold part
  rcases hc with ⟨hd, hl, rfl⟩ | ⟨hd, hc⟩
  · rw [hd] at ha
    have e : (vs.extract f (f + (T.at t).size)) = ((vs.toList.drop f).take (T.at t).size).toArray := by
      apply Array.ext'
      simp
    simp [ha, hs, e]
  · rw [hd] at ha
    have hc : vs[f]? = some x := by simpa using hc
    simp [ha, hc]

theorem ps_field (hT : TabOk P T) (hρ : ∀ x, ER δ B (s.ev x) (ρ x)) {t : TypeId} {x : Operand} {f : Nat} (h : pureOp T s ⟨dst, .field t x f, type, pos, after, guard⟩ K) : PS P ⟨dst, .field t x f, type, pos, after, guard⟩ ρ δ B K := by
  simp only [pureOp] at h
  have hx := hρ x
  obtain ⟨F, hu, g, hg, h⟩ := fieldOf_elim hT h
  split at h
  · rename_i cs ev
    rw [ev] at hx; simp only [ER, VR] at hx
    obtain ⟨vs, hx, hvs⟩ := hx
    obtain ⟨v, y, h, hv, hr⟩ := run_part hT h vs hvs
    exact ⟨v, y, h, .of_VR hv, fun w => by simp [execOp, Instr.field, run_underlying hu, hg, hx, asAgg, hr]⟩
  · exact h.elim

theorem ps_index (hT : TabOk P T) (hρ : ∀ x, ER δ B (s.ev x) (ρ x)) {t : TypeId} {x i : Operand} (h : pureOp T s ⟨dst, .index t x i, type, pos, after, guard⟩ K) : PS P ⟨dst, .index t x i, type, pos, after, guard⟩ ρ δ B K := by
  simp only [pureOp] at h
  have hx := hρ x
  have hi := hρ i
  obtain ⟨k, n, ei, h⟩ := intOf_elim h
  rw [ei] at hi; simp only [ER, VR] at hi
  split at h
  · rename_i l ev
    rw [ev] at hx; simp only [ER, VR] at hx
    split at h
    · rename_i hd
      obtain ⟨h0, h1, h⟩ := Idx_elim h
      refine ⟨_, _, h, .of_VR (vr_int _ _), fun w => ?_⟩
      have hl : n.toNat < l.length := by omega
      have : (⟨l.toArray⟩ : ByteArray)[n.toNat]? = some (l.getD n.toNat 0) := by
        rw [getElem?_pos _ _ (by rw [size_mk]; exact hl)]
        simp only [List.getD, List.getElem?_eq_getElem hl, Option.getD_some]
        rfl
      simp [execOp, Instr.index, hi, hx, asIntOf, run_underlying (und_string hT hd), h0, this]
    · exact h.elim
  · rename_i cs ev
    rw [ev] at hx; simp only [ER, VR] at hx
    obtain ⟨vs, hx, hvs⟩ := hx
    split at h
    · rename_i m u hd
      obtain ⟨h0, h1, h⟩ := Idx_elim h
      have hok := (partV_elim (B := B) h).1
      have hs := fun w => (hT.get hok).sizeOf w
      obtain ⟨v, y, h, hv, hr⟩ := run_part hT h vs hvs
      exact ⟨v, y, h, .of_VR hv, fun w => by simp [execOp, Instr.index, hi, hx, asIntOf, run_underlying (und_array hT hd), h0, h1, hs, hr]⟩
    · exact h.elim
  · exact h.elim

theorem ps_indexAddr (hT : TabOk P T) (hρ : ∀ x, ER δ B (s.ev x) (ρ x)) {t : TypeId} {x i : Operand} (h : pureOp T s ⟨dst, .indexAddr t x i, type, pos, after, guard⟩ K) : PS P ⟨dst, .indexAddr t x i, type, pos, after, guard⟩ ρ δ B K := by
  simp only [pureOp] at h
  have hx := hρ x
  have hi := hρ i
  obtain ⟨k, n, ei, h⟩ := intOf_elim h
  rw [ei] at hi; simp only [ER, VR] at hi
  split at h
  · rename_i u hd
    split at h
    · rename_i a e p l ev
      rw [ev] at hx; simp only [ER, VR] at hx
      obtain ⟨hu, h⟩ := ifB_elim h
      simp only [Bool.and_eq_true] at hu
      obtain ⟨hu, he⟩ := hu
      have he := Nat.eq_of_beq_eq_true he
      obtain ⟨h0, h1, h⟩ := Idx_elim h
      have hsz := fun w => (hT.get hu).sizeOf w
      rcases hx with ⟨hs, cap, m, hx, hc, hB, hm⟩ | ⟨rfl, q, hx⟩
      · refine ⟨_, .pointer (some (a.add ((p + n.toNat) * e + 0))), h, .of_VR (by simp only [VR]; exact ⟨hs, trivial⟩), fun w => ?_⟩
        simp [execOp, Instr.indexAt, hi, hx, asIntOf, run_underlying (und_slice hT hd), h0, h1, hsz, ← he, Addr_add_add hs, Nat.add_mul]
      · omega
    · exact h.elim
  · rename_i m u hd
    split at h
    · rename_i d q ev
      rw [ev] at hx; simp only [ER] at hx
      obtain ⟨hu, h⟩ := ifB_elim h
      have hsz := fun w => (hT.get hu).sizeOf w
      obtain ⟨h0, h1, h⟩ := Idx_elim h
      refine ⟨_, .pointer (some ⟨δ d, q + n.toNat * (T.at u).size, none⟩), h, by simp only [ER], fun w => ?_⟩
      have : (⟨δ d, q, none⟩ : Addr).add (n.toNat * (T.at u).size) = ⟨δ d, q + n.toNat * (T.at u).size, none⟩ := by unfold Addr.add; split <;> simp_all
      simp [execOp, Instr.indexAt, hi, hx, asIntOf, run_underlying (und_array hT hd), h0, h1, hsz, Instr.sureAddr, this]
    · rename_i a e j g ev
      rw [ev] at hx; simp only [ER, VR] at hx
      obtain ⟨hs, hx⟩ := hx
      obtain ⟨hu, h⟩ := ifB_elim h
      have hsz := fun w => (hT.get hu).sizeOf w
      obtain ⟨h0, h1, h⟩ := Idx_elim h
      refine ⟨_, _, h, .of_VR (by simp only [VR]; exact ⟨hs, rfl⟩), fun w => ?_⟩
      simp [execOp, Instr.indexAt, hi, hx, asIntOf, run_underlying (und_array hT hd), h0, h1, hsz, Instr.sureAddr, Addr_add_add hs, Nat.add_assoc]
    · exact h.elim
  · exact h.elim

theorem ps_makeFunc (hρ : ∀ x, ER δ B (s.ev x) (ρ x)) {fn : Fn} {a b : Array Operand} (h : pureOp T s ⟨dst, .makeFunc fn a b, type, pos, after, guard⟩ K) : PS P ⟨dst, .makeFunc fn a b, type, pos, after, guard⟩ ρ δ B K := by
  cases fn <;> simp only [pureOp] at h
  rename_i f
  split at h
  · rename_i ha
    have ha : a = #[] := by cases a; simp_all
    subst ha
    obtain ⟨vs, h, hv⟩ := evs_elim hρ h
    obtain ⟨hc, h⟩ := ifB_elim h
    refine ⟨_, .func (.func f) #[] (b.map ρ), h, .of_VR (by simp only [VR]; exact ⟨_, rfl, by simpa using hv.cells hc⟩), fun w => ?_⟩
    simp [execOp, Instr.makeFunc]
  · exact h.elim

theorem ps_extract (hρ : ∀ x, ER δ B (s.ev x) (ρ x)) {x : Operand} {i : Nat} (h : pureOp T s ⟨dst, .extract x i, type, pos, after, guard⟩ K) : PS P ⟨dst, .extract x i, type, pos, after, guard⟩ ρ δ B K := by
  simp only [pureOp] at h
  have hx := hρ x
  split at h
  · rename_i vs ev
    rw [ev] at hx; simp only [ER, VR] at hx
    obtain ⟨us, hx, hus⟩ := hx
    obtain ⟨hl, v, h, hv, _⟩ := nthK_elim (B := B) h
    obtain ⟨y, hy, hvy⟩ := hv _ hus
    have hy : us[i]? = some y := by simpa using hy
    exact ⟨v, y, h, .of_VR hvy, fun w => by simp [execOp, Instr.extract, hx, hy]⟩
  · exact h.elim

theorem overK_elim : ∀ {cs vs : List AV} {n : Nat} {K : List AV → Prop}, overK cs vs n K → vs.length = n ∧ n ≤ cs.length ∧ K (vs ++ cs.drop n)
  | cs, [], 0, K, h => by simpa [overK] using h
  | _ :: cs, v :: vs, n + 1, K, h => by
    simp only [overK] at h
    obtain ⟨h1, h2, h3⟩ := overK_elim h
    exact ⟨by simp [h1], by simp; omega, by simpa using h3⟩
  | [], _ :: _, _, _, h => by simp [overK] at h
  | [], [], _ + 1, _, h => by simp [overK] at h
  | _ :: _, [], _ + 1, _, h => by simp [overK] at h
  | _ :: _, _ :: _, 0, _, h => by simp [overK] at h

theorem patchK_elim : ∀ {cs : List AV} {f : Nat} {vs : List AV} {n : Nat} {K : List AV → Prop}, patchK cs f vs n K → vs.length = n ∧ f + n ≤ cs.length ∧ K (cs.take f ++ vs ++ cs.drop (f + n))
  | cs, 0, vs, n, K, h => by
    simp only [patchK] at h
    obtain ⟨h1, h2, h3⟩ := overK_elim h
    exact ⟨h1, by omega, by simpa using h3⟩
  | c :: cs, f + 1, vs, n, K, h => by
    simp only [patchK] at h
    obtain ⟨h1, h2, h3⟩ := patchK_elim h
    refine ⟨h1, by simp; omega, ?_⟩
    have : f + 1 + n = (f + n) + 1 := by omega
    rw [this]; simpa using h3
  | [], _ + 1, _, _, _, h => by simp [patchK] at h

theorem allCells_append {a b : List AV} : allCells (a ++ b) = (allCells a && allCells b) := by
  induction a with
  | nil => simp [allCells]
  | cons x r ih => simp [allCells, ih, Bool.and_assoc]
theorem allCells_take {a : List AV} (n : Nat) (h : allCells a = true) : allCells (a.take n) = true := by
  induction a generalizing n with
  | nil => simp [allCells]
  | cons x r ih => cases n <;> simp [allCells] at * ; exact ⟨h.1, ih _ h.2⟩
theorem allCells_drop {a : List AV} (n : Nat) (h : allCells a = true) : allCells (a.drop n) = true := by
  induction a generalizing n with
  | nil => simp [allCells]
  | cons x r ih => cases n <;> simp [allCells] at *; exact h; exact ih _ h.2

/-- cells written over a row, as 'fill' does it -/
theorem fold_set (vs : List Value) : ∀ (cs : Array Value) (o k : Nat), o + k + vs.length ≤ cs.size →
    ((vs.zipIdx k).foldl (fun cs (c, j) => cs.setIfInBounds (o + j) c) cs).toList = cs.toList.take (o + k) ++ vs ++ cs.toList.drop (o + k + vs.length) := by
  induction vs with
  | nil => intro cs o k h; simp
  | cons v r ih =>
    intro cs o k h
    simp only [List.zipIdx_cons, List.foldl_cons]
    simp only [List.length_cons] at h
    rw [ih _ o (k + 1) (by simp; omega)]
    have hlt : o + k < cs.toList.length := by simp; omega
    have e1 : (cs.setIfInBounds (o + k) v).toList = cs.toList.set (o + k) v := by simp
    rw [e1]
    have e2 : (cs.toList.set (o + k) v).take (o + (k + 1)) = cs.toList.take (o + k) ++ [v] := by
      rw [List.take_set, show o + (k + 1) = (o + k) + 1 from by omega, List.take_succ_eq_append_getElem hlt, List.set_append_right _ _ (by simp; omega)]
      have h0 : o + k - min (o + k) cs.size = 0 := by simp at hlt; omega
      simp [h0]
    have e3 : (cs.toList.set (o + k) v).drop (o + (k + 1) + r.length) = cs.toList.drop (o + k + (r.length + 1)) := by
      rw [List.drop_set_of_lt (by omega)]
      congr 1; omega
    rw [e2, e3]
    simp

theorem fill_step {place : Nat → Option (Nat × Nat)} {cells : Array Value} {i o n : Nat} {v : Value} {r : List (Nat × Value)} (hp : place i = some (o, n)) (hn : v.cells.size = n) (hl : o + n ≤ cells.size) :
    ∃ c : Array Value, c.toList = cells.toList.take o ++ v.cells.toList ++ cells.toList.drop (o + n) ∧ Instr.fill place cells ((i, v) :: r) = Instr.fill place c r := by
  refine ⟨v.cells.zipIdx.foldl (fun cs (c, j) => cs.setIfInBounds (o + j) c) cells, ?_, ?_⟩
  · rw [← Array.foldl_toList, Array.toList_zipIdx]
    have := fold_set v.cells.toList cells o 0 (by simp [hn]; omega)
    simp [hn] at this
    simpa using this
  · simp only [Instr.fill, hp]
    rw [if_neg (by simp [hn]; omega)]

/-- a value's cells are as many as its abstract ones -/
theorem VR.cellsSize {B} {x : AV} {v : Value} (h : VR B x v) (hx : allCells (cellsOf x) = true) : v.cells.size = (cellsOf x).length := by
  have := (h.cells hx).length; simp at this; exact this.symm

theorem evPairs_elim (hρ : ∀ x, ER δ B (s.ev x) (ρ x)) : ∀ {l : List (Nat × Operand)} {K : List (Nat × AV) → Prop}, evPairs s l K → ∃ vs : List (Nat × AV), K vs ∧ vs.map (·.1) = l.map (·.1) ∧ ERs δ B (vs.map (·.2)) (l.map fun p => ρ p.2)
  | [], _, h => ⟨[], h, rfl, by simp only [List.map_nil, ERs]⟩
  | (i, x) :: r, K, h => by
    simp only [evPairs] at h
    obtain ⟨v, h, hv, _⟩ := force_elim h
    obtain ⟨vs, h, h1, h2⟩ := evPairs_elim hρ h
    exact ⟨(i, v) :: vs, h, by simp [h1], by simp only [List.map_cons, ERs]; exact ⟨hv _ _ _ (hρ x), h2⟩⟩

theorem Array_toList_get {α} {a : Array α} {i : Nat} {x : α} (h : a.toList[i]? = some x) : a[i]? = some x := by simpa using h

theorem fillV_elim (hT : TabOk P T) {t : Nat} {place : Nat → Option (Nat × Nat)}
    (hs : ∀ fs, (T.at t).desc = .struct fs → ∀ F : Array Field, P.underlying t = some (.struct F) → ∀ (i : Nat) (g : Field), F[i]? = some g → (T.at g.type).ok = true → place i = some (g.offset, (T.at g.type).size))
    (ha : ∀ n u, (T.at t).desc = .array n u → ∀ i, (T.at u).ok = true → place i = some (i * (T.at u).size, (T.at u).size)) :
    ∀ {r : List (Nat × AV)} {cs : List AV} {K : List AV → Prop} {l : List (Nat × Value)} {cells : Array Value}, fillV T t r cs K → VRs B cs cells.toList → allCells cs = true →
      r.map (·.1) = l.map (·.1) → ERs δ B (r.map (·.2)) (l.map (·.2)) →
      ∃ cs' c, K cs' ∧ VRs B cs' c.toList ∧ allCells cs' = true ∧ Instr.fill place cells l = some c
  | [], cs, K, [], cells, h, hcs, hc, _, _ => ⟨cs, cells, h, hcs, hc, rfl⟩
  | [], _, _, _ :: _, _, _, _, _, hi, _ => by simp at hi
  | _ :: _, _, _, [], _, _, _, _, hi, _ => by simp at hi
  | (i, v) :: r, cs, K, (i', x) :: l, cells, h, hcs, hc, hi, hv => by
    simp only [List.map_cons, List.cons.injEq] at hi
    obtain ⟨rfl, hi⟩ := hi
    simp only [List.map_cons, ERs] at hv
    obtain ⟨hvx, hv⟩ := hv
    have step : ∀ o n, place i = some (o, n) → allCells (cellsOf v) = true → patchK cs o (cellsOf v) n (fun cs' => fillV T t r cs' K) →
        ∃ cs' c, K cs' ∧ VRs B cs' c.toList ∧ allCells cs' = true ∧ Instr.fill place cells ((i, x) :: l) = some c := by
      intro o n hp hcv h
      obtain ⟨h1, h2, h⟩ := patchK_elim h
      have hvr : VR B v x := by
        cases v <;> first | exact hvx | (simp [cellsOf, allCells, AV.cell] at hcv)
      have hvc := hvr.cells hcv
      obtain ⟨c, hc', hf⟩ := fill_step (place := place) (cells := cells) (r := l) hp (by rw [hvr.cellsSize hcv]; exact h1) (by have := hcs.length; simp at this; omega)
      rw [hf]
      refine fillV_elim hT hs ha h ?_ ?_ hi hv
      · rw [hc']; exact ((hcs.take o).append hvc).append (hcs.drop (o + n))
      · rw [allCells_append, allCells_append, allCells_take _ hc, hcv, allCells_drop _ hc]; rfl
    simp only [fillV] at h
    split at h
    · rename_i fs hd
      obtain ⟨F, hu, g, hg, h⟩ := fieldOf_elim hT h
      obtain ⟨hk, h⟩ := ifB_elim h
      simp only [Bool.and_eq_true] at hk
      exact step _ _ (hs _ hd F hu i g hg hk.1) hk.2 h
    · rename_i n u hd
      obtain ⟨hk, h⟩ := ifB_elim h
      simp only [Bool.and_eq_true] at hk
      exact step _ _ (ha _ _ hd i hk.1) hk.2 h
    · exact h.elim

theorem run_places : ∀ (l : List Field), (∀ f ∈ l, (P.info? f.type).isSome = true) → ∃ ps : List (Nat × Nat), (∀ w, ((l.mapM fun f => Prod.mk f.offset <$> sizeOf f.type : Sem (List (Nat × Nat)))).run P w = .ok ps w) ∧
    ∀ (i : Nat) (g : Field), l[i]? = some g → ∃ n, (P.info? g.type).map (·.size) = some n ∧ ps[i]? = some (g.offset, n)
  | [], _ => ⟨[], fun w => by simp, fun i g h => by simp at h⟩
  | f :: r, h => by
    obtain ⟨ps, h1, h2⟩ := run_places r fun g hg => h g (List.mem_cons_of_mem _ hg)
    obtain ⟨i, hi⟩ := Option.isSome_iff_exists.1 (h f List.mem_cons_self)
    have hsz : ∀ w, (sizeOf f.type).run P w = .ok i.size w := fun w => by unfold sizeOf typeInfo; simp [hi]
    refine ⟨(f.offset, i.size) :: ps, fun w => ?_, ?_⟩
    · simp [List.mapM_cons, hsz, h1]
    · intro j g hj
      cases j with
      | zero => simp at hj; subst hj; exact ⟨i.size, by simp [hi], rfl⟩
      | succ j => simpa using h2 j g (by simpa using hj)

theorem info_size (hT : TabOk P T) {t n : Nat} (hk : (T.at t).ok = true) (h : (P.info? t).map (·.size) = some n) : n = (T.at t).size := by
  obtain ⟨i, z, hi, hs, _⟩ := (hT.get hk).info
  rw [hi] at h; simp at h; omega

theorem ps_build (hT : TabOk P T) (hρ : ∀ x, ER δ B (s.ev x) (ρ x)) {t : TypeId} {ps : Array (Nat × Operand)} (h : pureOp T s ⟨dst, .build t ps, type, pos, after, guard⟩ K) : PS P ⟨dst, .build t ps, type, pos, after, guard⟩ ρ δ B K := by
  simp only [pureOp] at h
  obtain ⟨hk, h⟩ := ifB_elim h
  obtain ⟨hd0, h⟩ := ifB_elim h
  obtain ⟨vs, h, h1, h2⟩ := evPairs_elim hρ h
  have hty := hT.get hk
  obtain ⟨i0, z, hi0, _, _, hz, hzv, hzc, _⟩ := hty.info
  have hzr : ∀ w, (zeroValue t).run P w = .ok z w := fun w => by unfold zeroValue typeInfo; simp [hi0, hz]
  have hl1 : vs.map (·.1) = ((ps.toList.map fun p => (p.1, ρ p.2))).map (·.1) := by rw [h1]; simp
  have hl2 : ERs δ B (vs.map (·.2)) ((ps.toList.map fun p => (p.1, ρ p.2)).map (·.2)) := by rw [List.map_map]; exact h2
  have hps : (ps.map fun (i, x) => (i, ρ x)).toList = ps.toList.map fun p => (p.1, ρ p.2) := by simp
  cases hd : (T.at t).desc
  case struct fs =>
    have hu := hty.und
    rw [hd] at hu
    obtain ⟨F, hu, hF, hall⟩ := hu
    obtain ⟨pl, hpl, hpl2⟩ := run_places (P := P) F.toList hall
    have hplace : ∀ fs', (T.at t).desc = .struct fs' → ∀ F' : Array Field, P.underlying t = some (.struct F') → ∀ (i : Nat) (g : Field), F'[i]? = some g → (T.at g.type).ok = true → (fun i => pl.toArray[i]?) i = some (g.offset, (T.at g.type).size) := by
      intro fs' _ F' hu' i g hg hgk
      rw [hu] at hu'; injection hu' with hu'; injection hu' with hu'; subst hu'
      obtain ⟨n, hn, hp⟩ := hpl2 i g (by simpa using hg)
      rw [← info_size hT hgk hn]; simpa using hp
    obtain ⟨cs, c, h, hcs, hcc, hf⟩ := fillV_elim (δ := δ) (B := B) hT (place := fun i => pl.toArray[i]?) hplace (by intro n u hd'; rw [hd] at hd'; cases hd') h (hzv B) hzc hl1 hl2
    refine ⟨_, .agg c, h, .of_VR (by simp only [VR]; exact ⟨c, rfl, hcs⟩), fun w => ?_⟩
    have hm : (F.mapM fun f => (Prod.mk f.offset <$> sizeOf f.type : Sem (Nat × Nat))).run P w = .ok pl.toArray w := by
      rw [Array.mapM_eq_mapM_toList]
      simp [hpl w]
    simp only [execOp, Instr.build, hps]
    simp [hzr, run_underlying hu]
    rw [hm]
    simp only [Result.andThen_ok]
    rw [hf]
    simp
  case array n u =>
    have hu := und_array hT hd
    rw [hd] at hd0
    have hsz := fun w => (hT.get (t := u) hd0).sizeOf w
    obtain ⟨cs, c, h, hcs, hcc, hf⟩ := fillV_elim (δ := δ) (B := B) hT (place := fun i => some (i * (T.at u).size, (T.at u).size)) (by intro fs hd'; rw [hd] at hd'; cases hd') (by intro n' u' hd' i _; rw [hd] at hd'; injection hd' with e1 e2; subst e2; rfl) h (hzv B) hzc hl1 hl2
    refine ⟨_, .agg c, h, .of_VR (by simp only [VR]; exact ⟨c, rfl, hcs⟩), fun w => ?_⟩
    simp only [execOp, Instr.build, hps]
    simp [hzr, run_underlying hu, hsz]
    rw [hf]
    simp
  all_goals simp [hd] at hd0

theorem mm_elim (mx : Bool) : ∀ (l : List AV) (v : AV) {K : AV → Prop} {x : Value} {xs : List Value}, mm mx v l K → ER δ B v x → ERs δ B l xs →
    ∃ k m, K (.int k m) ∧ ∀ w, ((xs.foldlM (if mx then Builtin.max2 else Builtin.min2) x : Sem Value)).run P w = .ok (.int k m) w
  | [], v, K, x, xs, h, hv, hl => by
    cases xs with
    | cons _ _ => simp only [ERs] at hl
    | nil =>
      cases v <;> simp only [mm] at h
      simp only [ER, VR] at hv; subst hv
      exact ⟨_, _, h, fun w => by simp⟩
  | y :: r, v, K, x, xs, h, hv, hl => by
    cases xs with
    | nil => simp only [ERs] at hl
    | cons z zs =>
      simp only [ERs] at hl
      cases v <;> (try (simp only [mm] at h))
      cases y <;> simp only [mm] at h
      simp only [ER, VR] at hv; subst hv
      obtain ⟨hz, hl⟩ := hl
      simp only [ER, VR] at hz; subst hz
      rename_i k a k' b
      cases mx
      · obtain ⟨k2, m, h, hr⟩ := mm_elim false r (.int k (min a b)) (x := .int k (min a b)) h (by simp only [ER, VR]) hl
        refine ⟨k2, m, h, fun w => ?_⟩
        have : ∀ w, (Builtin.min2 (.int k a) (.int k' b)).run P w = .ok (.int k (min a b)) w := fun w => by
          simp only [Builtin.min2, Sem.run_pure]; congr 2; simp only [Int.min_def]; split <;> split <;> omega
        simpa [List.foldlM_cons, this] using hr w
      · obtain ⟨k2, m, h, hr⟩ := mm_elim true r (.int k (max a b)) (x := .int k (max a b)) h (by simp only [ER, VR]) hl
        refine ⟨k2, m, h, fun w => ?_⟩
        have : ∀ w, (Builtin.max2 (.int k a) (.int k' b)).run P w = .ok (.int k (max a b)) w := fun w => by
          simp only [Builtin.max2, Sem.run_pure]; congr 2; simp only [Int.max_def]; split <;> split <;> omega
        simpa [List.foldlM_cons, this] using hr w

theorem ps_call (hT : TabOk P T) (hρC : ∀ x, ER δ B (s.evC x) (ρ x)) {c : Call} (h : pureOp T s ⟨dst, .call c, type, pos, after, guard⟩ K) : PS P ⟨dst, .call c, type, pos, after, guard⟩ ρ δ B K := by
  obtain ⟨callee, args, tys⟩ := c
  have hρ := fun x => ev_of_evC hρC x
  simp only [pureOp] at h
  split at h
  · split at h
    · rename_i x ha
      have ha : args = #[x] := by cases args; simp_all
      subst ha
      have hx := hρ x
      split at h
      · rename_i t hty
        have hty0 : tys[0]? = some t := by cases tys; simp at hty; simp [hty]
        split at h
        · rename_i l ev
          rw [ev] at hx; simp only [ER, VR] at hx
          split at h
          · rename_i hd
            refine ⟨_, _, h, .of_VR (vr_int _ _), fun w => ?_⟩
            simp [execOp, resolve, invoke, builtin, Builtin.len_, hty0, run_underlying (und_string hT hd), hx, goInt, size_mk]
          · exact h.elim
        · rename_i a e p n ev
          rw [ev] at hx; simp only [ER, VR] at hx
          split at h
          · rename_i u hd
            refine ⟨_, _, h, .of_VR (vr_int _ _), fun w => ?_⟩
            rcases hx with ⟨_, cap, m, hx, _⟩ | ⟨rfl, q, hx⟩ <;>
              simp [execOp, resolve, invoke, builtin, Builtin.len_, hty0, run_underlying (und_slice hT hd), hx, goInt]
          · exact h.elim
        · rename_i ev
          rw [ev] at hx; simp only [ER, VR] at hx
          split at h
          · rename_i u hd
            refine ⟨_, _, h, .of_VR (vr_int _ _), fun w => ?_⟩
            simp [execOp, resolve, invoke, builtin, Builtin.len_, hty0, run_underlying (und_slice hT hd), hx, goInt]
          · exact h.elim
        · exact h.elim
      · exact h.elim
    · exact h.elim
  · split at h
    · rename_i x ha
      have ha : args = #[x] := by cases args; simp_all
      subst ha
      have hx := hρC x
      split at h
      · rename_i t hty
        have hty0 : tys[0]? = some t := by cases tys; simp at hty; simp [hty]
        split at h
        · rename_i a e p n c ev
          rw [ev] at hx; simp only [ER, VR] at hx
          split at h
          · rename_i u hd
            refine ⟨_, _, h, .of_VR (vr_int _ _), fun w => ?_⟩
            rcases hx with ⟨_, m, hx, _⟩ | ⟨rfl, rfl, q, hx⟩ <;>
              simp [execOp, resolve, invoke, builtin, Builtin.cap_, hty0, run_underlying (und_slice hT hd), hx, goInt]
          · exact h.elim
        · rename_i ev
          rw [ev] at hx; simp only [ER, VR] at hx
          split at h
          · rename_i u hd
            refine ⟨_, _, h, .of_VR (vr_int _ _), fun w => ?_⟩
            simp [execOp, resolve, invoke, builtin, Builtin.cap_, hty0, run_underlying (und_slice hT hd), hx, goInt]
          · exact h.elim
        · exact h.elim
      · exact h.elim
    · exact h.elim
  · obtain ⟨vs, h', hv⟩ := evs_elim hρ h
    clear h
    split at h'
    · rename_i v r
      obtain ⟨args⟩ := args
      cases args with
      | nil => simp only [List.map_nil, ERs] at hv
      | cons a as =>
        simp only [List.map_cons, ERs] at hv
        obtain ⟨k, m, h, hr⟩ := mm_elim (P := P) false r v h' hv.1 hv.2
        refine ⟨_, _, h, .of_VR (vr_int _ _), fun w => ?_⟩
        have := hr w
        simp at this
        simp [execOp, resolve, invoke, builtin, Builtin.min_, this]
    · exact h'.elim
  · obtain ⟨vs, h', hv⟩ := evs_elim hρ h
    clear h
    split at h'
    · rename_i v r
      obtain ⟨args⟩ := args
      cases args with
      | nil => simp only [List.map_nil, ERs] at hv
      | cons a as =>
        simp only [List.map_cons, ERs] at hv
        obtain ⟨k, m, h, hr⟩ := mm_elim (P := P) true r v h' hv.1 hv.2
        refine ⟨_, _, h, .of_VR (vr_int _ _), fun w => ?_⟩
        have := hr w
        simp at this
        simp [execOp, resolve, invoke, builtin, Builtin.max_, this]
    · exact h'.elim
  · exact h.elim

theorem pure_sound (hT : TabOk P T) (hρC : ∀ x, ER δ B (s.evC x) (ρ x)) (o : Oper) (h : pureOp T s o K) : PS P o ρ δ B K := by
  obtain ⟨dst, op, type, pos, after, guard⟩ := o
  have hρ := fun x => ev_of_evC hρC x
  cases op with
  | move x => exact ps_move hρC h
  | assign x => exact ps_assign hρC h
  | pick c a b => exact ps_pick hρ h
  | nilCheck x => exact ps_nilCheck hρ h
  | binOp op t x y u => exact ps_bin hT hρ h
  | unOp op t x => exact ps_un hρ h
  | convert a b x => exact ps_convert hT hρ h
  | slice t x lo hi mx => exact ps_slice hT hρC h
  | fieldAddr t x f => exact ps_fieldAddr hT hρ h
  | field t x f => exact ps_field hT hρ h
  | indexAddr t x i => exact ps_indexAddr hT hρ h
  | index t x i => exact ps_index hT hρ h
  | makeFunc fn a b => exact ps_makeFunc hρ h
  | extract x i => exact ps_extract hρ h
  | build t ps => exact ps_build hT hρ h
  | call c => exact ps_call hT hρC h
  | _ => exact h.elim

end
end Go.Proofs.Ytdbedlomiedncaa.Vc
