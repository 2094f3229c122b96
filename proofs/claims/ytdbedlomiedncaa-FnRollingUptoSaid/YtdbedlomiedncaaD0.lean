/- Cursors: the drawing of values from a code. -/
import Derived.Test.YtdbedlomiedncaaC3
namespace Go.Proofs.Ytdbedlomiedncaa.Vc
open Go

def byteCell (b : UInt8) : List AV := [.int .u8 b.toNat]

/-- a cursor's row: the code, the place in it, the state -/
def curRow (q : Addr × Nat × List UInt8) (p : Int × Int) : Row := ⟨3, false, [[.slice q.1 1 q.2.1 q.2.2.length, .int .i64 p.1, .int .i64 p.2]]⟩

structure CurAt (H : Hp) (a : Addr) (q : Addr × Nat × List UInt8) (p : Int × Int) : Prop where
  row : H.get a = some (curRow q p)
  code : Sl H q.1 1 q.2.1 (q.2.2.map byteCell)
  pos0 : 0 ≤ p.1
  pos : p.1 ≤ q.2.2.length
  len : q.2.2.length ≤ 1048576

theorem CurAt.ne {H a q p} (h : CurAt H a q p) : q.1 ≠ a := fun e => by
  obtain ⟨r, h1, h2, _⟩ := h.code
  rw [e, h.row] at h1; injection h1 with h1; subst h1; cases h2

theorem CurAt.step {H a q p} (h : CurAt H a q p) {p' : Int × Int} (h0 : 0 ≤ p'.1) (h1 : p'.1 ≤ q.2.2.length) : CurAt (H.set a (curRow q p')) a q p' where
  row := Hp.set_get _ _ _
  code := by
    obtain ⟨r, h1, h2⟩ := h.code
    exact ⟨r, by rw [Hp.set_other _ _ h.ne]; exact h1, h2⟩
  pos0 := h0
  pos := h1
  len := h.len

theorem CurAt.coded {H a q p} (h : CurAt H a q p) (r : Row) : Sl (H.set a r) q.1 1 q.2.1 (q.2.2.map byteCell) := by
  obtain ⟨x, h1, h2⟩ := h.code
  exact ⟨x, by rw [Hp.set_other _ _ h.ne]; exact h1, h2⟩

/-- the cursor goes on -/
def CurTo (H : Hp) (a : Addr) (q : Addr × Nat × List UInt8) (h : Hp) : Prop := ∃ p', h = H.set a (curRow q p') ∧ CurAt h a q p'

theorem CurAt.to {H a q p} (hc : CurAt H a q p) (x y : Int) (h0 : 0 ≤ x) (h1 : x ≤ q.2.2.length) : CurTo H a q (H.set a (curRow q (x, y))) := ⟨(x, y), rfl, hc.step h0 h1⟩

theorem and255 (x : Int) : ∃ y : Nat, y ≤ 255 ∧ IntKind.i64.wrap ((BitVec.ofInt 64 x &&& BitVec.ofInt 64 255).toNat : Int) = y := by
  have h : (BitVec.ofInt 64 x &&& BitVec.ofInt 64 255).toNat ≤ 255 := by
    rw [BitVec.toNat_and]
    exact Nat.and_le_right
  refine ⟨_, h, ?_⟩
  rw [← wrapK_eq, wrap_id (by omega) (by omega)]

set_option maxRecDepth 100000 in
theorem l1Byte_ok (H : Hp) (a : Addr) (q : Addr × Nat × List UInt8) (p : Int × Int) (hc : CurAt H a q p) :
    AC Try.prog 99 [.ptr a 3 0 0] H fun v h => (∃ x : Nat, v = .int .i64 x ∧ x ≤ 255) ∧ CurTo H a q h := by
  refine AC_of_vc (T := tab) (D := D99) (esc := []) tab_ok mixed Try.func99 rfl rfl rfl ?_
  conv => whnf
  repeat' (first
    | (refine Br.no rfl ?_; conv => whnf)
    | (refine Br.yes rfl ?_; conv => whnf)
    | (refine Ld.intro hc.row rfl rfl ?_; conv => whnf)
    | (refine Sto.intro hc.row rfl rfl rfl ?_; conv => whnf)
    | (refine Ld.intro (Hp.set_get _ _ _) rfl rfl ?_; conv => whnf)
    | (refine Must.intro (by decide) ?_; conv => whnf)
    | (refine Two.intro ?_ ?_ <;> conv => whnf)
    | (refine Drawn.intro (by kernel_rfl) ?_; conv => whnf)
    | (refine Br.dec (fun _ => ?_) (fun _ => ?_) <;> conv => whnf)
    | (refine Br.neg (fun _ => ?_) (fun _ => ?_) <;> conv => whnf)
    | (refine Br.both (fun _ => ?_) (fun _ => ?_) <;> conv => whnf))
  · have h1 : p.1 < q.2.2.length := by assumption
    have hp := hc.pos0
    have hl := hc.len
    have h2 : p.1.toNat < q.2.2.length := by omega
    refine Idx.at p.1.toNat (by omega) h2 ?_
    conv => whnf
    refine (hc.coded _).ld h2 ?_
    conv => whnf
    repeat' (first
      | (refine Br.no rfl ?_; conv => whnf)
      | (refine Br.yes rfl ?_; conv => whnf)
      | (refine Ld.intro (Hp.set_get _ _ _) rfl rfl ?_; conv => whnf)
      | (refine Sto.intro (Hp.set_get _ _ _) rfl rfl rfl ?_; conv => whnf)
      | (refine Two.intro ?_ ?_ <;> conv => whnf)
      | (refine Drawn.intro (by kernel_rfl) ?_; conv => whnf)
      | (refine Br.dec (fun _ => ?_) (fun _ => ?_) <;> conv => whnf)
      | (refine Br.neg (fun _ => ?_) (fun _ => ?_) <;> conv => whnf)
      | (refine Br.both (fun _ => ?_) (fun _ => ?_) <;> conv => whnf))
    rw [Hp.set_set]
    have hw : wrapK .i64 (p.1 + 1) = p.1 + 1 := wrap_id (by omega) (by omega)
    exact ⟨(and255 _).imp fun x hx => ⟨congrArg _ hx.2, hx.1⟩, hc.to (wrapK .i64 (p.1 + 1)) _ (by rw [hw]; omega) (by rw [hw]; omega)⟩
  · exact ⟨(and255 _).imp fun x hx => ⟨congrArg _ hx.2, hx.1⟩, hc.to p.1 (wrapK .i64 (wrapK .i64 (p.2 * 6364136223846793005) + 1442695040888963407)) hc.pos0 hc.pos⟩

theorem CurTo.trans {H h h' : Hp} {a q} (x : CurTo H a q h) (y : CurTo h a q h') : CurTo H a q h' := by
  obtain ⟨p, rfl, h1⟩ := x
  obtain ⟨p', rfl, h2⟩ := y
  rw [Hp.set_set] at h2 ⊢
  exact ⟨p', rfl, h2⟩

set_option maxRecDepth 100000 in
theorem l1Below_ok (H : Hp) (a : Addr) (q : Addr × Nat × List UInt8) (p : Int × Int) (n : Nat) (hc : CurAt H a q p) (hn : 0 < n) (hn2 : n ≤ 1073741824) :
    AC Try.prog 77 [.ptr a 3 0 0, .int .i64 n] H fun v h => (∃ x : Nat, v = .int .i64 x ∧ x < n) ∧ CurTo H a q h := by
  have rem : ∀ x : Nat, (x : Int).tmod n = ((x % n : Nat) : Int) := fun x => by rw [Int.tmod_eq_emod_of_nonneg (by omega)]; omega
  refine AC_of_vc (T := tab) (D := D77) (esc := []) tab_ok mixed Try.func77 rfl rfl rfl ?_
  conv => whnf
  refine Br.dec (fun h1 => ?_) (fun h1 => ?_) <;> conv => whnf
  · exfalso; omega
  refine Br.dec (fun h2 => ?_) (fun h2 => ?_) <;> conv => whnf
  · refine AC.mono (l1Byte_ok H a q p hc) ?_
    rintro v h ⟨⟨x, rfl, hx⟩, hto⟩
    conv => whnf
    refine Must.intro (by omega) ?_
    conv => whnf
    exact ⟨⟨x % n, by rw [rem], Nat.mod_lt _ hn⟩, hto⟩
  · refine AC.mono (l1Byte_ok H a q p hc) ?_
    rintro v h ⟨⟨x1, rfl, hx1⟩, p1, hh1, hc1⟩
    conv => whnf
    refine AC.mono (l1Byte_ok h a q p1 hc1) ?_
    rintro v h' ⟨⟨x2, rfl, hx2⟩, p2, hh2, hc2⟩
    conv => whnf
    refine AC.mono (l1Byte_ok h' a q p2 hc2) ?_
    rintro v h'' ⟨⟨x3, rfl, hx3⟩, p3, hh3, hc3⟩
    conv => whnf
    refine AC.mono (l1Byte_ok h'' a q p3 hc3) ?_
    rintro v h4 ⟨⟨x4, rfl, hx4⟩, p4, hh4, hc4⟩
    conv => whnf
    refine Must.intro (by omega) ?_
    conv => whnf
    simp (disch := omega) only [wrap_id]
    have e : (((x1 : Int) * 16777216 + x2 * 65536 + x3 * 256 + x4)) = ((x1 * 16777216 + x2 * 65536 + x3 * 256 + x4 : Nat) : Int) := by omega
    refine ⟨⟨(x1 * 16777216 + x2 * 65536 + x3 * 256 + x4) % n, ?_, Nat.mod_lt _ hn⟩, CurTo.trans ⟨p1, hh1, hc1⟩ (CurTo.trans ⟨p2, hh2, hc2⟩ (CurTo.trans ⟨p3, hh3, hc3⟩ ⟨p4, hh4, hc4⟩))⟩
    rw [← rem, ← e]

set_option maxRecDepth 100000 in
theorem l1Once_ok (H : Hp) (a : Addr) (q : Addr × Nat × List UInt8) (p : Int × Int) (n : Nat) (hc : CurAt H a q p) (hn : 0 < n) (hn2 : n ≤ 1073741824) :
    AC Try.prog 85 [.ptr a 3 0 0, .int .i64 n] H fun v h => (∃ b : Bool, v = .bool b) ∧ CurTo H a q h := by
  refine AC_of_vc (T := tab) (D := D85) (esc := []) tab_ok mixed Try.func85 rfl rfl rfl ?_
  conv => whnf
  refine AC.mono (l1Below_ok H a q p n hc hn hn2) ?_
  rintro v h ⟨⟨x, rfl, hx⟩, hto⟩
  conv => whnf
  exact ⟨⟨_, rfl⟩, hto⟩

set_option maxRecDepth 100000 in
theorem l1Pick_ok (H : Hp) (a b : Addr) (o : Nat) (q : Addr × Nat × List UInt8) (p : Int × Int) (ss : List (List UInt8)) (hc : CurAt H a q p) (hb : Sl H b 1 o (ss.map fun s => [.str s])) (hn : 0 < ss.length) (hn2 : ss.length ≤ 1073741824) :
    AC Try.prog 75 [.ptr a 3 0 0, .slice b 1 o ss.length] H fun v h => (∃ s ∈ ss, v = .str s) ∧ CurTo H a q h := by
  refine AC_of_vc (T := tab) (D := D75) (esc := []) tab_ok mixed Try.func75 rfl rfl rfl ?_
  conv => whnf
  refine AC.mono (l1Below_ok H a q p ss.length hc hn hn2) ?_
  rintro v h ⟨⟨x, rfl, hx⟩, p', rfl, hc'⟩
  conv => whnf
  refine Idx.nat hx ?_
  conv => whnf
  have hb' : Sl (H.set a (curRow q p')) b 1 o (ss.map fun s => [.str s]) := by
    obtain ⟨r, g1, g2⟩ := hb
    refine ⟨r, ?_, g2⟩
    rw [Hp.set_other _ _ ?_, g1]
    intro e; rw [e, hc.row] at g1; injection g1 with g1; subst g1; cases g2.1
  refine hb'.ld hx ?_
  conv => whnf
  exact ⟨⟨_, List.getElem_mem hx, rfl⟩, p', rfl, hc'⟩

set_option maxRecDepth 100000 in
theorem l1PickInt_ok (H : Hp) (a b : Addr) (o : Nat) (q : Addr × Nat × List UInt8) (p : Int × Int) (ss : List Int) (hc : CurAt H a q p) (hb : Sl H b 1 o (ss.map fun s => [.int .i64 s])) (hn : 0 < ss.length) (hn2 : ss.length ≤ 1073741824) :
    AC Try.prog 105 [.ptr a 3 0 0, .slice b 1 o ss.length] H fun v h => (∃ s ∈ ss, v = .int .i64 s) ∧ CurTo H a q h := by
  refine AC_of_vc (T := tab) (D := D105) (esc := []) tab_ok mixed Try.func105 rfl rfl rfl ?_
  conv => whnf
  refine AC.mono (l1Below_ok H a q p ss.length hc hn hn2) ?_
  rintro v h ⟨⟨x, rfl, hx⟩, p', rfl, hc'⟩
  conv => whnf
  refine Idx.nat hx ?_
  conv => whnf
  have hb' : Sl (H.set a (curRow q p')) b 1 o (ss.map fun s => [.int .i64 s]) := by
    obtain ⟨r, g1, g2⟩ := hb
    refine ⟨r, ?_, g2⟩
    rw [Hp.set_other _ _ ?_, g1]
    intro e; rw [e, hc.row] at g1; injection g1 with g1; subst g1; cases g2.1
  refine hb'.ld hx ?_
  conv => whnf
  exact ⟨⟨_, List.getElem_mem hx, rfl⟩, p', rfl, hc'⟩

set_option maxRecDepth 100000 in
theorem l1New_ok (H : Hp) (ca : Addr) (co : Nat) (bs : List UInt8) (hs : Sl H ca 1 co (bs.map byteCell)) (hl : bs.length ≤ 1048576) :
    AC Try.prog 73 [.slice ca 1 co bs.length] H fun v h => ∃ a p, H.get a = none ∧ v = .ptr a 3 0 0 ∧ h = H.set a (curRow (ca, co, bs) p) ∧ CurAt h a (ca, co, bs) p := by
  refine AC_of_vc (T := tab) (D := D73) (esc := [31]) tab_ok mixed Try.func73 rfl rfl rfl ?_
  conv => whnf
  refine LoopVC.intro (fun z : Nat × Int => (⟨Try.f73.ntmps, [(4, .int .i64 z.1), (3, .int .i64 z.2), (0, .slice ca 1 co bs.length)], [], H⟩ : St)) (fun z => z.1 ≤ bs.length) (fun z => bs.length - z.1) (fun z hi K hK => ?_) (0, _) (by simp) ⟨rfl, by repeat' (first | exact trivial | exact .inl rfl | apply And.intro), by repeat' (first | exact trivial | exact ⟨_, rfl, cle.refl _⟩ | apply And.intro), HSub.refl _⟩
  obtain ⟨i, x⟩ := z
  simp only at hi ⊢
  conv => whnf
  repeat' (first
    | (refine Br.no rfl ?_; conv => whnf)
    | (refine Br.yes rfl ?_; conv => whnf)
    | (refine Two.intro ?_ ?_ <;> conv => whnf)
    | (refine Drawn.intro (by kernel_rfl) ?_; conv => whnf)
    | (refine Br.dec (fun _ => ?_) (fun _ => ?_) <;> conv => whnf)
    | (refine Br.neg (fun _ => ?_) (fun _ => ?_) <;> conv => whnf)
    | (refine Br.both (fun _ => ?_) (fun _ => ?_) <;> conv => whnf))
  · have h : i < bs.length := by omega
    refine Idx.nat h ?_
    conv => whnf
    refine hs.ld h ?_
    conv => whnf
    simp (disch := omega) only [wrap_id]
    exact hK (i + 1, _) _ (by simp only; omega) (by simp only; omega) ⟨rfl, by repeat' (first | exact trivial | exact .inl rfl | apply And.intro), by repeat' (first | exact trivial | exact ⟨_, rfl, cle.refl _⟩ | apply And.intro), HSub.refl _⟩
  all_goals
    refine New.intro fun a ha => ?_; conv => whnf
    refine ⟨a, (0, x), ha, rfl, rfl, Hp.set_get _ _ _, hs.set ha, Int.le_refl 0, by simp only; omega, hl⟩

end Go.Proofs.Ytdbedlomiedncaa.Vc
