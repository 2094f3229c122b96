/- What the arguments of a law are in memory, as rows that nobody writes; and how a law's contract gives its row. -/
import Derived.Test.YtdbedlomiedncaaB0
import Derived.Below
import Derived.Carry
import Derived.ChangeSame
import Derived.OpenShut
import Derived.JoinedCond
import Derived.WalkKit
import Derived.ProofKit
import Derived.Deep.Slices
import Derived.Deep.Fields
import Derived.Lib.SmallJoins
namespace Go.Proofs.Ytdbedlomiedncaa.Vc
open Go Go.ChangeShapes Go.WideShapes Go.RowKit

/-- a row for slices without capacity -/
def dummy : Addr := ⟨0, 0, some 0⟩
def dummy1 : Addr := ⟨0, 0, some 1⟩

/-- what a cell is -/
def cav (v : Value) : AV := match v with
  | .int k n => .int k n
  | .bool b => .bool b
  | .string s => .str s.data.toList
  | .slice (some p) l c => if c = 0 then .slice dummy 10 0 0 else .slice p 10 0 l
  | .slice none _ _ => .slice dummy 10 0 0
  | _ => .undef

def CellGood (w : World) (v : Value) : Prop := (cav v).cell = true ∧ VR (bs w) (cav v) v

/-- the cells of element i, if all of them are good -/
def ElGood (w : World) (a : Addr) (e i : Nat) (vs : List Value) : Prop := vs.length = e ∧ ∀ j (h : j < vs.length), w.cell? (a.add (i * e + j)) = some vs[j] ∧ CellGood w vs[j]

theorem ElGood.unique {w a e i vs us} (h : ElGood w a e i vs) (h' : ElGood w a e i us) : vs = us := by
  refine List.ext_getElem (by rw [h.1, h'.1]) fun j h1 h2 => ?_
  have := (h.2 j h1).1.symm.trans (h'.2 j h2).1
  injection this

open Classical in
noncomputable def rowEs (w : World) (a : Addr) (e : Nat) : Nat → Nat → List (List AV)
  | 0, _ => []
  | n + 1, i => if h : ∃ vs, ElGood w a e i vs then (Classical.choose h).map cav :: rowEs w a e n (i + 1) else []

theorem rowEs_get {w a e} : ∀ (n i k : Nat) (cs : List AV), (rowEs w a e n i)[k]? = some cs → ∃ vs, ElGood w a e (i + k) vs ∧ cs = vs.map cav
  | 0, _, _, _, h => by simp [rowEs] at h
  | n + 1, i, k, cs, h => by
    unfold rowEs at h
    split at h
    · rename_i hx
      cases k with
      | zero => simp at h; exact ⟨_, Classical.choose_spec hx, h.symm⟩
      | succ k =>
        simp at h
        obtain ⟨vs, h1, h2⟩ := rowEs_get n (i + 1) k cs h
        exact ⟨vs, by rwa [show i + (k + 1) = i + 1 + k from by omega], h2⟩
    · simp at h

theorem rowEs_has {w a e} : ∀ (n i m : Nat) (f : Nat → List Value), m ≤ n → (∀ k, k < m → ElGood w a e (i + k) (f k)) → m ≤ (rowEs w a e n i).length ∧ (rowEs w a e n i).take m = (List.range m).map fun k => (f k).map cav
  | _, _, 0, _, _, _ => by simp
  | 0, _, m + 1, _, h, _ => by omega
  | n + 1, i, m + 1, f, h, hg => by
    have h0 := hg 0 (by omega)
    have hx : ∃ vs, ElGood w a e i vs := ⟨_, by simpa using h0⟩
    obtain ⟨i1, i2⟩ := rowEs_has n (i + 1) m (fun k => f (k + 1)) (by omega) fun k hk => by
      have := hg (k + 1) (by omega)
      rwa [show i + (k + 1) = i + 1 + k from by omega] at this
    unfold rowEs
    rw [dif_pos hx]
    refine ⟨by simp; omega, ?_⟩
    have e0 : Classical.choose hx = f 0 := (Classical.choose_spec hx).unique (by simpa using h0)
    rw [List.take_succ_cons, i2, List.range_succ_eq_map, List.map_cons, List.map_map, e0]
    rfl

def bsize (w : World) (b : Nat) : Nat := (bs w b).getD 0

/-- a row, by its first cell -/
noncomputable def hwRow (w : World) (a : Addr) (v : Value) : Option Row := match v with
  | .string _ => some ⟨10, true, rowEs w a 10 (bsize w a.block) 0⟩
  | .slice _ _ _ => some ⟨1, true, rowEs w a 1 (bsize w a.block) 0⟩
  | .int .u8 _ => some ⟨1, true, rowEs w a 1 (bsize w a.block) 0⟩
  | _ => none

theorem hwRow_is {w a v r} (h : hwRow w a v = some r) : r.ro = true ∧ ∃ e n, 0 < e ∧ r = ⟨e, true, rowEs w a e n 0⟩ := by
  unfold hwRow at h
  split at h <;> first | (injection h with h; subst h; exact ⟨rfl, _, _, by omega, rfl⟩) | cases h

open Classical in
/-- the memory of a world, as rows that nobody writes -/
noncomputable def Hw (w : World) : Hp := ⟨fun a => if a = dummy then some ⟨10, true, []⟩ else if a = dummy1 then some ⟨1, true, []⟩ else match w.cell? a with
  | some v => hwRow w a v
  | none => none⟩

theorem Hw_ro {w a r} (h : (Hw w).get a = some r) : r.ro = true := by
  unfold Hw at h
  simp only at h
  split at h
  · injection h with h; subst h; rfl
  split at h
  · injection h with h; subst h; rfl
  · split at h
    · exact (hwRow_is h).1
    · cases h

theorem cell_some {w : World} {a : Addr} {v : Value} (h : w.cell? a = some v) : a.spot = none ∧ ∃ c E fr, w.heap[a.block]? = some (.cells c E fr) ∧ c[a.off]? = some v := by
  unfold World.cell? at h
  split at h
  · rename_i c E fr hb
    cases hs : a.spot with
    | none => rw [hs] at h; simp at h; exact ⟨rfl, c, E, fr, hb, h⟩
    | some s => rw [hs] at h; simp at h
  · cases h

theorem real_of {w : World} {a : Addr} {v : Value} {e n : Nat} (h : w.cell? a = some v) (he : 0 < e) : Real w a ⟨e, true, rowEs w a e n 0⟩ := by
  obtain ⟨hs, c, E, fr, hb, hc⟩ := cell_some h
  have hlt : a.off < c.size := by
    rcases Nat.lt_or_ge a.off c.size with h | h
    · exact h
    · rw [Array.getElem?_eq_none h] at hc; cases hc
  have cellc : ∀ k x, w.cell? (a.add k) = some x → c[a.off + k]? = some x := fun k x hx => by
    rw [addr_mk hs] at hx
    unfold World.cell? at hx
    rw [hb] at hx
    simpa using hx
  have key : ∀ i cs, (rowEs w a e n 0)[i]? = some cs → cs.length = e ∧ allCells cs = true ∧ VRs (bs w) cs ((c.toList.drop (a.off + i * e)).take e) ∧ a.off + i * e + e ≤ c.size := fun i cs hi => by
    obtain ⟨vs, ⟨g1, g2⟩, rfl⟩ := rowEs_get n 0 i cs hi
    rw [Nat.zero_add] at g2
    have hat : ∀ j (hj : j < vs.length), c[a.off + i * e + j]? = some vs[j] := fun j hj => by
      have := cellc _ _ (g2 j hj).1
      rwa [← Nat.add_assoc] at this
    have hle : a.off + i * e + e ≤ c.size := by
      have := hat (e - 1) (by omega)
      have := (Array.getElem?_eq_some_iff.1 this).1
      omega
    have hdt : (c.toList.drop (a.off + i * e)).take e = vs := by
      refine List.ext_getElem? fun k => ?_
      rw [slice_get]
      by_cases hk : k < e
      · rw [if_pos hk, Array.getElem?_toList, hat k (by omega), List.getElem?_eq_getElem (by omega)]
      · rw [if_neg hk, List.getElem?_eq_none (by omega)]
    refine ⟨by rw [List.length_map, g1], ?_, ?_, hle⟩
    · have : ∀ l : List Value, (∀ v ∈ l, (cav v).cell = true) → allCells (l.map cav) = true := fun l => by
        induction l with
        | nil => intro _; rfl
        | cons x r ih => intro hl; simp only [List.map_cons, allCells, Bool.and_eq_true]; exact ⟨hl x List.mem_cons_self, ih fun v hv => hl v (List.mem_cons_of_mem _ hv)⟩
      refine this vs fun v hv => ?_
      obtain ⟨j, hj, rfl⟩ := List.mem_iff_getElem.1 hv
      exact (g2 j hj).2.1
    · rw [hdt]
      have : ∀ l : List Value, (∀ v ∈ l, VR (bs w) (cav v) v) → VRs (bs w) (l.map cav) l := fun l => by
        induction l with
        | nil => intro _; simp only [List.map_nil, VRs]
        | cons x r ih => intro hl; simp only [List.map_cons, VRs]; exact ⟨hl x List.mem_cons_self, ih fun v hv => hl v (List.mem_cons_of_mem _ hv)⟩
      refine this vs fun v hv => ?_
      obtain ⟨j, hj, rfl⟩ := List.mem_iff_getElem.1 hv
      exact (g2 j hj).2.2
  refine ⟨hs, he, c, E, fr, hb, ?_, fun h => (by cases h), fun i cs hi => ?_⟩
  · by_cases h0 : (rowEs w a e n 0).length = 0
    · simp only [h0]; omega
    · have hi : (rowEs w a e n 0).length - 1 < (rowEs w a e n 0).length := by omega
      obtain ⟨_, _, _, h4⟩ := key _ _ (List.getElem?_eq_getElem hi)
      simp only
      have : (rowEs w a e n 0).length * e = ((rowEs w a e n 0).length - 1) * e + e := by
        conv => lhs; rw [show (rowEs w a e n 0).length = (rowEs w a e n 0).length - 1 + 1 from by omega]
        rw [Nat.add_mul, Nat.one_mul]
      omega
  · obtain ⟨h1, h2, h3, _⟩ := key i cs hi
    exact ⟨h1, h2, h3⟩

theorem Hw_sat (w : World) : Sat w (Hw w) := by
  refine ⟨fun a r h => ?_, fun a r a' r' h _ h2 => ?_, 2, fun k hk => ?_⟩
  · unfold Hw at h
    simp only at h
    split at h
    · rename_i e; injection h with h; subst h; subst e; exact .inr ⟨by simp [dummy], rfl⟩
    split at h
    · rename_i e; injection h with h; subst h; subst e; exact .inr ⟨by simp [dummy1], rfl⟩
    · split at h
      · rename_i hc; obtain ⟨_, e, n, he, rfl⟩ := hwRow_is h; exact .inl (real_of hc he)
      · cases h
  · rw [Hw_ro h] at h2; cases h2
  · unfold Hw
    simp only
    rw [if_neg (by simp [dummy]; omega), if_neg (by simp [dummy1]; omega)]
    have : w.cell? ⟨0, 0, some k⟩ = none := by unfold World.cell?; split <;> simp
    rw [this]

theorem Hw_dummy (w : World) : (Hw w).get dummy = some ⟨10, true, []⟩ := by unfold Hw; simp
theorem Hw_dummy1 (w : World) : (Hw w).get dummy1 = some ⟨1, true, []⟩ := by unfold Hw; simp [dummy, dummy1]

theorem Hw_cell {w : World} {a : Addr} {v : Value} (h : w.cell? a = some v) : (Hw w).get a = hwRow w a v := by
  have hs := (cell_some h).1
  unfold Hw
  simp only
  rw [if_neg (fun e => by rw [e] at hs; cases hs), if_neg (fun e => by rw [e] at hs; cases hs), h]

/-- a law's answer, out of its contract: nothing that was there has changed -/
theorem law_calls {P : Program} {f : Nat} {fn : Func} {c : Code} {avs : List AV} {W : World} {args : Array Value} (hf : P.funcs[f]? = some fn) (hb : fn.body = some c) (hname : (fn.name == "runtime.NumGoroutine") = false)
    (h : AC P f avs (Hw W) fun v _ => v = .bool true) (hv : VRs (bs W) avs args.toList) : Calls P f args W fun e W' => e = .returned (.bool true) ∧ Below W.heap.size W W' := by
  unfold AC at h
  have hc : (callFunc f args).run P W = .ok (.enter f args) W := by simp [callFunc, hf, hb, (by simpa using hname : ¬fn.name = "runtime.NumGoroutine")]
  rcases h W args.toList (Hw_sat W) hv with ⟨_, h2⟩ | ⟨v, w', h1, _⟩
  · rw [Array.toArray_toList] at h2
    refine Calls.mono h2 fun e w' ⟨v, he, av, H', h2, h3, h4, h5⟩ => ?_
    subst h3
    simp only [VR] at h2
    subst h2
    refine ⟨he, h5.os, h5.tape, h5.out, h5.size, fun k hk => h5.keep k hk fun ⟨a, r, ha, hr, _⟩ => ?_⟩
    rw [Hw_ro ha] at hr; cases hr
  · rw [Array.toArray_toList, hc] at h1; cases h1

section
variable {H : Type} {enc : TypeId × Value → H} {P : Program}

theorem post_of_below' {f : Func} {s : ChangeSpec} {apart fresh handsOn again : Bool} {W W' : World} {args : Array Value} {v : Value} {ds gs : List (DataW H)} {before pa pv : List MemPlace}
    (hW : DataW.Whole enc P f.params.toList s.vars apart W args.toList ds gs before)
    (hres : ∀ (b : Nat) (sp : Nat → Bool) (hd : Bool), DataW.TrodAll enc P W' b sp hd f.resultTypes.toList (v.resultList f.resultTypes.size) (s.fn H (ds ++ gs)).results [])
    (hargs : ∀ sp : Nat → Bool, (∀ p ∈ before, sp p.block = true) → DataW.TrodAll enc P W' 0 sp true f.params.toList args.toList (s.fn H (ds ++ gs)).args pa)
    (hvars : ∀ sp : Nat → Bool, (∀ p ∈ before, sp p.block = true) → DataW.TrodVars enc P W' sp s.vars (s.fn H (ds ++ gs)).vars pv)
    (hps : before = pa ++ pv) (hb : Below W.heap.size W W')
    (hok : ∀ (j : Nat) (t : TypeId) (r : Value), f.resultTypes[j]? = some t → (v.resultList f.resultTypes.size)[j]? = some r → Value.okWide P W' .any 0 t r) :
    s.post enc P f apart fresh handsOn again W args v W' := by
  have hlt : ∀ p ∈ before, p.block < W.heap.size := fun p hp => hW.lt p hp
  have hold : ∀ p ∈ before, (fun b => decide (b < W.heap.size)) p.block = true := fun p hp => by simpa using hlt p hp
  refine ⟨ds, gs, before, [], pa, pv, hW, hres _ _ _, hargs _ hold, hvars _ hold, World.keptBut_mono (fun p hp => ⟨hp, ?_⟩) (hb.frame (· ∈ before)), fun _ => ?_⟩
  · rw [hps, List.mem_append] at hp
    exact Or.inr hp
  · obtain ⟨_, _, _, _, _, hz, hn⟩ := hW
    refine ⟨hok, _, _, ([] ++ pa) ++ pv, ⟨[] ++ pa, pv, trodAll_append (hargs _ (fun _ _ => rfl)) (hres _ _ _), hvars _ (fun _ _ => rfl), rfl, ?_, ?_⟩, ?_⟩
    · intro b off hp
      have hin : MemPlace.cell b off ∈ before := by rw [hps]; simpa using hp
      rw [hb.frozen (hlt _ hin)]
      exact hz b off hin
    · intro ha
      have := hn ha
      rw [hps] at this
      simpa using this
    · intro p hp _
      rw [hps]
      simpa using hp

/-- the arguments read as they did -/
theorem trodAll_stays (hl : laidOutB P = true) {W W' : World} (hb : Below W.heap.size W W') {sp : Nat → Bool} : ∀ {ts : List TypeId} {vs : List Value} {ds : List (DataW H)} {ps : List MemPlace}, (ts.all fun t => P.readableRec t && decide (t < P.types.size)) = true →
    DataW.TrodAll enc P W 0 (fun _ => true) true ts vs ds ps → (∀ p ∈ ps, p.block < W.heap.size) → (∀ p ∈ ps, sp p.block = true) → DataW.TrodAll enc P W' 0 sp true ts vs ds ps
  | [], [], [], ps, _, h, _, _ => h
  | t :: ts, v :: vs, d :: ds, ps, ht, h, hlt, hs => by
    obtain ⟨p, q, h1, h2, rfl⟩ := h
    simp only [List.all_cons, Bool.and_eq_true, decide_eq_true_eq] at ht
    refine ⟨p, q, WideElems.Trod_stays hl ht.1.1 ht.1.2 h1 (fun x hx => hb.same (hlt x (List.mem_append_left _ hx))) (fun x hx => hs x (List.mem_append_left _ hx)), ?_, rfl⟩
    exact trodAll_stays hl hb ht.2 h2 (fun x hx => hlt x (List.mem_append_right _ hx)) (fun x hx => hs x (List.mem_append_right _ hx))
  | [], [], _ :: _, _, _, h, _, _ => h.elim
  | [], _ :: _, _, _, _, h, _, _ => h.elim
  | _ :: _, [], _, _, _, h, _, _ => h.elim
  | _ :: _, _ :: _, [], _, _, h, _, _ => h.elim

/-- a law's row: it answers true, and its arguments read as they did -/
theorem law_close {f : Nat} {fn : Func} {s : ChangeSpec} {tb : TypeId} {apart fresh handsOn again : Bool} {W : World} {args : Array Value} {ds gs : List (DataW H)} {before : List MemPlace} (hl : laidOutB P = true)
    (hts : (fn.params.toList.all fun t => P.readableRec t && decide (t < P.types.size)) = true) (hrt : fn.resultTypes = #[tb]) (hbool : P.underlying tb = some .bool) (hsv : s.vars = [])
    (hsr : (s.fn H (ds ++ gs)).results = [.lit (.bool true)]) (hsa : (s.fn H (ds ++ gs)).args = ds) (hsg : (s.fn H (ds ++ gs)).vars = [])
    (hW : DataW.Whole enc P fn.params.toList s.vars apart W args.toList ds gs before)
    (hc : Calls P f args W fun e W' => e = .returned (.bool true) ∧ Below W.heap.size W W') :
    Calls P f args W fun e W' => ∃ v, e = .returned v ∧ s.post enc P fn apart fresh handsOn again W args v W' := by
  refine Calls.mono hc fun e W' ⟨he, hb⟩ => ?_
  obtain ⟨p, q, hA, hV, hpq, _, _⟩ := id hW
  have hq : q = [] := by rw [hsv] at hV; cases gs <;> simp [DataW.TrodVars] at hV; exact hV
  subst hq
  rw [List.append_nil] at hpq
  subst hpq
  have hlt : ∀ x ∈ before, x.block < W.heap.size := fun x hx => hW.lt x hx
  refine ⟨_, he, post_of_below' (pa := before) (pv := []) hW (fun _ _ _ => ?_) (fun sp hsp => ?_) (fun _ _ => ?_) (by simp) hb (ok_one hrt rfl (okWide_bool_mk hbool _))⟩
  · rw [hrt, hsr]; exact trodAll_cons_mk (shut_bool hbool _) trodAll_mk0
  · rw [hsa]; exact trodAll_stays hl hb hts hA hlt hsp
  · rw [hsv, hsg]; rfl

end
end Go.Proofs.Ytdbedlomiedncaa.Vc
