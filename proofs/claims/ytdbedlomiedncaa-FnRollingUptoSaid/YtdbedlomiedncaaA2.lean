/- Slices of rows: copies, sizes, marks. -/
import Derived.Test.YtdbedlomiedncaaA1
namespace Go.Proofs.Ytdbedlomiedncaa.Vc
open Go

def zRow : List AV := [.str [], .int .i64 0, .int .i64 0, .bool false, .int .i64 0, .int .i64 0, .int .i64 0, .int .i64 0, .int .i64 0, .int .i64 0]

theorem fill_get {α : Type} {x : List α} {f : α → List AV} {z : List AV} {i : Nat} (h : i < x.length) : ((x.take i).map f ++ List.replicate (x.length - i) z)[i]? = some z := by
  have : ((x.take i).map f).length = i := by simp; omega
  rw [List.getElem?_append_right (by omega), this, Nat.sub_self, List.getElem?_replicate, if_pos (by omega)]

theorem fill_set {α : Type} {x : List α} (f : α → List AV) {i : Nat} (h : i < x.length) (z : List AV) : ((x.take i).map f ++ List.replicate (x.length - i) z).set i (f x[i]) = (x.take (i + 1)).map f ++ List.replicate (x.length - (i + 1)) z := by
  have hl : ((x.take i).map f).length = i := by simp; omega
  have e : x.length - i = (x.length - (i + 1)) + 1 := by omega
  rw [List.set_append_right _ _ (by omega), hl, Nat.sub_self, e, List.replicate_succ, List.set_cons_zero, List.take_succ_eq_append_getElem h]
  simp only [List.map_append, List.map_cons, List.map_nil, List.append_assoc, List.cons_append, List.nil_append]

/-- a new slice of these elements -/
def Fresh (H : Hp) (e : Nat) (es : List (List AV)) (v : AV) (h : Hp) : Prop := ∃ b, H.get b = none ∧ v = .slice b e 0 es.length ∧ h = H.set b ⟨e, false, es⟩

set_option maxRecDepth 100000 in
theorem toRowS_ok (H : Hp) (a : Addr) (o : Nat) (ra : Row) (x : List R) (ha : H.get a = some ra) (ea : ra.e = 10)
    (hx : (ra.es.drop o).take x.length = x.map R.av) (hl : x.length ≤ 1048576) :
    AC Try.prog 12 [.slice a 10 o x.length] H (Fresh H 10 (x.map R.av)) := by
  refine AC_of_vc (T := tab) (D := D12) (esc := []) tab_ok mixed Try.func12 rfl rfl rfl ?_
  conv => whnf
  refine Must.intro (by rw [tb49]; omega) ?_
  refine New.intro fun b hb => ?_
  conv => whnf
  have hab : a ≠ b := Hp.ne_of ha hb
  refine LoopVC.intro (fun i : Nat => (⟨Try.f12.ntmps, [(4, .int .i64 (i : Int)), (3, .slice b 10 0 x.length), (0, .slice a 10 o x.length)], [], H.set b ⟨10, false, (x.take i).map R.av ++ List.replicate (x.length - i) zRow⟩⟩ : St))
    (fun i => i ≤ x.length) (fun i => x.length - i) (fun i hi K hK => ?_) 0 (by omega) ⟨rfl, ⟨.inl rfl, .inl rfl, .inl rfl, trivial⟩, trivial, HSub.refl _⟩
  conv => whnf
  refine Br.both (fun h => ?_) (fun h => ?_) <;> conv => whnf
  · have h : i < x.length := by have := of_decide_eq_true h; omega
    have ex := List.getElem?_eq_getElem h
    refine Idx.nat h ?_
    conv => whnf
    refine Ld.intro (by rw [Hp.set_other _ _ hab]; exact ha) ea (row_at hx ex) ?_
    conv => whnf
    refine AC.use1 (toRow_ok _ x[i]) ?_
    conv => whnf
    refine Idx.nat h ?_
    conv => whnf
    refine Sto.intro (Hp.set_get _ _ _) rfl rfl (by rw [Nat.zero_add]; exact fill_get h) ?_
    conv => whnf
    rw [wrap_id (n := (i : Int) + 1) (by omega) (by omega)]
    refine hK (i + 1) _ h (by omega) ⟨rfl, ⟨.inl rfl, .inl rfl, .inl rfl, trivial⟩, trivial, ?_⟩
    rw [← fill_set R.av h zRow]
    simp only [Hp.set_set, Nat.zero_add]
    exact HSub.refl _
  · have h := of_decide_eq_false h
    have e : i = x.length := by omega
    subst e
    refine ⟨b, hb, by rw [List.length_map], by simp⟩

set_option maxRecDepth 100000 in
theorem szRowS_ok (H : Hp) (a : Addr) (o : Nat) (ra : Row) (x : List R) (left : Int) (ha : H.get a = some ra) (ea : ra.e = 10)
    (hx : (ra.es.drop o).take x.length = x.map R.av) (hl : x.length ≤ 1048576) (hkey : ∀ r ∈ x, r.key.length ≤ 1048576) (hleft : 0 ≤ left ∧ left ≤ 1048576) :
    AC Try.prog 10 [.slice a 10 o x.length, .int .i64 left] H fun v h => (∃ k, v = .int .i64 k ∧ (0 ≤ k → x.length + (x.map fun r => r.key.length).sum + k = left)) ∧ h = H := by
  refine AC_of_vc (T := tab) (D := D10) (esc := []) tab_ok mixed Try.func10 rfl rfl rfl ?_
  conv => whnf
  have e0 := wrap_id (n := left - (x.length : Int)) (by omega) (by omega)
  rw [e0]
  refine Br.both (fun h => ?_) (fun h => ?_) <;> conv => whnf
  · exact ⟨⟨_, rfl, fun h => by omega⟩, rfl⟩
  have h := of_decide_eq_false h
  refine LoopVC.intro (fun (p : Nat × Int) => (⟨Try.f10.ntmps, [(5, .int .i64 (p.1 : Int)), (1, .int .i64 p.2), (4, .int .i64 0), (0, .slice a 10 o x.length)], [], H⟩ : St))
    (fun p => p.1 ≤ x.length ∧ 0 ≤ p.2 ∧ x.length + ((x.take p.1).map fun r => r.key.length).sum + p.2 = left) (fun p => x.length - p.1) (fun p hi K hK => ?_) (0, left - x.length) ⟨by simp, by simp; omega, by simp; omega⟩ ⟨rfl, ⟨.inl rfl, .inl rfl, .inl rfl, .inl rfl, trivial⟩, trivial, HSub.refl _⟩
  obtain ⟨i, l⟩ := p
  simp only at hi ⊢
  conv => whnf
  obtain ⟨hi1, hi2, hi3⟩ := hi
  refine Br.both (fun h => ?_) (fun h => ?_) <;> conv => whnf
  · have h : i < x.length := by have := of_decide_eq_true h; omega
    have ex := List.getElem?_eq_getElem h
    refine Idx.nat h ?_
    conv => whnf
    refine Ld.intro ha ea (row_at hx ex) ?_
    conv => whnf
    have hk : ((x.take i).map fun r => r.key.length).sum + (x[i]).key.length = ((x.take (i + 1)).map fun r => r.key.length).sum := by
      rw [List.take_succ_eq_append_getElem h, List.map_append, List.sum_append]; rfl
    refine AC.use1 (szRow_ok _ x[i] l hi2 (by omega) (by have := hkey _ (List.getElem_mem h); omega)) ?_
    conv => whnf
    refine Br.both (fun h' => ?_) (fun h' => ?_) <;> conv => whnf
    · exact ⟨⟨_, rfl, fun h => by omega⟩, rfl⟩
    · have h' := of_decide_eq_false h'
      have e2 : (if l < ((x[i]).key.length : Int) then -1 else l - (x[i]).key.length) = l - (x[i]).key.length := by
        split at h' <;> omega
      rw [e2] at h' ⊢
      rw [wrap_id (n := (i : Int) + 1) (by omega) (by omega)]
      refine hK (i + 1, l - (x[i]).key.length) _ ⟨h, by omega, by simp only; omega⟩ (by simp only; omega) ⟨rfl, ⟨.inl rfl, .inl rfl, .inl rfl, .inl rfl, trivial⟩, trivial, HSub.refl _⟩
  · have h := of_decide_eq_false h
    have e : i = x.length := by omega
    subst e
    rw [List.take_length] at hi3
    exact ⟨⟨_, rfl, fun _ => by omega⟩, rfl⟩

end Go.Proofs.Ytdbedlomiedncaa.Vc
