/- Slices of slices of rows: what a function makes and what it owns; the laws' helpers. -/
import Derived.Test.YtdbedlomiedncaaA3
import Derived.Test.YtdbedlomiedncaaB3
namespace Go.Proofs.Ytdbedlomiedncaa.Vc
open Go

def Hp.le (h h' : Hp) : Prop := ∀ a r, h.get a = some r → h'.get a = some r
def Dj (N H : Hp) : Prop := ∀ a, N.get a = none ∨ H.get a = none

theorem Hp.le_refl (h : Hp) : h.le h := fun _ _ e => e
theorem Hp.le_trans {a b c : Hp} (h : a.le b) (h' : b.le c) : a.le c := fun x r e => h' x r (h x r e)
theorem Hp.le_set {h : Hp} {a : Addr} (r : Row) (e : h.get a = none) : h.le (h.set a r) := fun b r' e' => by rw [Hp.set_other _ _ (Hp.ne_of e' e)]; exact e'
theorem Hp.le_none {h h' : Hp} (l : h.le h') {a : Addr} (e : h'.get a = none) : h.get a = none := by
  cases e' : h.get a with
  | none => rfl
  | some r => rw [l a r e'] at e; cases e
theorem Dj.symm {N H : Hp} (h : Dj N H) : Dj H N := fun a => (h a).symm
theorem Dj.le {N N' H : Hp} (h : Dj N H) (l : N'.le N) : Dj N' H := fun a => (h a).imp (Hp.le_none l) id
theorem Dj.le_right {N H H' : Hp} (h : Dj N H) (l : H'.le H) : Dj N H' := fun a => (h a).imp id (Hp.le_none l)
theorem Dj.ne {N H : Hp} (h : Dj N H) {a b : Addr} {r r' : Row} (h1 : N.get a = some r) (h2 : H.get b = some r') : a ≠ b := fun e => by
  subst e; rcases h a with h | h
  · rw [h] at h1; cases h1
  · rw [h] at h2; cases h2

theorem Sl.le {H H' : Hp} {a : Addr} {e o : Nat} {es : List (List AV)} (h : Sl H a e o es) (l : H.le H') : Sl H' a e o es := by
  obtain ⟨r, h1, h2⟩ := h; exact ⟨r, l _ _ h1, h2⟩
theorem SlR.le {H H' : Hp} {a : Addr} {o : Nat} {x : List R} (h : SlR H a o x) (l : H.le H') : SlR H' a o x := Sl.le h l
theorem SlRR.le {H H' : Hp} {a : Addr} {o : Nat} {rs : List (List R)} (h : SlRR H a o rs) (l : H.le H') : SlRR H' a o rs := by
  obtain ⟨q, h1, h2, h3⟩ := h
  exact ⟨q, h1.le l, h2, fun i hi hi' => ⟨(h3 i hi hi').1, (h3 i hi hi').2.le l⟩⟩

/-- N holds a slice of slices of rows, each row of memory once -/
def OwnRR (N : Hp) (a : Addr) (o : Nat) (rs : List (List R)) : Prop := ∃ (es : List (List AV)) (q : List (Addr × Nat × Nat)), N.get a = some ⟨1, false, es⟩ ∧ (es.drop o).take rs.length = q.map srow ∧ (q.length = rs.length ∧ o + rs.length ≤ es.length) ∧
  (∀ i (h : i < q.length) (h' : i < rs.length), q[i].2.2 = rs[i].length ∧ ∃ ws, N.get q[i].1 = some ⟨10, false, ws⟩ ∧ (ws.drop q[i].2.1).take rs[i].length = rs[i].map R.av ∧ q[i].2.1 + rs[i].length ≤ ws.length) ∧
  (∀ i j (h : i < q.length) (h' : j < q.length), q[i].1 = q[j].1 → i = j) ∧ ∀ i (h : i < q.length), q[i].1 ≠ a

theorem OwnRR.sl {N H : Hp} {a : Addr} {o : Nat} {rs : List (List R)} (h : OwnRR N a o rs) (l : N.le H) : SlRR H a o rs := by
  obtain ⟨es, q, h1, h2, ⟨h3, h3'⟩, h4, _⟩ := h
  refine ⟨q, ⟨_, l _ _ h1, rfl, by rw [List.length_map, h3, h2], by rw [List.length_map, h3]; exact h3'⟩, h3, fun i hi hi' => ?_⟩
  obtain ⟨e, ws, h5, h6, h7⟩ := h4 i hi hi'
  exact ⟨e, _, l _ _ h5, rfl, by rw [List.length_map]; exact h6, by rw [List.length_map]; exact h7⟩

/-- one more -/
theorem OwnRR.append {N H0 H2 : Hp} {a b a' : Addr} {o : Nat} {xs : List (List R)} {x : List R} {ra : Row} (hO : OwnRR N a o xs) (hN : N.le H2) (hd : Dj N H0) (h0 : H0.le H2) (hb : H2.get b = some ⟨10, false, x.map R.av⟩) (hbN : N.get b = none) (hb0 : H0.get b = none)
    (hra : H2.get a = some ra) (ha' : (H2.del a).get a' = none) : ∃ N', OwnRR N' a' 0 (xs ++ [x]) ∧ N'.le ((H2.del a).set a' ⟨1, false, (ra.es.drop o).take xs.length ++ [srow (b, 0, x.length)]⟩) ∧ Dj N' H0 ∧ H0.le ((H2.del a).set a' ⟨1, false, (ra.es.drop o).take xs.length ++ [srow (b, 0, x.length)]⟩) := by
  obtain ⟨es, q, h1, h2, ⟨h3, h3'⟩, h4, h5, h6⟩ := hO
  have e1 := hN _ _ h1
  rw [hra] at e1; injection e1 with e1; subst e1
  have hab : a ≠ b := fun e => by subst e; rw [hbN] at h1; cases h1
  have hdel : ∀ c, c ≠ a → (H2.del a).get c = H2.get c := fun c hc => by simp [Hp.del, hc]
  have ha'b : a' ≠ b := fun e => by subst e; rw [hdel _ (Ne.symm hab), hb] at ha'; cases ha'
  have ha'q : ∀ i (h : i < q.length), q[i].1 ≠ a' := fun i h e => by
    obtain ⟨_, ws, h7, _⟩ := h4 i h (by omega)
    rw [← e, hdel _ (h6 i h), hN _ _ h7] at ha'; cases ha'
  have ha0 : H0.get a = none := by rcases hd a with h | h; rw [h] at h1; cases h1; exact h
  have ha'0 : H0.get a' = none := by
    by_cases e : a' = a
    · subst e; exact ha0
    · rw [hdel _ e] at ha'; exact Hp.le_none h0 ha'
  have hbq : ∀ i (h : i < q.length), q[i].1 ≠ b := fun i h e => by
    obtain ⟨_, ws, h7, _⟩ := h4 i h (by omega)
    rw [e, hbN] at h7; cases h7
  refine ⟨((N.del a).set b ⟨10, false, x.map R.av⟩).set a' ⟨1, false, (es.drop o).take xs.length ++ [srow (b, 0, x.length)]⟩, ⟨_, q ++ [(b, 0, x.length)], Hp.set_get _ _ _, ?_, ?_, ?_, ?_, ?_⟩, ?_, ?_, ?_⟩
  · rw [h2, List.map_append, List.drop_zero, List.take_of_length_le (by simp [h3])]; rfl
  · refine ⟨by simp [h3], ?_⟩
    rw [h2]; simp [h3]
  · intro i hi hi'
    by_cases e : i < q.length
    · rw [List.getElem_append_left e, List.getElem_append_left (by omega)]
      obtain ⟨p1, ws, p2, p3⟩ := h4 i e (by omega)
      refine ⟨p1, ws, ?_, p3⟩
      rw [Hp.set_other _ _ (ha'q i e), Hp.set_other _ _ (hbq i e)]
      simp [Hp.del, h6 i e, p2]
    · have e1 : i = q.length := by simp at hi; omega
      subst e1
      rw [List.getElem_append_right (by omega), List.getElem_append_right (by omega)]
      simp only [Nat.sub_self, h3]
      refine ⟨by simp, x.map R.av, ?_, by simp only [List.getElem_singleton, List.drop_zero]; rw [List.take_of_length_le (by simp)], by simp⟩
      simp only [List.getElem_singleton]
      rw [Hp.set_other _ _ (Ne.symm ha'b), Hp.set_get]
  · intro i j hi hj e
    simp only [List.length_append, List.length_cons, List.length_nil] at hi hj
    by_cases e1 : i < q.length <;> by_cases e2 : j < q.length
    · rw [List.getElem_append_left e1, List.getElem_append_left e2] at e; exact h5 i j e1 e2 e
    · rw [List.getElem_append_left e1, List.getElem_append_right (by omega)] at e
      simp at e; exact absurd e (hbq i e1)
    · rw [List.getElem_append_right (by omega), List.getElem_append_left e2] at e
      simp at e; exact absurd e.symm (hbq j e2)
    · omega
  · intro i hi
    simp only [List.length_append, List.length_cons, List.length_nil] at hi
    by_cases e1 : i < q.length
    · rw [List.getElem_append_left e1]; exact ha'q i e1
    · rw [List.getElem_append_right (by omega)]; simpa using Ne.symm ha'b
  · intro c r hc
    simp only [Hp.set, Hp.del] at hc ⊢
    split at hc
    · rename_i e; rw [if_pos e]; exact hc
    · rename_i e
      rw [if_neg e]
      split at hc
      · rename_i e2; subst e2; rw [if_neg (Ne.symm hab), hb]; exact hc
      · split at hc
        · cases hc
        · rename_i e3; rw [if_neg e3]; exact hN _ _ hc
  · intro c
    simp only [Hp.set, Hp.del]
    split
    · rename_i e; subst e; exact .inr ha'0
    · split
      · rename_i e2; subst e2; exact .inr hb0
      · split
        · exact .inl rfl
        · exact hd c
  · intro c r hc
    have hca' : c ≠ a' := fun e => by subst e; rw [ha'0] at hc; cases hc
    have hca : c ≠ a := fun e => by subst e; rw [ha0] at hc; cases hc
    rw [Hp.set_other _ _ hca', hdel _ hca]; exact h0 _ _ hc

/-- the first one dropped -/
theorem OwnRR.tail {N : Hp} {a : Addr} {o : Nat} {x : List R} {xs : List (List R)} (hO : OwnRR N a o (x :: xs)) : OwnRR N a (o + 1) xs := by
  obtain ⟨es, q, h1, h2, ⟨h3, h3'⟩, h4, h5, h6⟩ := hO
  cases q with
  | nil => simp at h3
  | cons z q =>
    refine ⟨es, q, h1, ?_, ⟨by simpa using h3, by simp at h3'; omega⟩, fun i hi hi' => ?_, fun i j hi hj e => ?_, fun i hi => ?_⟩
    · have := congrArg List.tail h2
      rw [List.map_cons, List.tail_cons] at this
      rw [← this]
      rw [← List.drop_one, List.drop_take, List.drop_drop]
      simp
    · have := h4 (i + 1) (by simpa using hi) (by simpa using hi')
      simpa using this
    · have := h5 (i + 1) (j + 1) (by simpa using hi) (by simpa using hj) (by simpa using e)
      omega
    · have := h6 (i + 1) (by simpa using hi)
      simpa using this

theorem OwnRR.empty {H : Hp} {a : Addr} (ha : H.get a = none) : ∃ N, OwnRR N a 0 [] ∧ N.le (H.set a ⟨1, false, []⟩) ∧ Dj N H ∧ H.le (H.set a ⟨1, false, []⟩) := by
  refine ⟨⟨fun b => if b = a then some ⟨1, false, []⟩ else none⟩, ⟨[], [], by simp, by simp, ⟨rfl, by simp⟩, by simp, by simp, by simp⟩, fun b r hb => ?_, fun b => ?_, Hp.le_set _ ha⟩
  · simp only at hb
    split at hb
    · rename_i e; subst e; injection hb with hb; subst hb; exact Hp.set_get _ _ _
    · cases hb
  · simp only
    split
    · rename_i e; subst e; exact .inr ha
    · exact .inl rfl

end Go.Proofs.Ytdbedlomiedncaa.Vc
