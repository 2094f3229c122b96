/- The law FnRolling answers true, for every code. -/
import Derived.Test.YtdbedlomiedncaaE3
import Derived.Test.YtdbedlomiedncaaLLast
namespace Go.Proofs.Ytdbedlomiedncaa.Vc
open Go

/-- a counter in a report, or not in it -/
def cnt (k : List UInt8) (l : List R) : Bool := !(findRow l k).2 || (findRow l k).1.kind == 1

theorem sum_drop (l : List Int) (n : Nat) : l.sum - (l.take n).sum = (l.drop n).sum := by
  conv => lhs; lhs; rw [← List.take_append_drop n l, List.sum_append]
  omega

theorem movAt_last {l : List Int} {n : Nat} (hl : 1 ≤ l.length) : movAt l n (l.length - 1) = (l.drop (l.length - n)).sum := by
  unfold movAt
  rw [show l.length - 1 + 1 = l.length from by omega, List.take_length, sum_drop]

theorem Sl.frz {H : Hp} {a x : Addr} {e o : Nat} {es : List (List AV)} {r : Row} (h : Sl H a e o es) (g : H.get x = some r) : Sl (H.set x (Vc.frz r)) a e o es := by
  obtain ⟨y, h1, h2, h3⟩ := h
  by_cases ex : a = x
  · subst ex
    rw [g] at h1; injection h1 with h1; subst h1
    exact ⟨_, Hp.set_get _ _ _, h2, h3⟩
  · exact ⟨y, (Hp.set_other _ _ ex).trans h1, h2, h3⟩

set_option maxHeartbeats 4000000 in
set_option maxRecDepth 100000 in
theorem rolling_ok (H : Hp) (ca : Addr) (co : Nat) (bs : List UInt8) (hs : Sl H ca 1 co (bs.map byteCell)) :
    AC Try.prog 8 [.slice ca 1 co bs.length] H fun v _ => v = .bool true := by
  refine AC_of_vc (T := tab) (D := D8) (esc := []) tab_ok mixed Try.func8 rfl rfl rfl ?_
  conv => whnf
  refine AC.use1 (big_ok H ca co bs.length) ?_
  conv => whnf
  refine Br.dec (fun hbig => ?_) (fun hbig => ?_) <;> conv => whnf
  have hl : bs.length ≤ 1048576 := by omega
  refine AC.mono (drawLast_ok H ca co bs hs hl) ?_
  rintro v h1 ⟨c, f, d, o, xs, n, rfl, hxs, hsx, l1⟩
  conv => whnf
  have hkss := hxs.kss
  have hxl := hxs.len
  have hlast : ∀ z : List R, z = [] → AC Try.prog 48 [stAV c f d o xs.length, .int .i64 n] h1 (MadeR h1 (lastOf c f xs n)) := fun _ _ => implLast_ok h1 c f d o xs n hsx hkss
  refine AC.use1 (specStoreOk_ok h1 c f d o xs hsx hkss) ?_
  conv => whnf
  have bad : ¬ (storeOk c f xs = true ∧ 1 ≤ n ∧ n ≤ xs.length) → lastOf c f xs n = [] := fun h => by
    unfold lastOf
    split
    · rename_i h'
      have : n = 0 := by
        by_cases e : n = 0
        · exact e
        · exact absurd ⟨h'.1, by omega, h'.2.2⟩ h
      subst this
      simp [overall]
    · rfl
  repeat' (first
    | (refine Br.no rfl ?_; conv => whnf)
    | (refine Br.yes rfl ?_; conv => whnf)
    | (refine Two.intro ?_ ?_ <;> conv => whnf)
    | (refine Drawn.intro (by kernel_rfl) ?_; conv => whnf)
    | (refine Br.dec (fun _ => ?_) (fun _ => ?_) <;> conv => whnf)
    | (refine Br.neg (fun _ => ?_) (fun _ => ?_) <;> conv => whnf)
    | (refine Br.both (fun _ => ?_) (fun _ => ?_) <;> conv => whnf))
  iterate 3
    · refine AC.mono (implLast_ok h1 c f d o xs n hsx hkss) ?_
      rw [bad (by first | omega | simp_all)]
      rintro v h2 ⟨c2, hc2, rfl, hh2⟩
      conv => whnf
      rfl
  have g1 : storeOk c f xs = true := by assumption
  obtain ⟨m, hm, hm1, hm2⟩ : ∃ m : Nat, n = m ∧ 1 ≤ m ∧ m ≤ xs.length := ⟨n.toNat, by omega, by omega, by omega⟩
  subst hm
  have hlo : lastOf c f xs m = overall (xs.drop (xs.length - m)) := by unfold lastOf; rw [if_pos ⟨g1, by omega, by omega⟩]; rfl
  have hrep : ∀ l ∈ xs, repOk l = true := by
    have := g1
    simp [storeOk] at this
    exact this.2
  have hsl := specLast_ok
  refine AC.mono (implLast_ok h1 c f d o xs m hsx hkss) ?_
  have hLlen := lastOf_length (c := c) (f := f) (xs := xs) (n := m)
  rw [hlo] at hLlen ⊢
  have hcnt := fun i hi => overall_counter (rs := xs.drop (xs.length - m)) (fun l hl => hrep l (List.mem_of_mem_drop hl)) (i := i) hi
  generalize hL : overall (xs.drop (xs.length - m)) = L at hLlen hcnt ⊢
  rintro v h2 ⟨c2, hc2, rfl, hh2⟩
  conv => whnf
  have l2 : h1.le h2 := by rw [hh2]; exact Hp.le_set _ hc2
  have s2 : SlR h2 c2 0 L := by rw [hh2]; exact SlR.new
  have hx2 := hsx.le l2
  refine LoopVC.intro (fun i : Nat => (⟨Try.f8.ntmps, [(6, .int .i64 i), (5, .slice c2 10 0 L.length), (4, .int .i64 m), (3, .lptr 3 0)], [(3, [.int .i64 c, .int .i64 f, .slice d 1 o xs.length])], h2⟩ : St)) (fun i => i ≤ L.length) (fun i => L.length - i) (fun i hi K hK => ?_) 0 (by omega) ⟨rfl, by repeat' (first | exact trivial | exact .inl rfl | apply And.intro), by repeat' (first | exact trivial | exact ⟨_, rfl, cle.refl _⟩ | apply And.intro), HSub.refl _⟩
  conv => whnf
  refine Br.dec (fun h => ?_) (fun h => ?_) <;> conv => whnf
  · have h : i < L.length := by omega
    refine Idx.nat h ?_
    conv => whnf
    refine s2.ld h ?_
    conv => whnf
    repeat' (first
      | (refine Br.no rfl ?_; conv => whnf)
      | (refine Br.yes rfl ?_; conv => whnf)
      | (refine Two.intro ?_ ?_ <;> conv => whnf)
      | (refine Drawn.intro (by kernel_rfl) ?_; conv => whnf)
      | (refine Br.dec (fun _ => ?_) (fun _ => ?_) <;> conv => whnf)
      | (refine Br.neg (fun _ => ?_) (fun _ => ?_) <;> conv => whnf)
      | (refine Br.both (fun _ => ?_) (fun _ => ?_) <;> conv => whnf))
    · simp (disch := omega) only [wrap_id]
      exact hK (i + 1) _ h (by omega) ⟨rfl, by repeat' (first | exact trivial | exact .inl rfl | apply And.intro), by repeat' (first | exact trivial | exact ⟨_, rfl, cle.refl _⟩ | apply And.intro), HSub.refl _⟩
    · refine LoopVC.intro (fun j : Nat => (⟨Try.f8.ntmps, [(8, .int .i64 j), (7, .bool ((xs.take j).all (cnt L[i].key))), (6, .int .i64 i), (5, .slice c2 10 0 L.length), (4, .int .i64 m), (3, .lptr 3 0)], [(3, [.int .i64 c, .int .i64 f, .slice d 1 o xs.length])], h2⟩ : St)) (fun j => j ≤ xs.length) (fun j => xs.length - j) (fun j hj K2 hK2 => ?_) 0 (by omega) ⟨rfl, by repeat' (first | exact trivial | exact .inl rfl | apply And.intro), by repeat' (first | exact trivial | exact ⟨_, rfl, cle.refl _⟩ | apply And.intro), HSub.refl _⟩
      conv => whnf
      refine Br.dec (fun h3 => ?_) (fun h3 => ?_) <;> conv => whnf
      · have h3 : j < xs.length := by omega
        repeat' (first
          | (refine Br.no rfl ?_; conv => whnf)
          | (refine Br.yes rfl ?_; conv => whnf)
          | (refine Idx.nat h ?_; conv => whnf)
          | (refine s2.ld h ?_; conv => whnf)
          | (refine Idx.nat h3 ?_; conv => whnf)
          | (refine Two.intro ?_ ?_ <;> conv => whnf)
          | (refine Drawn.intro (by kernel_rfl) ?_; conv => whnf)
          | (refine Br.dec (fun _ => ?_) (fun _ => ?_) <;> conv => whnf)
          | (refine Br.neg (fun _ => ?_) (fun _ => ?_) <;> conv => whnf)
          | (refine Br.both (fun _ => ?_) (fun _ => ?_) <;> conv => whnf))
        refine hx2.ld h3 fun b p hb => ?_
        conv => whnf
        refine Idx.nat h ?_
        conv => whnf
        refine s2.ld h ?_
        conv => whnf
        obtain ⟨qq, ⟨rd, gd, rde, _⟩, _⟩ := id hx2
        have gc : h2.get c2 = some ⟨10, false, L.map R.av⟩ := by rw [hh2, Hp.set_get]
        have hdc : d ≠ c2 := fun e => by rw [e, gc] at gd; injection gd with gd; subst gd; cases rde
        have gF : (h2.set d (frz rd)).get c2 = some ⟨10, false, L.map R.av⟩ := (Hp.set_other _ _ (Ne.symm hdc)).trans gc
        have hbF : SlR ((h2.set d (frz rd)).set c2 (frz ⟨10, false, L.map R.av⟩)) b p xs[j] := Sl.frz (Sl.frz hb gd) gF
        have back : ((((h2.set d (frz rd)).set c2 (frz ⟨10, false, L.map R.av⟩)).set d rd).set c2 ⟨10, false, L.map R.av⟩) = h2 := by
          rw [Hp.set_comm _ _ _ (Ne.symm hdc), Hp.set_set, Hp.set_set, Hp.set_self h2 gd, Hp.set_self h2 gc]
        have hall : (xs.take (j + 1)).all (cnt L[i].key) = ((xs.take j).all (cnt L[i].key) && cnt L[i].key xs[j]) := by
          rw [List.take_succ_eq_append_getElem h3, List.all_append]; simp
        have fin2 : ∀ (bb : Bool) (s' : St), bb = ((xs.take j).all (cnt L[i].key) && cnt L[i].key xs[j]) → Wk s' (⟨Try.f8.ntmps, [(8, .int .i64 ((j + 1 : Nat) : Int)), (7, .bool bb), (6, .int .i64 i), (5, .slice c2 10 0 L.length), (4, .int .i64 m), (3, .lptr 3 0)], [(3, [.int .i64 c, .int .i64 f, .slice d 1 o xs.length])], h2⟩ : St) → K2 s' := fun bb s' hb' hw => by
          refine hK2 (j + 1) s' h3 (by omega) ?_
          rw [hall, ← hb']; exact hw
        have t1 : ((h2.set d (frz rd)).set c2 (frz ⟨10, false, L.map R.av⟩)).get d = some (frz rd) := (Hp.set_other _ _ hdc).trans (Hp.set_get _ _ _)
        have t2 : (((h2.set d (frz rd)).set c2 (frz ⟨10, false, L.map R.av⟩)).set d rd).get c2 = some (frz ⟨10, false, L.map R.av⟩) := (Hp.set_other _ _ (Ne.symm hdc)).trans (Hp.set_get _ _ _)
        refine Two.intro ?_ ?_ <;> conv => whnf
        · refine Has.intro gd ?_
          conv => whnf
          refine Has.intro gc ?_
          conv => whnf
          refine AC.use1 (specFindRow_ok _ b p xs[j] L[i].key hbF (hkss.at h3).2) ?_
          conv => whnf
          refine Has.intro t1 ?_
          conv => whnf
          refine Has.intro t2 ?_
          conv => whnf
          rw [back]
          refine Has.intro gd ?_
          conv => whnf
          refine Has.intro gc ?_
          conv => whnf
          refine Has.intro t1 ?_
          conv => whnf
          refine Has.intro t2 ?_
          conv => whnf
          rw [back]
          repeat' (first
            | (refine Br.no rfl ?_; conv => whnf)
            | (refine Br.yes rfl ?_; conv => whnf)
            | (refine Two.intro ?_ ?_ <;> conv => whnf)
            | (refine Drawn.intro (by kernel_rfl) ?_; conv => whnf)
            | (refine Br.dec (fun _ => ?_) (fun _ => ?_) <;> conv => whnf)
            | (refine Br.neg (fun _ => ?_) (fun _ => ?_) <;> conv => whnf)
            | (refine Br.both (fun _ => ?_) (fun _ => ?_) <;> conv => whnf))
          all_goals
            simp (disch := omega) only [wrap_id]
            refine fin2 _ _ ?_ ⟨rfl, by repeat' (first | exact trivial | exact .inl rfl | apply And.intro), by repeat' (first | exact trivial | exact ⟨_, rfl, cle.refl _⟩ | apply And.intro), HSub.refl _⟩
            first
              | (rw [‹(List.take j xs).all (cnt L[i].key) = false›]; rfl)
              | (rw [‹(List.take j xs).all (cnt L[i].key) = true›]
                 simp only [cnt, Bool.true_and]
                 first
                   | (rw [‹(findRow xs[j] L[i].key).2 = false›]; rfl)
                   | (rw [‹(findRow xs[j] L[i].key).2 = true›]; rfl))
        · refine Has.intro gd ?_
          conv => whnf
          refine Has.intro gc ?_
          conv => whnf
          refine Has.intro t1 ?_
          conv => whnf
          refine Has.intro t2 ?_
          conv => whnf
          rw [back]
          refine AC.use1 (specFindRow_ok h2 b p xs[j] L[i].key hb (hkss.at h3).2) ?_
          conv => whnf
          repeat' (first
            | (refine Br.no rfl ?_; conv => whnf)
            | (refine Br.yes rfl ?_; conv => whnf)
            | (refine Two.intro ?_ ?_ <;> conv => whnf)
            | (refine Drawn.intro (by kernel_rfl) ?_; conv => whnf)
            | (refine Br.dec (fun _ => ?_) (fun _ => ?_) <;> conv => whnf)
            | (refine Br.neg (fun _ => ?_) (fun _ => ?_) <;> conv => whnf)
            | (refine Br.both (fun _ => ?_) (fun _ => ?_) <;> conv => whnf))
          all_goals
            simp (disch := omega) only [wrap_id]
            refine fin2 _ _ ?_ ⟨rfl, by repeat' (first | exact trivial | exact .inl rfl | apply And.intro), by repeat' (first | exact trivial | exact ⟨_, rfl, cle.refl _⟩ | apply And.intro), HSub.refl _⟩
            first
              | (rw [‹(List.take j xs).all (cnt L[i].key) = false›]; rfl)
              | (rw [‹(List.take j xs).all (cnt L[i].key) = true›]
                 simp only [cnt, Bool.true_and]
                 first
                   | (rw [‹(findRow xs[j] L[i].key).2 = false›]; rfl)
                   | (rw [‹(findRow xs[j] L[i].key).2 = true›]; rfl))
      · have e : j = xs.length := by omega
        subst e
        rw [List.take_length]
        repeat' (first
          | (refine Br.no rfl ?_; conv => whnf)
          | (refine Br.yes rfl ?_; conv => whnf)
          | (refine Idx.nat h ?_; conv => whnf)
          | (refine s2.ld h ?_; conv => whnf)
          | (refine Two.intro ?_ ?_ <;> conv => whnf)
          | (refine Drawn.intro (by kernel_rfl) ?_; conv => whnf)
          | (refine Br.dec (fun _ => ?_) (fun _ => ?_) <;> conv => whnf)
          | (refine Br.neg (fun _ => ?_) (fun _ => ?_) <;> conv => whnf)
          | (refine Br.both (fun _ => ?_) (fun _ => ?_) <;> conv => whnf))
        refine AC.mono (implSeries_ok h2 d o xs L[i].key hx2 hkss) ?_
        rintro v h4 ⟨c4, hc4, rfl, hh4⟩
        conv => whnf
        have l4 : h2.le h4 := by rw [hh4]; exact Hp.le_set _ hc4
        have hslen : (series xs L[i].key).length = xs.length := List.length_map _
        have s4 : Sl h4 c4 1 0 ((series xs L[i].key).map iCell) := by rw [hh4]; exact Sl.made
        have hmv := implMoving_ok h4 c4 0 m (series xs L[i].key) s4 (by omega) (fun x hx => by
          obtain ⟨l, hl, rfl⟩ := List.mem_map.1 hx
          exact rank_find (hrep l hl) _) hm1 (by omega)
        rw [hslen] at hmv
        refine AC.mono hmv ?_
        rintro v h5 ⟨c5, hc5, rfl, hh5⟩
        conv => whnf
        have l5 : h4.le h5 := by rw [hh5]; exact Hp.le_set _ hc5
        have s5 : Sl h5 c5 1 0 ((moving (series xs L[i].key) m).map iCell) := by rw [hh5]; exact Sl.made
        have s25 := s2.le (Hp.le_trans l4 l5)
        have hmlen : (moving (series xs L[i].key) m).length = xs.length := by simp [moving, hslen]
        have hx1 : xs.length - 1 < (moving (series xs L[i].key) m).length := by omega
        have hld := fun K k => s5.ld (K := K) hx1 k
        have next : ∀ s' : St, Wk s' (⟨Try.f8.ntmps, [(6, .int .i64 ((i + 1 : Nat) : Int)), (5, .slice c2 10 0 L.length), (4, .int .i64 m), (3, .lptr 3 0)], [(3, [.int .i64 c, .int .i64 f, .slice d 1 o xs.length])], h2⟩ : St) → K s' := fun s' hw => hK (i + 1) s' h (by omega) hw
        repeat' (first
          | (refine Br.no rfl ?_; conv => whnf)
          | (refine Br.yes rfl ?_; conv => whnf)
          | (refine Two.intro ?_ ?_ <;> conv => whnf)
          | (refine Drawn.intro (by kernel_rfl) ?_; conv => whnf)
          | (refine Br.dec (fun _ => ?_) (fun _ => ?_) <;> conv => whnf)
          | (refine Br.neg (fun _ => ?_) (fun _ => ?_) <;> conv => whnf)
          | (refine Br.both (fun _ => ?_) (fun _ => ?_) <;> conv => whnf))
        · exfalso; simp_all
        · have hall : xs.all (cnt L[i].key) = true := by assumption
          refine Idx.at (xs.length - 1) (by simp (disch := omega) only [wrap_id] <;> omega) (by omega) ?_
          conv => whnf
          refine hld _ ?_
          conv => whnf
          have hval : (moving (series xs L[i].key) m)[xs.length - 1] = (series (xs.drop (xs.length - m)) L[i].key).sum := by
            simp only [moving, List.getElem_map, List.getElem_range]
            have := movAt_last (l := series xs L[i].key) (n := m) (by omega)
            rw [hslen] at this
            rw [this]
            simp [series, List.map_drop]
          have hc := hcnt i h fun l hl hf => by
            have := List.all_eq_true.1 hall l (List.mem_of_mem_drop hl)
            unfold cnt at this
            rw [hf] at this
            simpa using this
          have hnn : 0 ≤ (series (xs.drop (xs.length - m)) L[i].key).sum := by
            refine (sum_bnd fun x hx => ?_).1
            obtain ⟨l, hl, rfl⟩ := List.mem_map.1 hx
            exact rank_find (hrep l (List.mem_of_mem_drop hl)) _
          have hmod : (moving (series xs L[i].key) m)[xs.length - 1].tmod 281474976710656 = L[i].sum := by
            rw [hval, Int.tmod_eq_emod_of_nonneg hnn, hc]
          repeat' (first
            | (refine Br.no rfl ?_; conv => whnf)
            | (refine Br.yes rfl ?_; conv => whnf)
            | (refine Idx.nat h ?_; conv => whnf)
            | (refine s25.ld h ?_; conv => whnf)
            | (refine Must.intro (by decide) ?_; conv => whnf)
            | (refine Two.intro ?_ ?_ <;> conv => whnf)
            | (refine Drawn.intro (by kernel_rfl) ?_; conv => whnf)
            | (refine Br.dec (fun _ => ?_) (fun _ => ?_) <;> conv => whnf)
            | (refine Br.neg (fun _ => ?_) (fun _ => ?_) <;> conv => whnf)
            | (refine Br.both (fun _ => ?_) (fun _ => ?_) <;> conv => whnf))
          · exfalso
            have := ‹(_ == L[i].sum) = false›
            rw [hmod] at this
            simp at this
          · simp (disch := omega) only [wrap_id]
            exact next _ ⟨rfl, by repeat' (first | exact trivial | exact .inl rfl | apply And.intro), by repeat' (first | exact trivial | exact ⟨_, rfl, cle.refl _⟩ | apply And.intro), HSub.of_le (Hp.le_trans l4 l5)⟩
        · simp (disch := omega) only [wrap_id]
          exact next _ ⟨rfl, by repeat' (first | exact trivial | exact .inl rfl | apply And.intro), by repeat' (first | exact trivial | exact ⟨_, rfl, cle.refl _⟩ | apply And.intro), HSub.of_le (Hp.le_trans l4 l5)⟩
  · have e : i = L.length := by omega
    subst e
    refine AC.mono (specLast_ok h2 c f d o xs m hx2 hkss) ?_
    rw [hlo, hL]
    rintro v h3 ⟨c3, hc3, rfl, hh3⟩
    conv => whnf
    have l3 : h2.le h3 := by rw [hh3]; exact Hp.le_set _ hc3
    have s3 : SlR h3 c3 0 L := by rw [hh3]; exact SlR.new
    have sr := sameReport_ok h3 c2 c3 0 0 L L (s2.le l3) s3 (by omega)
    rw [decide_eq_true rfl] at sr
    refine AC.use1 sr ?_
    conv => whnf

end Go.Proofs.Ytdbedlomiedncaa.Vc
