/- A key's total: the program's and the reference's. -/
import Derived.Test.YtdbedlomiedncaaE0
namespace Go.Proofs.Ytdbedlomiedncaa.Vc
open Go

set_option maxRecDepth 100000 in
theorem implTotalIn_ok (H : Hp) (a : Addr) (o : Nat) (rs : List (List R)) (k : List UInt8) (hx : SlRR H a o rs) (hl : KSS rs) (hsb : ∀ y ∈ rs, SB y) :
    AC Try.prog 36 [.slice a 1 o rs.length, .str k] H fun v h => v = .agg (tot rs k).av ∧ h = H := by
  refine AC_of_vc (T := tab) (D := D36) (esc := []) tab_ok mixed Try.func36 rfl rfl rfl ?_
  conv => whnf
  have hl1 := hl.1
  refine LoopVC.intro (fun i : Nat => (⟨Try.f36.ntmps, [(13, .int .i64 i), (12, .int .i64 rs.length), (11, .slice a 1 o rs.length), (1, .str k), (4, .lptr 4 0), (5, .lptr 5 0)], [(4, R.zero.av), (5, (tot (rs.take i) k).av)], H⟩ : St)) (fun i => i ≤ rs.length) (fun i => rs.length - i) (fun i hi K hK => ?_) 0 (by omega) ⟨rfl, by repeat' (first | exact trivial | exact .inl rfl | apply And.intro), by repeat' (first | exact trivial | exact ⟨_, rfl, cle.refl _⟩ | apply And.intro), HSub.refl _⟩
  conv => whnf
  refine Br.dec (fun h => ?_) (fun h => ?_) <;> conv => whnf
  · have h : i < rs.length := by omega
    refine Idx.nat h ?_
    conv => whnf
    refine hx.ld h fun b p hb => ?_
    conv => whnf
    have hlen := (hl.at h).2
    have hacc := tot_sb (k := k) (rs := rs.take i) fun l hl => hsb l (List.mem_of_mem_take hl)
    have hsbi := hsb _ (List.getElem_mem h)
    refine LoopVC.intro (fun j : Nat => (⟨Try.f36.ntmps, [(19, .int .i64 j), (18, .int .i64 rs[i].length), (17, .slice b 10 p rs[i].length), (13, .int .i64 i), (12, .int .i64 rs.length), (11, .slice a 1 o rs.length), (1, .str k), (4, .lptr 4 0), (5, .lptr 5 0)], [(4, R.zero.av), (5, (totL k (tot (rs.take i) k) (rs[i].take j)).av)], H⟩ : St)) (fun j => j ≤ rs[i].length) (fun j => rs[i].length - j) (fun j hj K2 hK2 => ?_) 0 (by omega) ⟨rfl, by repeat' (first | exact trivial | exact .inl rfl | apply And.intro), by repeat' (first | exact trivial | exact ⟨_, rfl, cle.refl _⟩ | apply And.intro), HSub.refl _⟩
    conv => whnf
    refine Br.dec (fun h2 => ?_) (fun h2 => ?_) <;> conv => whnf
    · have h2 : j < rs[i].length := by omega
      refine Idx.nat h2 ?_
      conv => whnf
      refine hb.ld h2 ?_
      conv => whnf
      have ht := totL_take (k := k) (acc := tot (rs.take i) k) h2
      have hs := fun s' => hK2 (j + 1) s' h2 (by omega)
      refine Br.both (fun hq => ?_) (fun hq => ?_) <;> conv => whnf
      · rw [if_pos hq] at ht
        simp only [ht] at hs
        refine AC.use1 (implMerge_ok _ _ _ (totL_sb hacc fun r hr => hsbi r (List.mem_of_mem_take hr)) (hsbi _ (List.getElem_mem h2))) ?_
        conv => whnf
        simp (disch := omega) only [wrap_id]
        exact hs _ ⟨rfl, by repeat' (first | exact trivial | exact .inl rfl | apply And.intro), by repeat' (first | exact trivial | exact ⟨_, rfl, cle.refl _⟩ | apply And.intro), HSub.refl _⟩
      · rw [if_neg (by simp [hq])] at ht
        simp only [ht] at hs
        simp (disch := omega) only [wrap_id]
        exact hs _ ⟨rfl, by repeat' (first | exact trivial | exact .inl rfl | apply And.intro), by repeat' (first | exact trivial | exact ⟨_, rfl, cle.refl _⟩ | apply And.intro), HSub.refl _⟩
    · have e : j = rs[i].length := by omega
      subst e
      rw [List.take_length, ← tot_take h]
      simp (disch := omega) only [wrap_id]
      exact hK (i + 1) _ h (by omega) ⟨rfl, by repeat' (first | exact trivial | exact .inl rfl | apply And.intro), by repeat' (first | exact trivial | exact ⟨_, rfl, cle.refl _⟩ | apply And.intro), HSub.refl _⟩
  · have e : i = rs.length := by omega
    subst e
    rw [List.take_length]
    exact ⟨rfl, rfl⟩

set_option maxRecDepth 100000 in
theorem specTotalIn_ok (H : Hp) (a : Addr) (o : Nat) (rs : List (List R)) (k : List UInt8) (hx : SlRR H a o rs) (hl : KSS rs) (hsb : ∀ y ∈ rs, SB y) :
    AC Try.prog 37 [.slice a 1 o rs.length, .str k] H fun v h => v = .agg (tot rs k).av ∧ h = H := by
  refine AC_of_vc (T := tab) (D := D37) (esc := []) tab_ok mixed Try.func37 rfl rfl rfl ?_
  conv => whnf
  have hl1 := hl.1
  refine LoopVC.intro (fun i : Nat => (⟨Try.f37.ntmps, [(6, .int .i64 i), (0, .slice a 1 o rs.length), (1, .str k), (4, .lptr 4 0), (5, .lptr 5 0)], [(4, R.zero.av), (5, (tot (rs.take i) k).av)], H⟩ : St)) (fun i => i ≤ rs.length) (fun i => rs.length - i) (fun i hi K hK => ?_) 0 (by omega) ⟨rfl, by repeat' (first | exact trivial | exact .inl rfl | apply And.intro), by repeat' (first | exact trivial | exact ⟨_, rfl, cle.refl _⟩ | apply And.intro), HSub.refl _⟩
  conv => whnf
  refine Br.dec (fun h => ?_) (fun h => ?_) <;> conv => whnf
  · have h : i < rs.length := by omega
    have hlen := (hl.at h).2
    have hacc := tot_sb (k := k) (rs := rs.take i) fun l hl => hsb l (List.mem_of_mem_take hl)
    have hsbi := hsb _ (List.getElem_mem h)
    refine LoopVC.intro (fun j : Nat => (⟨Try.f37.ntmps, [(7, .int .i64 j), (6, .int .i64 i), (0, .slice a 1 o rs.length), (1, .str k), (4, .lptr 4 0), (5, .lptr 5 0)], [(4, R.zero.av), (5, (totL k (tot (rs.take i) k) (rs[i].take j)).av)], H⟩ : St)) (fun j => j ≤ rs[i].length) (fun j => rs[i].length - j) (fun j hj K2 hK2 => ?_) 0 (by omega) ⟨rfl, by repeat' (first | exact trivial | exact .inl rfl | apply And.intro), by repeat' (first | exact trivial | exact ⟨_, rfl, cle.refl _⟩ | apply And.intro), HSub.refl _⟩
    conv => whnf
    refine Idx.nat h ?_
    conv => whnf
    refine hx.ld h fun b p hb => ?_
    conv => whnf
    refine Br.dec (fun h2 => ?_) (fun h2 => ?_) <;> conv => whnf
    · have h2 : j < rs[i].length := by omega
      have ht := totL_take (k := k) (acc := tot (rs.take i) k) h2
      have hs := fun s' => hK2 (j + 1) s' h2 (by omega)
      refine Idx.nat h ?_
      conv => whnf
      refine hx.ld h fun b p hb => ?_
      conv => whnf
      refine Idx.nat h2 ?_
      conv => whnf
      refine hb.ld h2 ?_
      conv => whnf
      refine Br.both (fun hq => ?_) (fun hq => ?_) <;> conv => whnf
      · rw [if_pos hq] at ht
        simp only [ht] at hs
        repeat' (first
          | (refine Br.no rfl ?_; conv => whnf)
          | (refine Br.yes rfl ?_; conv => whnf)
          | (refine Idx.nat h ?_; conv => whnf)
          | (refine Drawn.intro (by kernel_rfl) ?_; conv => whnf)
          | (refine Br.dec (fun _ => ?_) (fun _ => ?_) <;> conv => whnf)
          | (refine Br.neg (fun _ => ?_) (fun _ => ?_) <;> conv => whnf)
          | (refine Br.both (fun _ => ?_) (fun _ => ?_) <;> conv => whnf))
        refine hx.ld h fun b p hb => ?_
        conv => whnf
        repeat' (first
          | (refine Br.no rfl ?_; conv => whnf)
          | (refine Br.yes rfl ?_; conv => whnf)
          | (refine Idx.nat h2 ?_; conv => whnf)
          | (refine hb.ld h2 ?_; conv => whnf)
          | (refine Drawn.intro (by kernel_rfl) ?_; conv => whnf)
          | (refine Br.dec (fun _ => ?_) (fun _ => ?_) <;> conv => whnf)
          | (refine Br.neg (fun _ => ?_) (fun _ => ?_) <;> conv => whnf)
          | (refine Br.both (fun _ => ?_) (fun _ => ?_) <;> conv => whnf))
        refine AC.use1 (specMerge_ok _ _ _ (totL_sb hacc fun r hr => hsbi r (List.mem_of_mem_take hr)) (hsbi _ (List.getElem_mem h2))) ?_
        conv => whnf
        simp (disch := omega) only [wrap_id]
        exact hs _ ⟨rfl, by repeat' (first | exact trivial | exact .inl rfl | apply And.intro), by repeat' (first | exact trivial | exact ⟨_, rfl, cle.refl _⟩ | apply And.intro), HSub.refl _⟩
      · rw [if_neg (by simp [hq])] at ht
        simp only [ht] at hs
        simp (disch := omega) only [wrap_id]
        exact hs _ ⟨rfl, by repeat' (first | exact trivial | exact .inl rfl | apply And.intro), by repeat' (first | exact trivial | exact ⟨_, rfl, cle.refl _⟩ | apply And.intro), HSub.refl _⟩
    · have e : j = rs[i].length := by omega
      subst e
      rw [List.take_length, ← tot_take h]
      simp (disch := omega) only [wrap_id]
      exact hK (i + 1) _ h (by omega) ⟨rfl, by repeat' (first | exact trivial | exact .inl rfl | apply And.intro), by repeat' (first | exact trivial | exact ⟨_, rfl, cle.refl _⟩ | apply And.intro), HSub.refl _⟩
  · have e : i = rs.length := by omega
    subst e
    rw [List.take_length]
    exact ⟨rfl, rfl⟩

end Go.Proofs.Ytdbedlomiedncaa.Vc
