/- The even blocks, one by one: a set has room for so many, plain. -/
import Derived.Test.YtnjidpmggggiiaaSetSep
namespace Go.Proofs
open Go.RowKit Sc

def evens (k : Nat) : List Ext := (List.range k).map fun j : Nat => ⟨2 * j, 1⟩
theorem evens_succ (k : Nat) : evens (k + 1) = evens k ++ [⟨2 * k, 1⟩] := by unfold evens; rw [List.range_succ]; simp
theorem evens_len (k : Nat) : (evens k).length = k := by simp [evens]
theorem evens_mem {k : Nat} {e : Ext} (h : e ∈ evens k) : ∃ j : Nat, j < k ∧ e = ⟨2 * j, 1⟩ := by
  unfold evens at h
  obtain ⟨j, hj, rfl⟩ := List.mem_map.1 h
  exact ⟨j, List.mem_range.1 hj, rfl⟩
theorem evens_good (k : Nat) (hk : k ≤ 100) : SetG (evens k) := by
  induction k with
  | zero => exact SetG.nil
  | succ k ih =>
    obtain ⟨h1, h2⟩ := ih (by omega)
    rw [evens_succ]
    refine ⟨canon_snoc.2 ⟨h1, by simp, fun y hy => ?_⟩, fun e he => ?_⟩
    · obtain ⟨j, hj, rfl⟩ := evens_mem hy
      simp only; omega
    · rcases List.mem_append.1 he with he | he
      · exact h2 e he
      · rw [List.mem_singleton] at he; subst he
        unfold Oke; simp only; omega
theorem evens_add (k : Nat) (hk : k ≤ 99) : normE (evens k ++ [⟨2 * k, 1⟩]) = evens (k + 1) := by
  have hg := evens_good (k + 1) (by omega)
  rw [← evens_succ]
  exact normE_ext hg.1.1 hg.1 fun _ => Iff.rfl
theorem evens_cov {k : Nat} {x : Int} : cov (evens k) x ↔ ∃ j : Nat, j < k ∧ x = 2 * j := by
  constructor
  · rintro ⟨e, he, h1, h2⟩
    obtain ⟨j, hj, rfl⟩ := evens_mem he
    exact ⟨j, hj, by simp only at h1 h2; omega⟩
  · rintro ⟨j, hj, rfl⟩
    exact ⟨⟨2 * j, 1⟩, List.mem_map.2 ⟨j, List.mem_range.2 hj, rfl⟩, by simp only; omega, by simp only; omega⟩
theorem evens_join (k : Nat) (hk : 1 ≤ k) : normE (evens k ++ [⟨0, 2 * k⟩]) = [⟨0, 2 * k⟩] := by
  refine normE_ext (fun e he => ?_) (Canon.mk1 (by simp only; omega)) fun x => ?_
  · rcases List.mem_append.1 he with he | he
    · obtain ⟨j, _, rfl⟩ := evens_mem he; simp
    · rw [List.mem_singleton] at he; subst he; simp only; omega
  · rw [cov_append, evens_cov, cov_cons]
    have := cov_nil x
    constructor
    · rintro (h | h)
      · exact .inr (.inl h)
      · exact absurd h this
    · rintro (⟨j, hj, rfl⟩ | h | h)
      · exact .inl ⟨by simp only; omega, by simp only; omega⟩
      · exact .inl h
      · exact absurd h this
theorem evens_cnt (k : Nat) : cntE (evens k) = k := by
  induction k with
  | zero => rfl
  | succ k ih => rw [evens_succ]; unfold cntE at *; rw [List.map_append, List.sum_append, ih]; simp
theorem may_one {a n : Int} (h : 0 ≤ a ∧ a ≤ 1000000 ∧ 1 ≤ n ∧ n ≤ 1000) : allB [⟨a, n⟩] = true := by
  unfold allB
  rw [List.all_eq_true]
  intro e he
  rw [List.mem_singleton] at he
  subst he
  exact mayB_iff.2 (by simp only; omega)
theorem room_step (M i : Nat) (hM : M ≤ 90) (hi : i ≤ 90) : addCode M (evens (min i M)) [⟨2 * i, 1⟩] = (if i < M then 0 else 7) ∧ addNext M (evens (min i M)) [⟨2 * i, 1⟩] = evens (min (i + 1) M) := by
  by_cases h : i < M
  · obtain ⟨h1, h2⟩ := addCode_is (most := M) (evens_good i (by omega)) (may_one (a := 2 * i) (n := 1) (by omega)) (by simp) (evens_add i (by omega))
    rw [evens_len, if_neg (by omega)] at h1 h2
    rw [Nat.min_eq_left (by omega), Nat.min_eq_left (by omega), if_pos h]
    exact ⟨h1, h2⟩
  · have hg : SetG (evens M ++ [⟨2 * i, 1⟩]) := by
      obtain ⟨h1, h2⟩ := evens_good M (by omega)
      refine ⟨canon_snoc.2 ⟨h1, by simp, fun y hy => ?_⟩, fun e he => ?_⟩
      · obtain ⟨j, hj, rfl⟩ := evens_mem hy
        simp only; omega
      · rcases List.mem_append.1 he with he | he
        · exact h2 e he
        · rw [List.mem_singleton] at he; subst he
          unfold Oke; simp only; omega
    have hn : normE (evens M ++ [⟨2 * i, 1⟩]) = evens M ++ [⟨2 * i, 1⟩] := normE_ext hg.1.1 hg.1 fun _ => Iff.rfl
    obtain ⟨h1, h2⟩ := addCode_is (most := M) (evens_good M (by omega)) (may_one (a := 2 * i) (n := 1) (by omega)) (by simp) hn
    rw [List.length_append, evens_len, if_pos (by simp only [List.length_cons, List.length_nil]; omega)] at h1 h2
    rw [Nat.min_eq_right (by omega), Nat.min_eq_right (by omega), if_neg h]
    exact ⟨h1, h2⟩

/-- One that joins the first two needs no room. -/
theorem evens_three {k : Nat} (hk : k ≤ 64) : addCode 64 (evens k) [⟨0, 3⟩] = 0 := by
  have hm := may_one (a := 0) (n := 3) (by omega)
  have hg := evens_good k (by omega)
  by_cases h2 : k ≤ 63
  · obtain ⟨h1, _⟩ := addCode_is (most := 64) hg hm (by simp) rfl
    have hl := (normE_good' (addOke hg hm)).2.2
    rw [List.length_append, evens_len] at hl
    simp only [List.length_cons, List.length_nil] at hl
    rw [h1, if_neg (by omega)]
  · obtain rfl : k = 64 := by omega
    have hc : Canon ((⟨0, 3⟩ : Ext) :: (List.range 62).map fun j : Nat => (⟨2 * (j : Int) + 4, 1⟩ : Ext)) := by
      refine ⟨fun e he => ?_, List.pairwise_cons.2 ⟨fun e he => ?_, ?_⟩⟩
      · rcases List.mem_cons.1 he with rfl | he
        · simp
        · obtain ⟨j, _, rfl⟩ := List.mem_map.1 he; simp
      · obtain ⟨j, _, rfl⟩ := List.mem_map.1 he; simp only; omega
      · rw [List.pairwise_map]
        exact List.pairwise_lt_range.imp fun h => by simp only; omega
    have hn : normE (evens 64 ++ [⟨0, 3⟩]) = (⟨0, 3⟩ : Ext) :: (List.range 62).map fun j : Nat => (⟨2 * (j : Int) + 4, 1⟩ : Ext) := by
      refine normE_ext (fun e he => ?_) hc fun x => ?_
      · rcases List.mem_append.1 he with he | he
        · obtain ⟨j, _, rfl⟩ := evens_mem he; simp
        · rw [List.mem_singleton] at he; subst he; simp
      · rw [cov_append, evens_cov, cov_cons, cov_cons]
        have hnil := cov_nil x
        constructor
        · rintro (h | ⟨e, he, h1, h2⟩)
          · exact .inr (.inl h)
          · obtain ⟨j, hj, rfl⟩ := List.mem_map.1 he
            have := List.mem_range.1 hj
            exact .inl ⟨j + 2, by omega, by simp only at h1 h2; omega⟩
        · rintro (⟨j, hj, rfl⟩ | h | h)
          · by_cases hj2 : j < 2
            · exact .inl ⟨by simp only; omega, by simp only; omega⟩
            · exact .inr ⟨_, List.mem_map.2 ⟨j - 2, List.mem_range.2 (by omega), rfl⟩, by simp only; omega, by simp only; omega⟩
          · exact .inl h
          · exact absurd h hnil
    obtain ⟨h1, _⟩ := addCode_is (most := 64) hg hm (by simp) hn
    rw [h1, if_neg (by simp)]
end Go.Proofs
