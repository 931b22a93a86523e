/- What a call makes, put beside what there was; a bound of versions. Of no program. -/
import Derived.Test.YtnjidpmggggiiaaSep
import Derived.Test.YtnjidpmggggiiaaPlainExt
namespace Sc
open Go Go.RowKit

theorem Sep.append {W w w' : World} {L M : List Asn} (h : Sep W L w) (h2 : Sep w (OldA w :: M) w') : Sep W (L ++ M) w' := by
  have hb := h2.old
  obtain ⟨hg, Fs, h1, h3, h4⟩ := h
  obtain ⟨hg', Gs, k1, k3, k4⟩ := h2
  have k0 : ∀ k, k < w.heap.size → Gs 0 k := (k4 0 (OldA w) rfl).1
  have kn : ∀ j k, Gs (j + 1) k → w.heap.size ≤ k := fun j k hk => by
    by_cases hlt : k < w.heap.size
    · exact absurd hk (k3 0 (j + 1) k (by omega) (k0 k hlt))
    · omega
  refine ⟨hg.trans (below_grow hb), fun i => if i < L.length then Fs i else Gs (i - L.length + 1), ?_, ?_, ?_⟩
  · intro i k hk
    by_cases hi : i < L.length
    · simp only [hi, if_true] at hk; exact Nat.lt_of_lt_of_le (h1 i k hk) hb.size
    · simp only [hi, if_false] at hk; exact k1 _ k hk
  · intro i j k hij hk hk'
    by_cases hi : i < L.length <;> by_cases hj : j < L.length
    · simp only [hi, hj, if_true] at hk hk'; exact h3 i j k hij hk hk'
    · simp only [hi, hj, if_true, if_false] at hk hk'
      have := h1 i k hk; have := kn _ k hk'; omega
    · simp only [hi, hj, if_true, if_false] at hk hk'
      have := h1 j k hk'; have := kn _ k hk; omega
    · simp only [hi, hj, if_false] at hk hk'
      exact k3 _ _ k (by omega) hk hk'
  · intro i A hA
    by_cases hi : i < L.length
    · rw [List.getElem?_append_left hi] at hA
      simp only [hi, if_true]
      exact A.loc _ _ _ (fun k hk => hb.block k (h1 i k hk)) hb.size (h4 i A hA)
    · rw [List.getElem?_append_right (by omega)] at hA
      simp only [hi, if_false]
      exact k4 (i - L.length + 1) A (by rw [List.getElem?_cons_succ]; exact hA)
end Sc
namespace Go.Proofs
open Go.RowKit Sc
theorem apply_lenG {blocks last : Int} {vs : Vers} {t : Tx} {m : Nat} (h : GoodE blocks last vs) (hm : ∀ k l, alook vs k = some l → l.length ≤ m) : ∀ k l, alook (applyNext blocks last vs t) k = some l → l.length ≤ m + 1 := by
  intro k l hl
  unfold applyNext at hl
  split at hl
  · rename_i hc
    obtain ⟨h1, h2, h3, h4, h5, _⟩ := code_zero hc
    have hn := pairwise_nodup (riseB_pairwise h3)
    by_cases hk : ∃ p ∈ t.puts, p.lba = k
    · obtain ⟨p, hp, rfl⟩ := hk
      rw [applyVs_mine _ _ _ p hn hp] at hl
      cases hl
      cases hx : alook vs p.lba with
      | none => simp
      | some l' => have := hm _ _ hx; simp; omega
    · rw [applyVs_other _ _ _ k (fun p hp e => hk ⟨p, hp, e⟩)] at hl
      have := hm k l hl; omega
  · have := hm k l hl; omega
theorem tsz_mem {l : List Tx} {t : Tx} (h : t ∈ l) : t.puts.length ≤ (l.map fun t => t.puts.length + (t.puts.map fun p => p.data.length).sum).sum := by
  induction l with
  | nil => cases h
  | cons a l ih =>
    simp only [List.map_cons, List.sum_cons]
    rcases List.mem_cons.1 h with rfl | h
    · omega
    · have := ih h; omega
end Go.Proofs
