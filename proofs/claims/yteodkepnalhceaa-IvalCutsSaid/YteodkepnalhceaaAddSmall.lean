/- Adding to a set that has room, plain. -/
import Derived.Test.YteodkepnalhceaaSetSep
namespace Go.Proofs
open Go.RowKit Sc

theorem add_room {most : Int} {l0 l : List Ext} (hg : SetG l0) (ha : allB l = true) (hn : ((l0.length + l.length : Nat) : Int) ≤ most) : addCode most l0 l = 0 ∧ addNext most l0 l = normE (l0 ++ l) := by
  by_cases hl : l = []
  · subst hl
    have hc : addCode most l0 [] = 0 := by unfold addCode; rw [if_neg (by rw [ha]; decide), if_pos rfl]
    exact ⟨hc, by unfold addNext; rw [if_pos hc]⟩
  · have hlen := (normE_good' (addOke hg ha)).2.2
    rw [List.length_append] at hlen
    obtain ⟨h1, h2⟩ := addCode_is (most := most) hg ha hl rfl
    rw [if_neg (by omega)] at h1 h2
    exact ⟨h1, h2⟩
theorem normE_both {l m k : List Ext} (h : ∀ e ∈ l, Oke e) (hm : ∀ e ∈ m ++ k, e ∈ l) (hx : ∀ x, cov l x ↔ cov m x ∨ cov k x) : normE (normE m ++ k) = normE l := by
  have hmo : ∀ e ∈ m, Oke e := fun e he => h e (hm e (by simp [he]))
  have hko : ∀ e ∈ k, Oke e := fun e he => h e (hm e (by simp [he]))
  obtain ⟨g1, g2, _⟩ := normE_good' hmo
  obtain ⟨k1, k2, _⟩ := normE_good' h
  refine normE_ext (fun e he => ?_) k1.1 fun x => ?_
  · rcases List.mem_append.1 he with he | he
    · exact g1.1.1 e he
    · exact (hko e he).2.2.1
  · rw [k2, hx, cov_append, g2]
end Go.Proofs
