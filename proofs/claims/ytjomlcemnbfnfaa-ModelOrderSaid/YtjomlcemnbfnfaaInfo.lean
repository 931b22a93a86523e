/- The types' rows: zero values and sizes; what an own row of ints reads as. -/
import Derived.Test.YtjomlcemnbfnfaaChecked
import Derived.Test.YtjomlcemnbfnfaaSep
namespace Go.Proofs
open Go.RowKit Sc

theorem infoPut : (Try.prog.info? 39).map (fun i => (i.zero, i.size, i.bytes)) = some (some (.agg #[.int .i64 0, .slice none 0 0]), 2, 32) := by kernel_rfl
theorem infoInt : (Try.prog.info? 3).map (fun i => (i.zero, i.size, i.bytes)) = some (some (.int .i64 0), 1, 8) := by kernel_rfl
theorem infoRow : (Try.prog.info? 35).map (fun i => (i.zero, i.size, i.bytes)) = some (some (.slice none 0 0), 1, 24) := by kernel_rfl
theorem intsAt_own {w : World} {B : Nat} {v : Value} {n : Nat} {l : List Int} (G : Nat → Prop) (hl : l.length = n) (hi : ∀ x ∈ l, I64 x) (hG : ∀ k, B ≤ k → k < w.heap.size → G k)
    (h : w.ownsRow B 3 1 v n (l.map (Value.int .i64))) : IntsAt G w v l := by
  have hlt := h.lt
  have hrow := h
  obtain ⟨hx, hc | ⟨g, cap, cur, rfl, hb, hg, hnc, hcm, hcs, htake⟩⟩ := h
  · obtain ⟨rfl, rfl⟩ := hc
    obtain rfl : l = [] := List.length_eq_zero_iff.1 hl
    exact SlAt.nil
  · have hgl := hlt g rfl
    subst hl
    refine ⟨_, cap, rfl, hnc, by unfold maxLen at hcm; omega, (by intro hh; cases hh), fun i hi' => ⟨g, 0, rfl, hG g hgl.1 hgl.2, ?_, hi _ (List.getElem_mem hi')⟩⟩
    rw [show 0 + i * 1 = i by omega, hrow.cellAt i (by omega)]
    simp [hi']
end Go.Proofs
