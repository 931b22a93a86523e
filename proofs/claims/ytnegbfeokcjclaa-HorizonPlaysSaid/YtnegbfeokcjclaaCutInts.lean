/- Cuts of a slice of ints, as equations that hold in every world. -/
import Derived.Test.YtnegbfeokcjclaaInfo
namespace Go.Proofs
open Go.RowKit Sc

theorem addr_add (g o j : Nat) : (⟨g, o, none⟩ : Addr).add j = ⟨g, o + j, none⟩ := by unfold Addr.add; split <;> simp_all
theorem slice_to (g n c j : Nat) (hj : j ≤ c) (W : World) :
    (Instr.slice 50 (.slice (some ⟨g, 0, none⟩) n c) none (some (.int .i64 (j : Int))) none).run Try.prog W = .ok (.slice (some ⟨g, 0, none⟩) j c) W := by
  obtain ⟨i0, hi0, _⟩ := info_parts infoInt
  have hu : Try.prog.underlying 50 = some (.slice (Try.prog.elem 50)) := by kernel_rfl
  have he : Try.prog.elem 50 = 3 := by kernel_rfl
  rw [run_slice_h (P := Try.prog) (w := W) 50 _ n c hu .i64 (j : Int) (by omega) (by omega), he, run_sizeOf (P := Try.prog) W hi0]
  simp only [Result.andThen, sliced, Option.map_some, addr_add, Nat.zero_mul, Nat.add_zero, ite_self, Nat.sub_zero, Int.toNat_natCast]
theorem slice_from (g n c j : Nat) (hn : j + 1 ≤ n) (hc : n ≤ c) :
    ∃ A : Addr, (∀ W, (Instr.slice 50 (.slice (some ⟨g, 0, none⟩) n c) (some (.int .i64 ((j : Int) + 1))) none none).run Try.prog W = .ok (.slice (some A) (n - (j + 1)) (c - (j + 1))) W) ∧ (n = j + 1 ∨ ∀ i, A.add i = ⟨g, j + 1 + i, none⟩) := by
  obtain ⟨i0, hi0, _⟩ := info_parts infoInt
  have hu : Try.prog.underlying 50 = some (.slice (Try.prog.elem 50)) := by kernel_rfl
  have he : Try.prog.elem 50 = 3 := by kernel_rfl
  have hk : Try.prog.cellsOf 3 = 1 := by kernel_rfl
  have ht : ((j : Int) + 1).toNat = j + 1 := by omega
  by_cases h : c = j + 1
  · refine ⟨⟨g, 0, none⟩, fun W => ?_, .inl (by omega)⟩
    rw [run_slice_l (P := Try.prog) (w := W) 50 _ n c hu .i64 ((j : Int) + 1) (by omega) (by omega), he, run_sizeOf (P := Try.prog) W hi0]
    simp only [Result.andThen, sliced, ht, if_pos h]
  · refine ⟨⟨g, j + 1, none⟩, fun W => ?_, .inr fun i => addr_add _ _ _⟩
    rw [run_slice_l (P := Try.prog) (w := W) 50 _ n c hu .i64 ((j : Int) + 1) (by omega) (by omega), he, run_sizeOf (P := Try.prog) W hi0]
    simp only [Result.andThen, sliced, ht, if_neg h, Option.map_some, addr_add, hk, Nat.mul_one, Nat.zero_add]
end Go.Proofs
