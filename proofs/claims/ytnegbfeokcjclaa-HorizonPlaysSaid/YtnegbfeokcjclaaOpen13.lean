/- Steps of chapter 13, opened. -/
import Derived.Test.YtnegbfeokcjclaaOpen2
namespace Go.Proofs
open Go.RowKit Sc Go.ChangeShapes Go.WideShapes
section
variable {H : Type} {enc : TypeId × Value → H} {w : World}
theorem opn_step13 {fuel : Nat} {cs : List Value} {x : DataW H × List MemPlace} (h : DataW.trod enc Try.prog w 0 (fun _ => true) true fuel 65 cs = some x) :
    ∃ a b, cs = [.int .i64 a, .int .i64 b] ∧ I64 a ∧ I64 b := by
  obtain ⟨m, hl, hf⟩ := open_st Try.underlying65 h
  rw [show Try.prog.cellsOf 65 = 2 by kernel_rfl] at hl
  obtain ⟨c0, t0, rfl, hl0⟩ := len_n hl
  obtain ⟨c1, t1, rfl, hl1⟩ := len_n hl0
  obtain rfl : t1 = [] := List.length_eq_zero_iff.1 hl1
  obtain ⟨y0, h0⟩ := hf _ (List.mem_cons_self ..)
  obtain ⟨y1, h1⟩ := hf _ (List.mem_cons_of_mem _ (List.mem_cons_self ..))
  have k0 : Try.prog.cellsOf 3 = 1 := by kernel_rfl
  simp only [k0, List.drop_zero, List.drop_succ_cons, List.take_succ_cons, List.take_zero] at h0 h1
  obtain ⟨a, rfl, ha⟩ := trod_i64 Try.underlying3 h0
  obtain ⟨b, rfl, hb⟩ := trod_i64 Try.underlying3 h1
  exact ⟨a, b, rfl, ha, hb⟩
theorem opn_steps13 {fuel : Nat} {cs : List Value} {x : DataW H × List MemPlace} (h : DataW.trod enc Try.prog w 0 (fun _ => true) true fuel 58 cs = some x) : ∃ v l, cs = [v] ∧ ExtsAt (Old w) w v l := by
  refine open_sl (k := 2) Try.underlying58 (by kernel_rfl) (by omega) h fun n cs' y b o hl hc ht => ?_
  obtain ⟨a, c, rfl, ha, hb⟩ := opn_step13 ht
  exact ⟨⟨a, c⟩, by exact hc 0 (by omega), by exact hc 1 (by omega), ha, hb⟩
end
end Go.Proofs
