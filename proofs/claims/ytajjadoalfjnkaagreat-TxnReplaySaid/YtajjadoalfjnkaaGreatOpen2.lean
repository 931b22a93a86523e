/- More arguments opened. -/
import Derived.Test.YtajjadoalfjnkaaGreatOpen
namespace Go.Proofs
open Go.RowKit Sc Go.ChangeShapes Go.WideShapes
theorem len_n {α : Type} {l : List α} {n : Nat} (h : l.length = n + 1) : ∃ a t, l = a :: t ∧ t.length = n := by
 cases l with
 | nil => simp at h
 | cons a t => exact ⟨a, t, rfl, by simpa using h⟩
section
variable {H : Type} {enc : TypeId × Value → H} {w : World}
theorem opn_ext {fuel : Nat} {cs : List Value} {x : DataW H × List MemPlace} (h : DataW.trod enc Tryz.prog w 0 (fun _ => true) true fuel 56 cs = some x) :
  ∃ a b, cs = [.int .i64 a, .int .i64 b] ∧ I64 a ∧ I64 b := by
 obtain ⟨m, hl, hf⟩ := open_st Tryz.underlying56 h
 rw [show Tryz.prog.cellsOf 56 = 2 by kernel_rfl] at hl
 obtain ⟨c0, t0, rfl, hl0⟩ := len_n hl
 obtain ⟨c1, t1, rfl, hl1⟩ := len_n hl0
 obtain rfl : t1 = [] := List.length_eq_zero_iff.1 hl1
 obtain ⟨y0, h0⟩ := hf _ (List.mem_cons_self ..)
 obtain ⟨y1, h1⟩ := hf _ (List.mem_cons_of_mem _ (List.mem_cons_self ..))
 have k0 : Tryz.prog.cellsOf 3 = 1 := by kernel_rfl
 simp only [k0, List.drop_zero, List.drop_succ_cons, List.take_succ_cons, List.take_zero] at h0 h1
 obtain ⟨a, rfl, ha⟩ := trod_i64 Tryz.underlying3 h0
 obtain ⟨b, rfl, hb⟩ := trod_i64 Tryz.underlying3 h1
 exact ⟨a, b, rfl, ha, hb⟩
end
end Go.Proofs
