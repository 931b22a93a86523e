/- Steps of chapter 12, opened. -/
import Derived.Test.YtnegbfeokcjclaaOpen2
import Derived.Test.YtnegbfeokcjclaaLaw12
namespace Go.Proofs
open Go.RowKit Sc Go.ChangeShapes Go.WideShapes
section
variable {H : Type} {enc : TypeId × Value → H} {w : World}
theorem opn_step12 {fuel : Nat} {cs : List Value} {x : DataW H × List MemPlace} (h : DataW.trod enc Try.prog w 0 (fun _ => true) true fuel 34 cs = some x) :
    ∃ a b pv pl c, cs = [.int .i64 a, .int .i64 b, pv, .int .i64 c] ∧ I64 a ∧ I64 b ∧ PutsAt (Old w) w pv pl := by
  obtain ⟨m, hl, hf⟩ := open_st Try.underlying34 h
  rw [show Try.prog.cellsOf 34 = 4 by kernel_rfl] at hl
  obtain ⟨c0, t0, rfl, hl0⟩ := len_n hl
  obtain ⟨c1, t1, rfl, hl1⟩ := len_n hl0
  obtain ⟨c2, t2, rfl, hl2⟩ := len_n hl1
  obtain ⟨c3, t3, rfl, hl3⟩ := len_n hl2
  obtain rfl : t3 = [] := List.length_eq_zero_iff.1 hl3
  obtain ⟨y0, h0⟩ := hf _ (List.mem_cons_self ..)
  obtain ⟨y1, h1⟩ := hf _ (List.mem_cons_of_mem _ (List.mem_cons_self ..))
  obtain ⟨y2, h2⟩ := hf _ (List.mem_cons_of_mem _ (List.mem_cons_of_mem _ (List.mem_cons_self ..)))
  have k0 : Try.prog.cellsOf 3 = 1 := by kernel_rfl
  have k1 : Try.prog.cellsOf 32 = 2 := by kernel_rfl
  simp only [k0, k1, List.drop_zero, List.drop_succ_cons, List.take_succ_cons, List.take_zero] at h0 h1 h2
  obtain ⟨a, rfl, ha⟩ := trod_i64 Try.underlying3 h0
  obtain ⟨b, pv, pl, hb0, hb, hp⟩ := open_tx h1
  cases hb0
  obtain ⟨c, rfl, hc⟩ := trod_i64 Try.underlying3 h2
  exact ⟨a, b, _, pl, c, rfl, ha, hb, hp⟩
theorem opn_steps12 {fuel : Nat} {cs : List Value} {x : DataW H × List MemPlace} (h : DataW.trod enc Try.prog w 0 (fun _ => true) true fuel 22 cs = some x) : ∃ v l, cs = [v] ∧ Steps12 (Old w) w v l := by
  refine open_sl (k := 4) Try.underlying22 (by kernel_rfl) (by omega) h fun n cs' y b o hl hc ht => ?_
  obtain ⟨a, q, pv, pl, c, rfl, ha, hq, hp⟩ := opn_step12 ht
  exact ⟨⟨a, ⟨q, pl⟩, c⟩, by exact hc 0 (by omega), ha, ⟨by exact hc 1 (by omega), hq, pv, by exact hc 2 (by omega), hp⟩, by exact hc 3 (by omega)⟩
end
end Go.Proofs
