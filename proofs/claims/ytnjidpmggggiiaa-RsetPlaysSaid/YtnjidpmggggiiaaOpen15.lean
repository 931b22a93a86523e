/- Steps of chapter 15, opened. -/
import Derived.Test.YtnjidpmggggiiaaOpen2
import Derived.Test.YtnjidpmggggiiaaRs7
namespace Go.Proofs
open Go.RowKit Sc Go.ChangeShapes Go.WideShapes
section
variable {H : Type} {enc : TypeId × Value → H} {w : World}
theorem opn_step15 {fuel : Nat} {cs : List Value} {x : DataW H × List MemPlace} (h : DataW.trod enc Try.prog w 0 (fun _ => true) true fuel 46 cs = some x) :
    ∃ a b c pv pl d, cs = [.int .i64 a, .int .i64 b, .int .i64 c, pv, .int .i64 d] ∧ (I64 a ∧ I64 b ∧ I64 c ∧ I64 d) ∧ PutsAt (Old w) w pv pl := by
  obtain ⟨m, hl, hf⟩ := open_st Try.underlying46 h
  rw [show Try.prog.cellsOf 46 = 5 by kernel_rfl] at hl
  obtain ⟨c0, t0, rfl, hl0⟩ := len_n hl
  obtain ⟨c1, t1, rfl, hl1⟩ := len_n hl0
  obtain ⟨c2, t2, rfl, hl2⟩ := len_n hl1
  obtain ⟨c3, t3, rfl, hl3⟩ := len_n hl2
  obtain ⟨c4, t4, rfl, hl4⟩ := len_n hl3
  obtain rfl : t4 = [] := List.length_eq_zero_iff.1 hl4
  obtain ⟨y0, h0⟩ := hf _ (List.mem_cons_self ..)
  obtain ⟨y1, h1⟩ := hf _ (List.mem_cons_of_mem _ (List.mem_cons_self ..))
  obtain ⟨y2, h2⟩ := hf _ (List.mem_cons_of_mem _ (List.mem_cons_of_mem _ (List.mem_cons_self ..)))
  obtain ⟨y3, h3⟩ := hf _ (List.mem_cons_of_mem _ (List.mem_cons_of_mem _ (List.mem_cons_of_mem _ (List.mem_cons_self ..))))
  have k0 : Try.prog.cellsOf 3 = 1 := by kernel_rfl
  have k1 : Try.prog.cellsOf 39 = 2 := by kernel_rfl
  have k2 : Try.prog.cellsOf 44 = 1 := by kernel_rfl
  simp only [k0, k1, k2, List.drop_zero, List.drop_succ_cons, List.take_succ_cons, List.take_zero] at h0 h1 h2 h3
  obtain ⟨a, rfl, ha⟩ := trod_i64 Try.underlying3 h0
  obtain ⟨b, c, hb0, hb, hc⟩ := opn_ext h1
  cases hb0
  obtain ⟨pv, pl, hp0, hp⟩ := open_puts h2
  cases hp0
  obtain ⟨d, rfl, hd⟩ := trod_i64 Try.underlying3 h3
  exact ⟨a, b, c, _, pl, d, rfl, ⟨ha, hb, hc, hd⟩, hp⟩
theorem opn_steps15 {fuel : Nat} {cs : List Value} {x : DataW H × List MemPlace} (h : DataW.trod enc Try.prog w 0 (fun _ => true) true fuel 41 cs = some x) : ∃ v l, cs = [v] ∧ Steps15 (Old w) w v l := by
  refine open_sl (k := 5) Try.underlying41 (by kernel_rfl) (by omega) h fun n cs' y b o hl hc ht => ?_
  obtain ⟨a, q, z, pv, pl, c, rfl, ⟨ha, hq, hz, hc'⟩, hp⟩ := opn_step15 ht
  exact ⟨⟨a, ⟨q, z⟩, pl, c⟩, by exact hc 0 (by omega), ha, by exact hc 1 (by omega), by exact hc 2 (by omega), hq, hz, ⟨pv, by exact hc 3 (by omega), hp⟩, by exact hc 4 (by omega), hc'⟩
end
end Go.Proofs
