/- Steps of chapter 23, opened. -/
import Derived.Test.YtajjadoalfjnkaaGreatOpen2
import Derived.Test.YtajjadoalfjnkaaGreatRp14
namespace Go.Proofs
open Go.RowKit Sc Go.ChangeShapes Go.WideShapes
section
variable {H : Type} {enc : TypeId × Value → H} {w : World}
theorem opn_step23 {fuel : Nat} {cs : List Value} {x : DataW H × List MemPlace} (h : DataW.trod enc Tryz.prog w 0 (fun _ => true) true fuel 68 cs = some x) :
  ∃ a hh b c pv pl d, cs = [.int .i64 a, .int .i64 hh, .int .i64 b, .int .i64 c, pv, .int .i64 d] ∧ (I64 a ∧ I64 hh ∧ I64 b ∧ I64 c ∧ I64 d) ∧ PutsAt (Old w) w pv pl := by
 obtain ⟨m, hl, hf⟩ := open_st Tryz.underlying68 h
 rw [show Tryz.prog.cellsOf 68 = 6 by kernel_rfl] at hl
 obtain ⟨c0, t0, rfl, hl0⟩ := len_n hl
 obtain ⟨c1, t1, rfl, hl1⟩ := len_n hl0
 obtain ⟨c2, t2, rfl, hl2⟩ := len_n hl1
 obtain ⟨c3, t3, rfl, hl3⟩ := len_n hl2
 obtain ⟨c4, t4, rfl, hl4⟩ := len_n hl3
 obtain ⟨c5, t5, rfl, hl5⟩ := len_n hl4
 obtain rfl : t5 = [] := List.length_eq_zero_iff.1 hl5
 obtain ⟨y0, h0⟩ := hf _ (List.mem_cons_self ..)
 obtain ⟨y1, h1⟩ := hf _ (List.mem_cons_of_mem _ (List.mem_cons_self ..))
 obtain ⟨y2, h2⟩ := hf _ (List.mem_cons_of_mem _ (List.mem_cons_of_mem _ (List.mem_cons_self ..)))
 obtain ⟨y3, h3⟩ := hf _ (List.mem_cons_of_mem _ (List.mem_cons_of_mem _ (List.mem_cons_of_mem _ (List.mem_cons_self ..))))
 obtain ⟨y4, h4⟩ := hf _ (List.mem_cons_of_mem _ (List.mem_cons_of_mem _ (List.mem_cons_of_mem _ (List.mem_cons_of_mem _ (List.mem_cons_self ..)))))
 have k0 : Tryz.prog.cellsOf 3 = 1 := by kernel_rfl
 have k1 : Tryz.prog.cellsOf 56 = 2 := by kernel_rfl
 have k2 : Tryz.prog.cellsOf 46 = 1 := by kernel_rfl
 simp only [k0, k1, k2, List.drop_zero, List.drop_succ_cons, List.take_succ_cons, List.take_zero] at h0 h1 h2 h3 h4
 obtain ⟨a, rfl, ha⟩ := trod_i64 Tryz.underlying3 h0
 obtain ⟨hh, rfl, hhh⟩ := trod_i64 Tryz.underlying3 h1
 obtain ⟨b, c, hb0, hb, hc⟩ := opn_ext h2
 cases hb0
 obtain ⟨pv, pl, hp0, hp⟩ := open_puts h3
 cases hp0
 obtain ⟨d, rfl, hd⟩ := trod_i64 Tryz.underlying3 h4
 exact ⟨a, hh, b, c, _, pl, d, rfl, ⟨ha, hhh, hb, hc, hd⟩, hp⟩
theorem opn_steps23 {fuel : Nat} {cs : List Value} {x : DataW H × List MemPlace} (h : DataW.trod enc Tryz.prog w 0 (fun _ => true) true fuel 63 cs = some x) : ∃ v l, cs = [v] ∧ Steps23 (Old w) w v l := by
 refine open_sl (k := 6) Tryz.underlying63 (by kernel_rfl) (by omega) h fun n cs' y b o hl hc ht => ?_
 obtain ⟨a, hh, q, z, pv, pl, c, rfl, ⟨ha, hhh, hq, hz, hc'⟩, hp⟩ := opn_step23 ht
 exact ⟨⟨a, hh, ⟨q, z⟩, pl, c⟩, by exact hc 0 (by omega), ha, by exact hc 1 (by omega), hhh, by exact hc 2 (by omega), by exact hc 3 (by omega), hq, hz, ⟨pv, by exact hc 4 (by omega), hp⟩, by exact hc 5 (by omega), hc'⟩
end
end Go.Proofs
