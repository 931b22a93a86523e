/- ExtmapNothing: nothing is no map: for every input the law returns true. -/
import Derived.Test.YtnegbfeokcjclaaExt10
import Derived.Test.YtnegbfeokcjclaaLaw12
namespace Go.Proofs
open Go.RowKit Sc

set_option maxRecDepth 100000 in
set_option maxHeartbeats 2000000 in
theorem nothing12_any (lba at' a n : Int) (w : World) : Calls Try.prog 7 #[.int .i64 lba, .int .i64 at', .agg #[.int .i64 a, .int .i64 n]] w (Tru w) := by
  have hb0 := below_alloc w (.cells #[.int .i64 a, .int .i64 n] 45)
  have hca : (w.alloc (.cells #[.int .i64 a, .int .i64 n] 45)).cell? ⟨w.heap.size, 0, none⟩ = some (.int .i64 a) := by rw [cell_row (heap_alloc_new w _)]; rfl
  have hcn : (w.alloc (.cells #[.int .i64 a, .int .i64 n] 45)).cell? ⟨w.heap.size, 1, none⟩ = some (.int .i64 n) := by rw [cell_row (heap_alloc_new w _)]; rfl
  have HB0 := Lib.hid hb0
  clear hb0
  go_enter Try.func7, Try.ntmps7
  go_wp2_with fail
  refine (extRange_nil a n at' _).mono ?_
  rintro e w1 ⟨rfl, hb1⟩
  have hca1 := cell_up hb1 hca
  have hcn1 := cell_up hb1 hcn
  have hb01 := Below.up HB0.out hb1
  have HB1 := Lib.hid hb1
  have HB01 := Lib.hid hb01
  clear hb1 hb01
  clear hca hcn
  go_wp2_with fail
  refine (extGet_nil lba at' _).mono ?_
  rintro e w2 ⟨rfl, rfl⟩
  go_wp2_with fail
  refine (extApply_nil _ 1 (.slice none 0 0) _ rfl rfl).mono ?_
  rintro e w3 ⟨rfl, hb3⟩
  have hca3 := cell_up hb3 hca1
  have hcn3 := cell_up hb3 hcn1
  have hb03 := Below.up HB01.out hb3
  have HB3 := Lib.hid hb3
  have HB03 := Lib.hid hb03
  clear hb3 hb03
  clear hca1 hcn1
  go_wp2_with fail
  refine (extLast_nil _).mono ?_
  rintro e w4 ⟨rfl, rfl⟩
  go_wp2_with fail
  refine (extPrune_nil at' _).mono ?_
  rintro e w4 ⟨rfl, rfl⟩
  go_wp2_with fail
  refine (extDump_nil _).mono ?_
  rintro e w4 ⟨rfl, rfl⟩
  go_wp2_with fail
  refine (extWritten_nil a n at' _).mono ?_
  rintro e w5 ⟨rfl, hb5⟩
  have hb05 := Below.up HB03.out hb5
  have HB5 := Lib.hid hb5
  have HB05 := Lib.hid hb05
  clear hb5 hb05
  go_wp2_with fail
  refine (extBlocks_nil _).mono ?_
  rintro e w6 ⟨rfl, rfl⟩
  go_wp2_with fail
  refine (awake12 _).mono ?_
  rintro e w7 ⟨rfl, hb7⟩
  have hb07 := Below.up HB05.out hb7
  have HB7 := Lib.hid hb7
  have HB07 := Lib.hid hb07
  clear hb7 hb07
  go_wp2
  go_ret
  exact ⟨rfl, HB07.out⟩
end Go.Proofs
