/- RsetNothing: nothing is no view: for every input the law returns true. -/
import Derived.Test.YtnjidpmggggiiaaLaw15
namespace Go.Proofs
open Go.RowKit Sc

set_option maxRecDepth 100000 in
set_option maxHeartbeats 2000000 in
theorem nothing15_any (e : Ext) (w : World) : Calls Try.prog 5 #[.agg #[.int .i64 e.first, .int .i64 e.len]] w (Tru w) := by
  have he0 : (w.alloc (.cells #[.int .i64 e.first, .int .i64 e.len] 39)).cell? ⟨w.heap.size, 0, none⟩ = some (.int .i64 e.first) := by rw [cell_row (heap_alloc_new w _)]; rfl
  have he1 : (w.alloc (.cells #[.int .i64 e.first, .int .i64 e.len] 39)).cell? ⟨w.heap.size, 1, none⟩ = some (.int .i64 e.len) := by rw [cell_row (heap_alloc_new w _)]; rfl
  have hS0 := (Sep.start w).up (below_alloc w (.cells #[.int .i64 e.first, .int .i64 e.len] 39))
  have hrd := viewRead_nil e (w.alloc (.cells #[.int .i64 e.first, .int .i64 e.len] 39))
  generalize hw0 : w.alloc (.cells #[.int .i64 e.first, .int .i64 e.len] 39) = w0 at *
  have HS0 := Lib.hid hS0
  have HW0 := Lib.hid hw0
  clear hS0 hw0
  rcases (show e.len < 1 ∨ (1 ≤ e.len ∧ 16 < e.len) ∨ (1 ≤ e.len ∧ e.len ≤ 16) by omega) with hl | ⟨hl0, hl⟩ | ⟨hl0, hl⟩
  case' inl => rw [if_pos (.inl hl)] at hrd
  case' inr.inl => rw [if_pos (.inr hl)] at hrd
  case' inr.inr => rw [if_neg (by omega)] at hrd
  all_goals
    have HRD := Lib.hid hrd
    clear hrd
    go_enter Try.func5, Try.ntmps5
    go_upto_region 1 with fail
    rw [HW0.out]
    go_wp2_with fail
    refine (HRD.out).mono ?_
    rintro r w1 ⟨rfl, hb1⟩
    have hS1 := HS0.out.up hb1
    have he11 := cell_up hb1 he1
    have HS1 := Lib.hid hS1
    have HB1 := Lib.hid hb1
    clear hS1 hb1
    clear he0 he1
    go_wp2_with fail
    refine (viewSet_nil HS1.out).mono ?_
    rintro r w2 ⟨s, rfl, HB2, HS2⟩
    clear he11
    go_wp2_with fail
    refine (viewNew_nil 0 w2).mono ?_
    rintro r w3 ⟨rfl, rfl⟩
    go_wp2_with fail
    refine (viewReads_nil _).mono ?_
    rintro r w4 ⟨rfl, rfl⟩
    go_wp2_with fail
    refine (viewAt_nil _).mono ?_
    rintro r w5 ⟨rfl, rfl⟩
    go_wp2_with fail
    refine (setCount_sep HS2 1 rfl SetG.nil (by simp)).mono ?_
    rintro r w6 ⟨rfl, HB6, HS6⟩
    rw [show cntE [] = 0 from rfl]
    go_wp2_with fail
    refine (awake15 _).mono ?_
    rintro r w7 ⟨rfl, hb7⟩
    have hS7 := HS6.out.up hb7
    have HS7 := Lib.hid hS7
    have HB7 := Lib.hid hb7
    clear hS7 hb7
    go_wp2
    go_ret
    exact ⟨rfl, HS7.out.old⟩
end Go.Proofs
