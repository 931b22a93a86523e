/- Package extmap: within, Range. -/
import Derived.Test.YtnjidpmggggiiaaExt2
import Derived.Deep.AppendLies
import Derived.BigQuiet
namespace Go.Proofs
open Go.RowKit Sc

def withinB (blocks a n : Int) : Bool := decide (0 ≤ a) && decide (1 ≤ n) && decide (n ≤ blocks) && decide (a ≤ blocks - n)
theorem withinB_no {blocks a n : Int} (h : ¬ (0 ≤ a ∧ 1 ≤ n ∧ n ≤ blocks ∧ a ≤ blocks - n)) : withinB blocks a n = false := by
  unfold withinB
  rw [← Bool.not_eq_true]
  simp only [Bool.and_eq_true, decide_eq_true_eq]
  omega
theorem withinB_yes {blocks a n : Int} (h : 0 ≤ a ∧ 1 ≤ n ∧ n ≤ blocks ∧ a ≤ blocks - n) : withinB blocks a n = true := by
  unfold withinB
  simp only [Bool.and_eq_true, decide_eq_true_eq]
  omega

set_option maxRecDepth 100000 in
set_option maxHeartbeats 1000000 in
theorem extWithin_any (F : Nat → Prop) (v : Value) (blocks last : Int) (vs : Vers) (a n : Int) (w : World) (h : ExtIs F w v blocks last vs) (hbl : blocks ≤ 1048576) :
    Calls Try.prog 67 #[v, .agg #[.int .i64 a, .int .i64 n]] w fun e w' => e = .returned (.bool (withinB blocks a n)) ∧ Below w.heap.size w w' := by
  have H := Lib.hid h
  obtain ⟨b, r, ml, rfl, _⟩ := h.cells
  clear h
  have hbk : ∀ W, Below w.heap.size w W → Calls Try.prog 72 #[.pointer (some ⟨b, 0, none⟩)] W fun e w' => e = .returned (.int .i64 blocks) ∧ w' = W := fun W hb => (extBlocks_any F (.pointer (some ⟨b, 0, none⟩)) blocks last vs W (H.out.up hb)).mono fun _ _ ⟨h1, h2⟩ => ⟨h1, h2.symm⟩
  have hw0 := below_alloc w (.cells #[.int .i64 a, .int .i64 n] 39)
  by_cases h1 : 0 ≤ a
  · by_cases h2 : 1 ≤ n
    · by_cases h3 : n ≤ blocks
      · have hw1 : IntKind.i64.wrap (blocks - n) = blocks - n := IntWalk.i64_in _ (by omega)
        by_cases h4 : a ≤ blocks - n
        · have hb := withinB_yes ⟨h1, h2, h3, h4⟩
          have HB := Lib.hid hb
          have HBK := Lib.hid hbk
          have HW0 := Lib.hid hw0
          clear hb hbk hw0
          go_enter Try.func67, Try.ntmps67
          go_wp2
          go_quiet ((go_at_call 72; exact Calls.quiet_of_same (HBK.out _ (below_drewN HW0.out _))))
          go_wp2
          go_ret
          exact ⟨congrArg boolRet HB.out.symm, below_drewN HW0.out _⟩
        · have hb : withinB blocks a n = false := withinB_no (by omega)
          have h4' : decide (a ≤ blocks - n) = false := decide_eq_false h4
          have HB := Lib.hid hb
          have HBK := Lib.hid hbk
          have HW0 := Lib.hid hw0
          clear hb hbk hw0
          clear h4
          go_enter Try.func67, Try.ntmps67
          go_wp2
          go_quiet ((go_at_call 72; exact Calls.quiet_of_same (HBK.out _ (below_drewN HW0.out _))))
          go_wp2
          go_ret
          exact ⟨congrArg boolRet HB.out.symm, below_drewN HW0.out _⟩
      · have hb : withinB blocks a n = false := withinB_no (by omega)
        have h3' : decide (n ≤ blocks) = false := decide_eq_false h3
        have HB := Lib.hid hb
        have HBK := Lib.hid hbk
        have HW0 := Lib.hid hw0
        clear hb hbk hw0
        clear h3
        go_enter Try.func67, Try.ntmps67
        go_wp2
        go_quiet ((go_at_call 72; exact Calls.quiet_of_same (HBK.out _ (below_drewN HW0.out _))))
        go_wp2
        go_ret
        exact ⟨congrArg boolRet HB.out.symm, below_drewN HW0.out _⟩
    · have hb : withinB blocks a n = false := withinB_no (by omega)
      have h2' : decide (1 ≤ n) = false := decide_eq_false h2
      have HB := Lib.hid hb
      have HW0 := Lib.hid hw0
      clear hb hw0
      clear h2 hbk
      go_enter Try.func67, Try.ntmps67
      go_wp2
      go_quiet (fail)
      go_wp2
      go_ret
      exact ⟨congrArg boolRet HB.out.symm, below_drewN HW0.out _⟩
  · have hb : withinB blocks a n = false := withinB_no (by omega)
    have h1' : decide (0 ≤ a) = false := decide_eq_false h1
    have HB := Lib.hid hb
    have HW0 := Lib.hid hw0
    clear hb hw0
    clear h1 hbk
    go_enter Try.func67, Try.ntmps67
    go_wp2
    go_quiet (fail)
    go_wp2
    go_ret
    exact ⟨congrArg boolRet HB.out.symm, below_drewN HW0.out _⟩
end Go.Proofs
