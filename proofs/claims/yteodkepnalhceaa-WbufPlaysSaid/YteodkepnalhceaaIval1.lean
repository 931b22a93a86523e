/- Package ival: may, all, meet. -/
import Derived.Test.YteodkepnalhceaaFindExt
import Derived.Test.YteodkepnalhceaaPlainIval
import Derived.Test.YteodkepnalhceaaAlike
namespace Go.Proofs
open Go.RowKit Sc

set_option maxHeartbeats 400000 in
theorem may_any (x : Ext) (w : World) (h1 : I64 x.first) (h2 : I64 x.len) : Calls Try.prog 51 #[extV x] w fun e w' => e = .returned (.bool (mayB x)) ∧ Below w.heap.size w w' := by
  unfold I64 at h1 h2
  cases hq : mayB x with
  | true =>
    obtain ⟨a1, a2, a3, a4, a5⟩ := mayB_iff.1 hq
    have HQ := Lib.hid hq
    clear hq
    go_enter Try.func51, Try.ntmps51
    go_wp2
    go_ret
    exact ⟨rfl, below_alloc _ _⟩
  | false =>
    have h := mayB_no.1 hq
    rcases (show x.first < 0 ∨ (0 ≤ x.first ∧ 1048576 < x.first) ∨ (0 ≤ x.first ∧ x.first ≤ 1048576 ∧ x.len < 1) ∨ (0 ≤ x.first ∧ x.first ≤ 1048576 ∧ 1 ≤ x.len ∧ 1048576 < x.len) ∨ (0 ≤ x.first ∧ x.first ≤ 1048576 ∧ 1 ≤ x.len ∧ x.len ≤ 1048576 ∧ 1048577 < x.first + x.len) by omega) with a | ⟨a1, a⟩ | ⟨a1, a2, a⟩ | ⟨a1, a2, a3, a⟩ | ⟨a1, a2, a3, a4, a⟩
    all_goals
      clear h
      have HQ := Lib.hid hq
      clear hq
      go_enter Try.func51, Try.ntmps51
      go_wp2
      go_ret
      refine ⟨congrArg boolRet ?_, below_alloc _ _⟩
      first | rfl | (simp; omega)
theorem allC_any (x : Ext) (w : World) (h1 : I64 x.first) (h2 : I64 x.len) : Calls Try.prog 62 #[extV x] w fun e w' => e = .returned (.bool (!mayB x)) ∧ Below w.heap.size w w' := by
  have hb0 := below_alloc w (.cells #[.int .i64 x.first, .int .i64 x.len] 28)
  have HB0 := Lib.hid hb0
  clear hb0
  go_enter Try.func62, Try.ntmps62
  go_wp2_with fail
  refine (may_any x _ h1 h2).mono ?_
  rintro e w1 ⟨rfl, hb1⟩
  have hb2 := Below.up HB0.out hb1
  have HB1 := Lib.hid hb1
  have HB2 := Lib.hid hb2
  clear hb1 hb2
  go_wp2
  go_ret
  exact ⟨rfl, HB2.out⟩
/-- May all be? -/
def allB (l : List Ext) : Bool := l.all mayB
theorem allB_any (l : List Ext) : (!l.any fun e => !mayB e) = allB l := by unfold allB; simp [List.all_eq_not_any_not]
theorem all_any (G : Nat → Prop) (v : Value) (l : List Ext) (w : World) (hv : ExtsAt G w v l) : Calls Try.prog 43 #[v] w fun e w' => e = .returned (.bool (allB l)) ∧ Below w.heap.size w w' := by
  have H := Lib.hid hv
  obtain ⟨p, c, rfl, _, _, _, h4⟩ := hv
  have H4 := Lib.hid h4
  clear h4
  go_enter Try.func43, Try.ntmps43
  go_wp2_with fail
  refine (anyExt_any G _ l (fun e => !mayB e) 62 #[] (by go_simp) _ H.out (fun i hi W _ => allC_any l[i] W (by obtain ⟨_, _, _, _, _, _, q⟩ := H4.out i hi; exact q.1) (by obtain ⟨_, _, _, _, _, _, q⟩ := H4.out i hi; exact q.2))).mono ?_
  rintro e w1 ⟨rfl, hb1⟩
  have HB1 := Lib.hid hb1
  clear hb1
  go_wp2
  go_ret
  refine ⟨congrArg boolRet ?_, HB1.out⟩
  rw [← allB_any]
set_option maxHeartbeats 400000 in
theorem meet_any (x y : Ext) (w : World) (h1 : Sml x) (h2 : Sml y) : Calls Try.prog 50 #[extV x, extV y] w fun e w' => e = .returned (.bool (meetB x y)) ∧ Below w.heap.size w w' := by
  obtain ⟨a1, a2, a3, a4⟩ := h1
  obtain ⟨b1, b2, b3, b4⟩ := h2
  have hbb : Below w.heap.size w ((w.alloc (.cells #[.int .i64 x.first, .int .i64 x.len] 28)).alloc (.cells #[.int .i64 y.first, .int .i64 y.len] 28)) := (below_alloc _ _).alloc (by simp) _
  have hm : meetB x y = (decide (x.first < y.first + y.len) && decide (y.first < x.first + x.len)) := rfl
  have hw1 : IntKind.i64.wrap (y.first + y.len) = y.first + y.len := IntWalk.i64_in _ (by omega)
  have hw2 : IntKind.i64.wrap (x.first + x.len) = x.first + x.len := IntWalk.i64_in _ (by omega)
  have HBB := Lib.hid hbb
  clear hbb
  by_cases c1 : x.first < y.first + y.len
  · by_cases c2 : y.first < x.first + x.len
    · rw [decide_eq_true c1, decide_eq_true c2] at hm
      have HM := Lib.hid hm
      clear hm
      go_enter Try.func50, Try.ntmps50
      go_wp2
      go_ret
      refine ⟨congrArg boolRet ?_, HBB.out⟩
      rw [HM.out]
      first | rfl | (simp; omega)
    · rw [decide_eq_true c1, decide_eq_false c2] at hm
      have c2' : x.first + x.len ≤ y.first := by omega
      have HM := Lib.hid hm
      clear hm
      clear c2
      go_enter Try.func50, Try.ntmps50
      go_wp2
      go_ret
      refine ⟨congrArg boolRet ?_, HBB.out⟩
      rw [HM.out]
      first | rfl | (simp; omega)
  · rw [decide_eq_false c1] at hm
    have c1' : y.first + y.len ≤ x.first := by omega
    have HM := Lib.hid hm
    clear hm
    clear c1
    go_enter Try.func50, Try.ntmps50
    go_wp2
    go_ret
    refine ⟨congrArg boolRet ?_, HBB.out⟩
    rw [HM.out]
    first | rfl | (simp; omega)
end Go.Proofs
