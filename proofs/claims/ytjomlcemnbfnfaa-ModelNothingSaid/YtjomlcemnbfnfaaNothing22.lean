/- ModelNothing: nothing is no model, and like nothing alone: for every input the law returns true, and nothing that was there is changed. -/
import Derived.Test.YtjomlcemnbfnfaaL22
import Derived.Test.YtjomlcemnbfnfaaAll
namespace Go.Proofs
open Go.RowKit Sc

theorem modelGet_nil (lba : Int) (w : World) : Calls Try.prog 21 #[.pointer none, .int .i64 lba] w fun e w' => e = .returned (.tuple #[.slice none 0 0, .int .i64 2]) ∧ w = w' := by
  go_enter Try.func21, Try.ntmps21
  go_wp2_with (go_at_call 43; refine (block_nil lba _).mono ?_; rintro e w' ⟨rfl, rfl⟩)
  go_ret2
  exact ⟨rfl, rfl⟩
theorem modelRun_nil (n : Int) (pv : Value) (w : World) (hp : pv.oneCell' = true) : Calls Try.prog 19 #[.pointer none, .agg #[.int .i64 n, pv]] w fun e w' => e = .returned (.int .i64 2) ∧ Below w.heap.size w w' := by
  go_enter Try.func19, Try.ntmps19
  go_wp2_with fail
  go_ret
  exact ⟨rfl, ((Below.refl _ _).alloc (Nat.le_refl _) _).alloc (by simp) _⟩
theorem modelAll_nil (w : World) : Calls Try.prog 26 #[.pointer none] w fun e w' => e = .returned (.slice none 0 0) ∧ w = w' := by
  go_enter Try.func26, Try.ntmps26
  go_wp2_with fail
  go_ret
  exact ⟨rfl, rfl⟩
theorem modelSame_nn (w : World) : Calls Try.prog 20 #[.pointer none, .pointer none] w fun e w' => e = .returned (.bool true) ∧ w = w' := by
  have he : ∀ W : World, (binOp .eql 29 (.pointer none) (.pointer none)).run Try.prog W = .ok (.bool true) W := fun _ => by kernel_rfl
  go_enter Try.func20, Try.ntmps20
  go_wp2_with fail
  go_ret
  exact ⟨rfl, rfl⟩
theorem modelSame_np (b : Nat) (w : World) : Calls Try.prog 20 #[.pointer none, .pointer (some ⟨b, 0, none⟩)] w fun e w' => e = .returned (.bool false) ∧ w = w' := by
  have he : ∀ W : World, (binOp .eql 29 (.pointer none) (.pointer (some ⟨b, 0, none⟩))).run Try.prog W = .ok (.bool false) W := fun _ => by kernel_rfl
  go_enter Try.func20, Try.ntmps20
  go_wp2_with fail
  go_ret
  exact ⟨rfl, rfl⟩
theorem modelSame_pn (b : Nat) (w : World) : Calls Try.prog 20 #[.pointer (some ⟨b, 0, none⟩), .pointer none] w fun e w' => e = .returned (.bool false) ∧ w = w' := by
  have he : ∀ W : World, (binOp .eql 29 (.pointer (some ⟨b, 0, none⟩)) (.pointer none)).run Try.prog W = .ok (.bool false) W := fun _ => by kernel_rfl
  go_enter Try.func20, Try.ntmps20
  go_wp2_with fail
  go_ret
  exact ⟨rfl, rfl⟩

set_option maxRecDepth 100000 in
set_option maxHeartbeats 1000000 in
theorem nothing22_any (lba : Int) (w : World) : Calls Try.prog 8 #[.int .i64 lba] w fun e w' => e = .returned (.bool true) ∧ Below w.heap.size w w' := by
  go_enter Try.func8, Try.ntmps8
  go_wp2_with fail
  refine (modelNew_any 3 _ (by omega) (by omega)).mono ?_
  rintro e w1 ⟨v, rfl, hm, hb1⟩
  obtain ⟨⟨b, r, ml, rfl, _⟩, _⟩ := hm
  go_wp2_with fail
  refine (modelGet_nil lba _).mono ?_
  rintro e w2 ⟨rfl, rfl⟩
  go_wp2_with fail
  refine (data_any 1 _).mono ?_
  rintro e w3 ⟨dv, rfl, hd, hb3⟩
  obtain ⟨dp, dc, rfl⟩ := shape_of hd (dataB_len 1)
  clear hd
  go_wp2_with fail
  refine (modelRun_nil _ _ _ rfl).mono ?_
  rintro e w4 ⟨rfl, hb4⟩
  go_wp2_with fail
  refine (modelAll_nil _).mono ?_
  rintro e w5 ⟨rfl, rfl⟩
  go_wp2_with fail
  refine (modelSame_nn _).mono ?_
  rintro e w6 ⟨rfl, rfl⟩
  go_wp2_with fail
  refine (modelSame_np _ _).mono ?_
  rintro e w7 ⟨rfl, rfl⟩
  go_wp2_with fail
  refine (modelSame_pn _ _).mono ?_
  rintro e w8 ⟨rfl, rfl⟩
  go_wp2_with fail
  refine (awake22 _).mono ?_
  rintro e w9 ⟨rfl, hb9⟩
  go_wp2_with fail
  go_ret
  exact ⟨rfl, Below.up hb1 (Below.up hb3 (Below.up (below_alloc _ _) (Below.up hb4 hb9)))⟩
end Go.Proofs
