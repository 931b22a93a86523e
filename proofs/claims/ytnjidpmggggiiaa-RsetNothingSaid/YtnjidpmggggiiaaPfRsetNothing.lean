/- RsetNothing returns true for every input, and leaves its arguments as they were. No conditions. -/
import Derived.Test.YtnjidpmggggiiaaRows
import Derived.Test.YtnjidpmggggiiaaNothing15
import Derived.Test.YtnjidpmggggiiaaShut
import Derived.Test.YtnjidpmggggiiaaOpen2
namespace Go.Proofs.Ytnjidpmggggiiaa
open Go.ChangeShapes Go.WideShapes Go.ChangeAt Go.RowKit Sc

theorem Try.own : ownKnob Try.prog.godebug = none := by kernel_rfl
theorem Try.laidOut : laidOutB Try.prog = true := by kernel_rfl

set_option maxRecDepth 100000 in
theorem rsetNothing_lifted (os : Os) (started : os.Started) (H : Type) (enc : TypeId × Value → H) :
    ReturnsInHanded {} Try.checked os 5 .any (Rows.rsetNothingSpec.pre6 enc Try.prog Try.f5 Rows.rsetNothingRow.domain false) (Rows.rsetNothingSpec.post enc Try.prog Try.f5 false true false false) := by
  refine returnsInHanded_of_change (C := Try.checked) Try.own started (by kernel_rfl) Try.func5
    (ChangeSpec.witness6 (enc := enc) (C := Try.checked) false ⟨#[], #[.agg #[.int .i64 0, .int .i64 0]], []⟩ 8 (by kernel_rfl) (by kernel_rfl) (by kernel_rfl) (by kernel_rfl)) ?_
  intro W base args ds gs before hval0 hW hcnd _
  have hval : ∀ (j : Nat) t v, Try.f5.params[j]? = some t → args[j]? = some v → Value.okWide Try.prog W .any base t v := hval0
  have hW' := hW
  obtain ⟨p, q, hA0, hV, rfl, hfz, hnd⟩ := hW
  have hA : DataW.TrodAll enc Try.prog W 0 (fun _ => true) true Try.f5.params.toList args.toList ds p := hA0
  rw [Try.params5] at hA hval
  obtain ⟨v0, vs0, d0, ds0, p0, q0, hargs0, rfl, rfl, h0, hr0⟩ := trodAll_cons hA
  obtain ⟨rfl, rfl, rfl⟩ := trodAll_nil hr0
  have hargs : args = #[v0] := Array.toList_inj.1 hargs0
  subst hargs
  obtain ⟨rfl, rfl⟩ := trodVars_none hV
  obtain ⟨cs0, rfl, _⟩ := okWide_struct Try.underlying39 (hval 0 39 v0 rfl rfl)
  obtain ⟨fu0, hf0⟩ := h0
  obtain ⟨ea0, eb0, hc0, hn0, hp0⟩ := opn_ext hf0
  simp [Value.cells] at hc0
  have harr0 : cs0 = #[.int .i64 ea0, .int .i64 eb0] := Array.toList_inj.1 hc0
  subst harr0
  clear hA0 hval0 hval
  refine (nothing15_any ⟨ea0, eb0⟩ W).mono fun e W' ⟨he, hb⟩ => ?_
  subst he
  exact ⟨_, rfl, law_post Try.laidOut (by kernel_rfl) rfl Try.underlying4 rfl rfl hW' hb⟩

theorem rsetNothing_holds : Rows.RsetNothingSaid :=
  OpenClaim.holds_of_wide 5 Try.f5 rfl rfl rfl rfl rfl rfl rfl ⟨rfl, rfl, rfl, rfl, rfl⟩ rfl rfl rfl rfl rfl (by kernel_rfl) Try.func5 (by kernel_rfl)
    (of_decide_eq_true (by kernel_rfl)) (by unfold Func.isWrapper; first | (rw [if_pos (by decide +kernel)]; kernel_rfl) | (rw [if_neg (by decide +kernel)]; exact ⟨rfl, rfl⟩))
    (fun os started H enc _ => rsetNothing_lifted os started H enc)
end Go.Proofs.Ytnjidpmggggiiaa
