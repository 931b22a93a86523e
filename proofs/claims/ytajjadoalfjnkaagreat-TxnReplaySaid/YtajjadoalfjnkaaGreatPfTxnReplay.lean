/- TxnReplay returns true for every input, and leaves its arguments as they were. No conditions. -/
import Derived.Test.YtajjadoalfjnkaaGreatRows
import Derived.Test.YtajjadoalfjnkaaGreatRp14
import Derived.Test.YtajjadoalfjnkaaGreatOpen23
import Derived.Test.YtajjadoalfjnkaaGreatShut
import Derived.Test.YtajjadoalfjnkaaGreatOpen2
namespace Go.Proofs.YtajjadoalfjnkaaGreat
open Go.ChangeShapes Go.WideShapes Go.ChangeAt Go.RowKit Sc

theorem Tryz.own : ownKnob Tryz.prog.godebug = none := by kernel_rfl
theorem Tryz.laidOut : laidOutB Tryz.prog = true := by kernel_rfl

set_option maxRecDepth 100000 in
theorem txnReplay_lifted (os : Os) (started : os.Started) (H : Type) (enc : TypeId × Value → H) :
    ReturnsInHanded {} Tryz.checked os 15 .any (Rows.txnReplaySpec.pre6 enc Tryz.prog Tryz.f15 Rows.txnReplayRow.domain false) (Rows.txnReplaySpec.post enc Tryz.prog Tryz.f15 false true false false) := by
  refine returnsInHanded_of_change (C := Tryz.checked) Tryz.own started (by kernel_rfl) Tryz.func15
    (ChangeSpec.witness6 (enc := enc) (C := Tryz.checked) false ⟨#[], #[.slice none 0 0], []⟩ 8 (by kernel_rfl) (by kernel_rfl) (by kernel_rfl) (by kernel_rfl)) ?_
  intro W base args ds gs before hval0 hW hcnd _
  have hval : ∀ (j : Nat) t v, Tryz.f15.params[j]? = some t → args[j]? = some v → Value.okWide Tryz.prog W .any base t v := hval0
  have hW' := hW
  obtain ⟨p, q, hA0, hV, rfl, hfz, hnd⟩ := hW
  have hA : DataW.TrodAll enc Tryz.prog W 0 (fun _ => true) true Tryz.f15.params.toList args.toList ds p := hA0
  rw [Tryz.params15] at hA hval
  obtain ⟨v0, vs0, d0, ds0, p0, q0, hargs0, rfl, rfl, h0, hr0⟩ := trodAll_cons hA
  obtain ⟨rfl, rfl, rfl⟩ := trodAll_nil hr0
  have hargs : args = #[v0] := Array.toList_inj.1 hargs0
  subst hargs
  obtain ⟨rfl, rfl⟩ := trodVars_none hV
  obtain ⟨sa0, sn0, sc0, rfl⟩ := okWide_slice Tryz.underlying63 (hval 0 63 v0 rfl rfl)
  obtain ⟨fu0, hf0⟩ := h0
  obtain ⟨w0, l0, hc0, hl0⟩ := opn_steps23 hf0
  simp [Value.cells] at hc0
  subst hc0
  clear hA0 hval0 hval
  refine (replay23_any _ l0 W hl0).mono fun e W' ⟨he, hb⟩ => ?_
  subst he
  exact ⟨_, rfl, law_post Tryz.laidOut (by kernel_rfl) rfl Tryz.underlying4 rfl rfl hW' hb⟩

theorem txnReplay_holds : Rows.TxnReplaySaid :=
  OpenClaim.holds_of_wide 15 Tryz.f15 rfl rfl rfl rfl rfl rfl rfl ⟨rfl, rfl, rfl, rfl, rfl⟩ rfl rfl rfl rfl rfl (by kernel_rfl) Tryz.func15 (by kernel_rfl)
    (of_decide_eq_true (by kernel_rfl)) (by unfold Func.isWrapper; first | (rw [if_pos (by decide +kernel)]; kernel_rfl) | (rw [if_neg (by decide +kernel)]; exact ⟨rfl, rfl⟩))
    (fun os started H enc _ => txnReplay_lifted os started H enc)
end Go.Proofs.YtajjadoalfjnkaaGreat
