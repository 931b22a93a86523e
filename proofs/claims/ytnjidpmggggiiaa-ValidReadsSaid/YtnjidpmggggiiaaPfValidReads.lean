/- ValidReads returns true for every input, and leaves its arguments as they were. No conditions. -/
import Derived.Test.YtnjidpmggggiiaaRows
import Derived.Test.YtnjidpmggggiiaaReads16
import Derived.Test.YtnjidpmggggiiaaShut
import Derived.Test.YtnjidpmggggiiaaOpen2
namespace Go.Proofs.Ytnjidpmggggiiaa
open Go.ChangeShapes Go.WideShapes Go.ChangeAt Go.RowKit Sc

theorem Try.own : ownKnob Try.prog.godebug = none := by kernel_rfl
theorem Try.laidOut : laidOutB Try.prog = true := by kernel_rfl

set_option maxRecDepth 100000 in
theorem validReads_lifted (os : Os) (started : os.Started) (H : Type) (enc : TypeId × Value → H) :
    ReturnsInHanded {} Try.checked os 10 .any (Rows.validReadsSpec.pre6 enc Try.prog Try.f10 Rows.validReadsRow.domain false) (Rows.validReadsSpec.post enc Try.prog Try.f10 false true false false) := by
  refine returnsInHanded_of_change (C := Try.checked) Try.own started (by kernel_rfl) Try.func10
    (ChangeSpec.witness6 (enc := enc) (C := Try.checked) false ⟨#[], #[.slice none 0 0, .slice none 0 0, .int .i64 0, .slice none 0 0], []⟩ 8 (by kernel_rfl) (by kernel_rfl) (by kernel_rfl) (by kernel_rfl)) ?_
  intro W base args ds gs before hval0 hW hcnd _
  have hval : ∀ (j : Nat) t v, Try.f10.params[j]? = some t → args[j]? = some v → Value.okWide Try.prog W .any base t v := hval0
  have hW' := hW
  obtain ⟨p, q, hA0, hV, rfl, hfz, hnd⟩ := hW
  have hA : DataW.TrodAll enc Try.prog W 0 (fun _ => true) true Try.f10.params.toList args.toList ds p := hA0
  rw [Try.params10] at hA hval
  obtain ⟨v0, vs0, d0, ds0, p0, q0, hargs0, rfl, rfl, h0, hr0⟩ := trodAll_cons hA
  obtain ⟨v1, vs1, d1, ds1, p1, q1, hargs1, rfl, rfl, h1, hr1⟩ := trodAll_cons hr0
  obtain ⟨v2, vs2, d2, ds2, p2, q2, hargs2, rfl, rfl, h2, hr2⟩ := trodAll_cons hr1
  obtain ⟨v3, vs3, d3, ds3, p3, q3, hargs3, rfl, rfl, h3, hr3⟩ := trodAll_cons hr2
  obtain ⟨rfl, rfl, rfl⟩ := trodAll_nil hr3
  subst hargs3
  subst hargs2
  subst hargs1
  have hargs : args = #[v0, v1, v2, v3] := Array.toList_inj.1 hargs0
  subst hargs
  obtain ⟨rfl, rfl⟩ := trodVars_none hV
  obtain ⟨sa0, sn0, sc0, rfl⟩ := okWide_slice Try.underlying78 (hval 0 78 v0 rfl rfl)
  obtain ⟨fu0, hf0⟩ := h0
  obtain ⟨w0, l0, hc0, hl0⟩ := open_txs hf0
  simp [Value.cells] at hc0
  subst hc0
  obtain ⟨sa1, sn1, sc1, rfl⟩ := okWide_slice Try.underlying78 (hval 1 78 v1 rfl rfl)
  obtain ⟨fu1, hf1⟩ := h1
  obtain ⟨w1, l1, hc1, hl1⟩ := open_txs hf1
  simp [Value.cells] at hc1
  subst hc1
  obtain ⟨a2, rfl, _, _, wa2⟩ := open_int Try.underlying3 (hval 2 3 v2 rfl rfl) h2
  have ia2 : I64 a2 := i64_of_wf wa2
  obtain ⟨sa3, sn3, sc3, rfl⟩ := okWide_slice Try.underlying70 (hval 3 70 v3 rfl rfl)
  obtain ⟨fu3, hf3⟩ := h3
  obtain ⟨w3, l3, hc3, hl3⟩ := opn_exts hf3
  simp [Value.cells] at hc3
  subst hc3
  clear hA0 hval0 hval
  refine (reads16_any _ _ _ l0 l1 a2 l3 W hl0 hl1 hl3 (extsAt_i64 hl3)).mono fun e W' ⟨he, hb⟩ => ?_
  subst he
  exact ⟨_, rfl, law_post Try.laidOut (by kernel_rfl) rfl Try.underlying4 rfl rfl hW' hb⟩

theorem validReads_holds : Rows.ValidReadsSaid :=
  OpenClaim.holds_of_wide 10 Try.f10 rfl rfl rfl rfl rfl rfl rfl ⟨rfl, rfl, rfl, rfl, rfl⟩ rfl rfl rfl rfl rfl (by kernel_rfl) Try.func10 (by kernel_rfl)
    (of_decide_eq_true (by kernel_rfl)) (by unfold Func.isWrapper; first | (rw [if_pos (by decide +kernel)]; kernel_rfl) | (rw [if_neg (by decide +kernel)]; exact ⟨rfl, rfl⟩))
    (fun os started H enc _ => validReads_lifted os started H enc)
end Go.Proofs.Ytnjidpmggggiiaa
