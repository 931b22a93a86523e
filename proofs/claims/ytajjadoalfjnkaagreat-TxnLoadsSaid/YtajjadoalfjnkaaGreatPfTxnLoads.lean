/- TxnLoads returns true for every input, and leaves its arguments as they were. No conditions. -/
import Derived.Test.YtajjadoalfjnkaaGreatRows
import Derived.Test.YtajjadoalfjnkaaGreatLoads23
import Derived.Test.YtajjadoalfjnkaaGreatShut
import Derived.Test.YtajjadoalfjnkaaGreatOpen2
namespace Go.Proofs.YtajjadoalfjnkaaGreat
open Go.ChangeShapes Go.WideShapes Go.ChangeAt Go.RowKit Sc

theorem Tryz.own : ownKnob Tryz.prog.godebug = none := by kernel_rfl
theorem Tryz.laidOut : laidOutB Tryz.prog = true := by kernel_rfl

set_option maxRecDepth 100000 in
theorem txnLoads_lifted (os : Os) (started : os.Started) (H : Type) (enc : TypeId × Value → H) :
    ReturnsInHanded {} Tryz.checked os 10 .any (Rows.txnLoadsSpec.pre6 enc Tryz.prog Tryz.f10 Rows.txnLoadsRow.domain false) (Rows.txnLoadsSpec.post enc Tryz.prog Tryz.f10 false true false false) := by
  refine returnsInHanded_of_change (C := Tryz.checked) Tryz.own started (by kernel_rfl) Tryz.func10
    (ChangeSpec.witness6 (enc := enc) (C := Tryz.checked) false ⟨#[], #[.int .i64 0, .slice none 0 0, .agg #[.int .i64 0, .int .i64 0]], []⟩ 8 (by kernel_rfl) (by kernel_rfl) (by kernel_rfl) (by kernel_rfl)) ?_
  intro W base args ds gs before hval0 hW hcnd _
  have hval : ∀ (j : Nat) t v, Tryz.f10.params[j]? = some t → args[j]? = some v → Value.okWide Tryz.prog W .any base t v := hval0
  have hW' := hW
  obtain ⟨p, q, hA0, hV, rfl, hfz, hnd⟩ := hW
  have hA : DataW.TrodAll enc Tryz.prog W 0 (fun _ => true) true Tryz.f10.params.toList args.toList ds p := hA0
  rw [Tryz.params10] at hA hval
  obtain ⟨v0, vs0, d0, ds0, p0, q0, hargs0, rfl, rfl, h0, hr0⟩ := trodAll_cons hA
  obtain ⟨v1, vs1, d1, ds1, p1, q1, hargs1, rfl, rfl, h1, hr1⟩ := trodAll_cons hr0
  obtain ⟨v2, vs2, d2, ds2, p2, q2, hargs2, rfl, rfl, h2, hr2⟩ := trodAll_cons hr1
  obtain ⟨rfl, rfl, rfl⟩ := trodAll_nil hr2
  subst hargs2
  subst hargs1
  have hargs : args = #[v0, v1, v2] := Array.toList_inj.1 hargs0
  subst hargs
  obtain ⟨rfl, rfl⟩ := trodVars_none hV
  obtain ⟨a0, rfl, _, _, wa0⟩ := open_int Tryz.underlying3 (hval 0 3 v0 rfl rfl) h0
  have ia0 : I64 a0 := i64_of_wf wa0
  obtain ⟨sa1, sn1, sc1, rfl⟩ := okWide_slice Tryz.underlying46 (hval 1 46 v1 rfl rfl)
  obtain ⟨fu1, hf1⟩ := h1
  obtain ⟨w1, l1, hc1, hl1⟩ := open_puts hf1
  simp [Value.cells] at hc1
  subst hc1
  obtain ⟨cs2, rfl, _⟩ := okWide_struct Tryz.underlying56 (hval 2 56 v2 rfl rfl)
  obtain ⟨fu2, hf2⟩ := h2
  obtain ⟨ea2, eb2, hc2, hn2, hp2⟩ := opn_ext hf2
  simp [Value.cells] at hc2
  have harr2 : cs2 = #[.int .i64 ea2, .int .i64 eb2] := Array.toList_inj.1 hc2
  subst harr2
  clear hA0 hval0 hval
  refine (loads23_any a0 _ l1 ea2 eb2 W hl1).mono fun e W' ⟨he, hb⟩ => ?_
  subst he
  exact ⟨_, rfl, law_post Tryz.laidOut (by kernel_rfl) rfl Tryz.underlying4 rfl rfl hW' hb⟩

theorem txnLoads_holds : Rows.TxnLoadsSaid :=
  OpenClaim.holds_of_wide 10 Tryz.f10 rfl rfl rfl rfl rfl rfl rfl ⟨rfl, rfl, rfl, rfl, rfl⟩ rfl rfl rfl rfl rfl (by kernel_rfl) Tryz.func10 (by kernel_rfl)
    (of_decide_eq_true (by kernel_rfl)) (by unfold Func.isWrapper; first | (rw [if_pos (by decide +kernel)]; kernel_rfl) | (rw [if_neg (by decide +kernel)]; exact ⟨rfl, rfl⟩))
    (fun os started H enc _ => txnLoads_lifted os started H enc)
end Go.Proofs.YtajjadoalfjnkaaGreat
