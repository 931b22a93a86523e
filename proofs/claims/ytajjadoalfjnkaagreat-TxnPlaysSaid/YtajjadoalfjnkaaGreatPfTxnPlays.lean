/- TxnPlays returns true for every input, and leaves its arguments as they were. No conditions. -/
import Derived.Test.YtajjadoalfjnkaaGreatRows
import Derived.Test.YtajjadoalfjnkaaGreatPlays23
import Derived.Test.YtajjadoalfjnkaaGreatOpen23
import Derived.Test.YtajjadoalfjnkaaGreatShut
import Derived.Test.YtajjadoalfjnkaaGreatOpen2
namespace Go.Proofs.YtajjadoalfjnkaaGreat
open Go.ChangeShapes Go.WideShapes Go.ChangeAt Go.RowKit Sc

theorem Tryz.own : ownKnob Tryz.prog.godebug = none := by kernel_rfl
theorem Tryz.laidOut : laidOutB Tryz.prog = true := by kernel_rfl

set_option maxRecDepth 100000 in
theorem txnPlays_lifted (os : Os) (started : os.Started) (H : Type) (enc : TypeId × Value → H) :
    ReturnsInHanded {} Tryz.checked os 16 .any (Rows.txnPlaysSpec.pre6 enc Tryz.prog Tryz.f16 Rows.txnPlaysRow.domain false) (Rows.txnPlaysSpec.post enc Tryz.prog Tryz.f16 false true false false) := by
  refine returnsInHanded_of_change (C := Tryz.checked) Tryz.own started (by kernel_rfl) Tryz.func16
    (ChangeSpec.witness6 (enc := enc) (C := Tryz.checked) false ⟨#[], #[.int .i64 0, .int .i64 0, .slice none 0 0, .slice none 0 0], []⟩ 8 (by kernel_rfl) (by kernel_rfl) (by kernel_rfl) (by kernel_rfl)) ?_
  intro W base args ds gs before hval0 hW hcnd _
  have hval : ∀ (j : Nat) t v, Tryz.f16.params[j]? = some t → args[j]? = some v → Value.okWide Tryz.prog W .any base t v := hval0
  have hW' := hW
  obtain ⟨p, q, hA0, hV, rfl, hfz, hnd⟩ := hW
  have hA : DataW.TrodAll enc Tryz.prog W 0 (fun _ => true) true Tryz.f16.params.toList args.toList ds p := hA0
  rw [Tryz.params16] at hA hval
  obtain ⟨v0, vs0, d0, ds0, p0, q0, hargs0, rfl, rfl, h0, hr0⟩ := trodAll_cons hA
  obtain ⟨v1, vs1, d1, ds1, p1, q1, hargs1, rfl, rfl, h1, hr1⟩ := trodAll_cons hr0
  obtain ⟨v2, vs2, d2, ds2, p2, q2, hargs2, rfl, rfl, h2, hr2⟩ := trodAll_cons hr1
  obtain ⟨v3, vs3, d3, ds3, p3, q3, hargs3, rfl, rfl, h3, hr3⟩ := trodAll_cons hr2
  obtain ⟨rfl, rfl, rfl⟩ := trodAll_nil hr3
  subst hargs3
  subst hargs2
  subst hargs1
  have hargs : args = #[v0, v1, v2, v3] := Array.toList_inj.1 hargs0
  subst hargs
  obtain ⟨rfl, rfl⟩ := trodVars_none hV
  obtain ⟨a0, rfl, _, _, wa0⟩ := open_int Tryz.underlying3 (hval 0 3 v0 rfl rfl) h0
  have ia0 : I64 a0 := i64_of_wf wa0
  obtain ⟨a1, rfl, _, _, wa1⟩ := open_int Tryz.underlying3 (hval 1 3 v1 rfl rfl) h1
  have ia1 : I64 a1 := i64_of_wf wa1
  obtain ⟨sa2, sn2, sc2, rfl⟩ := okWide_slice Tryz.underlying46 (hval 2 46 v2 rfl rfl)
  obtain ⟨fu2, hf2⟩ := h2
  obtain ⟨w2, l2, hc2, hl2⟩ := open_puts hf2
  simp [Value.cells] at hc2
  subst hc2
  obtain ⟨sa3, sn3, sc3, rfl⟩ := okWide_slice Tryz.underlying63 (hval 3 63 v3 rfl rfl)
  obtain ⟨fu3, hf3⟩ := h3
  obtain ⟨w3, l3, hc3, hl3⟩ := opn_steps23 hf3
  simp [Value.cells] at hc3
  subst hc3
  clear hA0 hval0 hval
  refine (plays23_any a0 a1 _ _ l2 l3 W hl2 hl3).mono fun e W' ⟨he, hb⟩ => ?_
  subst he
  exact ⟨_, rfl, law_post Tryz.laidOut (by kernel_rfl) rfl Tryz.underlying4 rfl rfl hW' hb⟩

theorem txnPlays_holds : Rows.TxnPlaysSaid :=
  OpenClaim.holds_of_wide 16 Tryz.f16 rfl rfl rfl rfl rfl rfl rfl ⟨rfl, rfl, rfl, rfl, rfl⟩ rfl rfl rfl rfl rfl (by kernel_rfl) Tryz.func16 (by kernel_rfl)
    (of_decide_eq_true (by kernel_rfl)) (by unfold Func.isWrapper; first | (rw [if_pos (by decide +kernel)]; kernel_rfl) | (rw [if_neg (by decide +kernel)]; exact ⟨rfl, rfl⟩))
    (fun os started H enc _ => txnPlays_lifted os started H enc)
end Go.Proofs.YtajjadoalfjnkaaGreat
