/- TopSnaps returns true for every input, and leaves its argument as it was. No conditions. -/
import Derived.Test.YtcbgpeamondhmaaGreatDoorPfTopLift
import Derived.Test.YtcbgpeamondhmaaGreatDoorCards
import Derived.Test.YtcbgpeamondhmaaGreatDoorTie
import Derived.Test.YtcbgpeamondhmaaGreatDoorJfL
import Derived.Test.YtcbgpeamondhmaaGreatDoorJf1
import Derived.Test.YtcbgpeamondhmaaGreatDoorJf2
import Derived.Test.YtcbgpeamondhmaaGreatDoorJf4
import Derived.Test.YtcbgpeamondhmaaGreatDoorJf9
import Derived.Test.YtcbgpeamondhmaaGreatDoorJf10
import Derived.Test.YtcbgpeamondhmaaGreatDoorJf11
import Derived.Test.YtcbgpeamondhmaaGreatDoorJf12
import Derived.Test.YtcbgpeamondhmaaGreatDoorJf22
import Derived.Test.YtcbgpeamondhmaaGreatDoorJf24
import Derived.Test.YtcbgpeamondhmaaGreatDoorJf25
import Derived.Test.YtcbgpeamondhmaaGreatDoorJf26
import Derived.Test.YtcbgpeamondhmaaGreatDoorJf27
import Derived.Test.YtcbgpeamondhmaaGreatDoorJfG
import Derived.SevenTiedAt
namespace Go.Proofs.YtcbgpeamondhmaaGreatDoor
open Go Go.ChangeShapes Go.WideShapes Go.ChangeAt Go.RowKit
theorem and2 {a b:Bool} (h:a=true) (k:b=true):(a && b)=true:=by rw [h,k];rfl
set_option maxRecDepth 100000 in
theorem topSnaps_facts:joinedFacts Tryz.pinned.checked.prog 3 Tryz.f3 Rows.topSnapsSpec Rows.topSnapsRow=true:=by
 unfold joinedFacts
 exact and2 (and2 (and2 (and2 (and2 (and2 (and2 (and2 (and2 (and2 (and2 (and2 (and2 (and2 (and2 (and2 (and2 (and2 (and2 (and2 (and2 (and2 (and2 (and2 (and2 (and2 (and2 (and2 (and2 (and2 (and2 jf0 jf1) jf2) jf3) jf4) jf5) jf6) jf7) jf8) jf9) jf10) jf11) jf12) jf13) jf14) jf15) jf16) jf17) jf18) jf19) jf20) jf21) jf22) jf23) jf24) jf25) jf26) jf27) jf28) jf29) jf30) jf31
theorem topSnaps_row:Rows.TopSnapsSaid :=
 OpenClaim.holds_of_wide 3 Tryz.f3 rfl rfl rfl rfl rfl rfl rfl ⟨rfl,rfl,rfl,rfl,rfl⟩ rfl rfl rfl rfl rfl (by kernel_rfl) Tryz.func3 topSnaps_facts
  (of_decide_eq_true (by kernel_rfl)) (by unfold Func.isWrapper;first | (rw [if_pos (by decide +kernel)];kernel_rfl) | (rw [if_neg (by decide +kernel)];exact ⟨rfl,rfl⟩))
  (fun os started H enc _=>topSnaps_lifted os started H enc)
theorem topSnaps_holds:Rows.TopSnapsCardSaid :=
 Claim7.holds_tied_plain_at .later [] [.data,.data,.data,.data,.sentinel,.sentinel,.pinned] true (true, "93722680606fe27a1906ec3820b793d402d849474211be1c4f0f39aaa1ade212") true
  topSnaps_row (fun _ h=>by cases h) (by kernel_rfl) (fun _ h=>by cases h) topSnaps_row_tie rfl ⟨rfl,rfl⟩ (by kernel_rfl) rfl
  (fun f fn hf hfn=>by
    obtain rfl:f=3:=Option.some.inj ((show Tryz.prog.funcNamed "scarp/scarptop.TopSnaps" = some 3 by kernel_rfl).symm.trans hf) |>.symm
    obtain rfl:fn=Tryz.f3:=(Option.some.inj (Tryz.func3.symm.trans hfn)).symm
    exact ⟨by kernel_rfl,fun j t ht=>by
     rw [Tryz.params3] at ht
     have hm:t∈[22]:=by simpa using Array.mem_of_getElem? ht
     have hall:([22].all fun u=>!Tryz.prog.wantsStandIn u)=true:=by kernel_rfl
     exact (show Tryz.prog.wantsStandIn t=false by simpa using List.all_eq_true.1 hall t hm)⟩)
  jfG
end Go.Proofs.YtcbgpeamondhmaaGreatDoor
