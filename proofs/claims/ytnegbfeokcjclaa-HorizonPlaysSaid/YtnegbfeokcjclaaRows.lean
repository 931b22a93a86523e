/-
  No cell of these rows narrows 'for every input' (looked for: loops, veiled, ifaces, maps, wideKeys, modest, calm, conditions, laid).
  DERIVED. THE GIVEN ROWS OF THIS SEAT. 10 by the template 'for every input the law returns true; each argument reads behind the call as it read before'; 0 by the template 'total and deterministic' (their statements: YtnegbfeokcjclaaTotals.lean).
  GIVEN WITH THE SEED: the statements are not yours to turn. If you find one false, say at which input.
  Laid BY PROGRAM, IN A SANDBOX (cutbox-rows.mjs): the forced cells as the released guide's own fill.sh prints them over the translation c5e38a702022cfa8… (all of the seat's roots in one cut). By AI agents, Wed Nov 11 2026. No macro, syntax, notation, axiom, sorry.
-/
import Derived.Test.YtnegbfeokcjclaaChecked
import GoSem.Claim
import GoSem.ClaimJoined
import GoSem.ClaimMapViews
import Derived.JoinedTies
import Derived.KernelRfl
namespace Go.Proofs.Ytnegbfeokcjclaa
/- THE CELL 'sum', in the pinned program and in every row, IS THE sha256 OF THE DUMP (.gsa) THAT YtnegbfeokcjclaaProg.lean LOADS. Nothing in Lean hashes anything: it is a label: what it is worth is what the hold of that sum in a sandbox is worth. -/
noncomputable def Try.pinned : Pinned := { name := "ytnegbfeokcjclaa", sum := "c5e38a702022cfa89cc964438224c16c9c8a1307641e4121eac82f332775c41e", checked := Try.checked }
namespace Rows
def none {H : Type} : Left H := { results := [], args := [] }

/-- 'scarplaw12.ExtmapSnaps': WHATEVER THE INPUT: true; the input reads as it did. -/
def extmapSnapsSpec : ChangeSpec := { name := "extmapSnaps", fn := fun _ => fun
  | [d1, d2] => { results := [.lit (.bool true)], args := [d1, d2] }
  | _ => none }
def extmapSnapsRow : OpenClaim := { program := "ytnegbfeokcjclaa", sum := "c5e38a702022cfa89cc964438224c16c9c8a1307641e4121eac82f332775c41e", func := "scarp/scarplaw12.ExtmapSnaps", spec := "extmapSnaps", unfollowed := true, recurses := true, apart := false }
def ExtmapSnapsSaid : Prop := extmapSnapsRow.holds Try.pinned (OpenSpec.ofChange extmapSnapsSpec)

/-- ITS FALSE NEIGHBOUR: 'it returns false'. Refute it at one input. -/
def extmapSnapsWrong : ChangeSpec := { name := "extmapSnaps", fn := fun _ => fun
  | [d1, d2] => { results := [.lit (.bool false)], args := [d1, d2] }
  | _ => none }
def ExtmapSnapsWrongFalsely : Prop := extmapSnapsRow.holds Try.pinned (OpenSpec.ofChange extmapSnapsWrong)

/-- 'scarplaw12.ExtmapRanges': WHATEVER THE INPUT: true; the input reads as it did. -/
def extmapRangesSpec : ChangeSpec := { name := "extmapRanges", fn := fun _ => fun
  | [d1, d2, d3] => { results := [.lit (.bool true)], args := [d1, d2, d3] }
  | _ => none }
def extmapRangesRow : OpenClaim := { program := "ytnegbfeokcjclaa", sum := "c5e38a702022cfa89cc964438224c16c9c8a1307641e4121eac82f332775c41e", func := "scarp/scarplaw12.ExtmapRanges", spec := "extmapRanges", unfollowed := true, recurses := true, apart := false }
def ExtmapRangesSaid : Prop := extmapRangesRow.holds Try.pinned (OpenSpec.ofChange extmapRangesSpec)

/-- ITS FALSE NEIGHBOUR: 'it returns false'. Refute it at one input. -/
def extmapRangesWrong : ChangeSpec := { name := "extmapRanges", fn := fun _ => fun
  | [d1, d2, d3] => { results := [.lit (.bool false)], args := [d1, d2, d3] }
  | _ => none }
def ExtmapRangesWrongFalsely : Prop := extmapRangesRow.holds Try.pinned (OpenSpec.ofChange extmapRangesWrong)

/-- 'scarplaw12.ExtmapPrunes': WHATEVER THE INPUT: true; the input reads as it did. -/
def extmapPrunesSpec : ChangeSpec := { name := "extmapPrunes", fn := fun _ => fun
  | [d1, d2, d3] => { results := [.lit (.bool true)], args := [d1, d2, d3] }
  | _ => none }
def extmapPrunesRow : OpenClaim := { program := "ytnegbfeokcjclaa", sum := "c5e38a702022cfa89cc964438224c16c9c8a1307641e4121eac82f332775c41e", func := "scarp/scarplaw12.ExtmapPrunes", spec := "extmapPrunes", unfollowed := true, recurses := true, apart := false }
def ExtmapPrunesSaid : Prop := extmapPrunesRow.holds Try.pinned (OpenSpec.ofChange extmapPrunesSpec)

/-- ITS FALSE NEIGHBOUR: 'it returns false'. Refute it at one input. -/
def extmapPrunesWrong : ChangeSpec := { name := "extmapPrunes", fn := fun _ => fun
  | [d1, d2, d3] => { results := [.lit (.bool false)], args := [d1, d2, d3] }
  | _ => none }
def ExtmapPrunesWrongFalsely : Prop := extmapPrunesRow.holds Try.pinned (OpenSpec.ofChange extmapPrunesWrong)

/-- 'scarplaw12.ExtmapRefused': WHATEVER THE INPUT: true; the input reads as it did. -/
def extmapRefusedSpec : ChangeSpec := { name := "extmapRefused", fn := fun _ => fun
  | [d1, d2, d3] => { results := [.lit (.bool true)], args := [d1, d2, d3] }
  | _ => none }
def extmapRefusedRow : OpenClaim := { program := "ytnegbfeokcjclaa", sum := "c5e38a702022cfa89cc964438224c16c9c8a1307641e4121eac82f332775c41e", func := "scarp/scarplaw12.ExtmapRefused", spec := "extmapRefused", unfollowed := true, recurses := true, apart := false }
def ExtmapRefusedSaid : Prop := extmapRefusedRow.holds Try.pinned (OpenSpec.ofChange extmapRefusedSpec)

/-- ITS FALSE NEIGHBOUR: 'it returns false'. Refute it at one input. -/
def extmapRefusedWrong : ChangeSpec := { name := "extmapRefused", fn := fun _ => fun
  | [d1, d2, d3] => { results := [.lit (.bool false)], args := [d1, d2, d3] }
  | _ => none }
def ExtmapRefusedWrongFalsely : Prop := extmapRefusedRow.holds Try.pinned (OpenSpec.ofChange extmapRefusedWrong)

/-- 'scarplaw12.ExtmapNothing': WHATEVER THE INPUT: true; the input reads as it did. -/
def extmapNothingSpec : ChangeSpec := { name := "extmapNothing", fn := fun _ => fun
  | [d1, d2, d3] => { results := [.lit (.bool true)], args := [d1, d2, d3] }
  | _ => none }
def extmapNothingRow : OpenClaim := { program := "ytnegbfeokcjclaa", sum := "c5e38a702022cfa89cc964438224c16c9c8a1307641e4121eac82f332775c41e", func := "scarp/scarplaw12.ExtmapNothing", spec := "extmapNothing", unfollowed := true, recurses := true, apart := false }
def ExtmapNothingSaid : Prop := extmapNothingRow.holds Try.pinned (OpenSpec.ofChange extmapNothingSpec)

/-- ITS FALSE NEIGHBOUR: 'it returns false'. Refute it at one input. -/
def extmapNothingWrong : ChangeSpec := { name := "extmapNothing", fn := fun _ => fun
  | [d1, d2, d3] => { results := [.lit (.bool false)], args := [d1, d2, d3] }
  | _ => none }
def ExtmapNothingWrongFalsely : Prop := extmapNothingRow.holds Try.pinned (OpenSpec.ofChange extmapNothingWrong)

/-- 'scarplaw13.HorizonPlays': WHATEVER THE INPUT: true; the input reads as it did. -/
def horizonPlaysSpec : ChangeSpec := { name := "horizonPlays", fn := fun _ => fun
  | [d1, d2, d3] => { results := [.lit (.bool true)], args := [d1, d2, d3] }
  | _ => none }
def horizonPlaysRow : OpenClaim := { program := "ytnegbfeokcjclaa", sum := "c5e38a702022cfa89cc964438224c16c9c8a1307641e4121eac82f332775c41e", func := "scarp/scarplaw13.HorizonPlays", spec := "horizonPlays", unfollowed := true, recurses := true, apart := false }
def HorizonPlaysSaid : Prop := horizonPlaysRow.holds Try.pinned (OpenSpec.ofChange horizonPlaysSpec)

/-- ITS FALSE NEIGHBOUR: 'it returns false'. Refute it at one input. -/
def horizonPlaysWrong : ChangeSpec := { name := "horizonPlays", fn := fun _ => fun
  | [d1, d2, d3] => { results := [.lit (.bool false)], args := [d1, d2, d3] }
  | _ => none }
def HorizonPlaysWrongFalsely : Prop := horizonPlaysRow.holds Try.pinned (OpenSpec.ofChange horizonPlaysWrong)

/-- 'scarplaw13.HorizonLow': WHATEVER THE INPUT: true; the input reads as it did. -/
def horizonLowSpec : ChangeSpec := { name := "horizonLow", fn := fun _ => fun
  | [d1, d2, d3] => { results := [.lit (.bool true)], args := [d1, d2, d3] }
  | _ => none }
def horizonLowRow : OpenClaim := { program := "ytnegbfeokcjclaa", sum := "c5e38a702022cfa89cc964438224c16c9c8a1307641e4121eac82f332775c41e", func := "scarp/scarplaw13.HorizonLow", spec := "horizonLow", unfollowed := true, recurses := true, apart := false }
def HorizonLowSaid : Prop := horizonLowRow.holds Try.pinned (OpenSpec.ofChange horizonLowSpec)

/-- ITS FALSE NEIGHBOUR: 'it returns false'. Refute it at one input. -/
def horizonLowWrong : ChangeSpec := { name := "horizonLow", fn := fun _ => fun
  | [d1, d2, d3] => { results := [.lit (.bool false)], args := [d1, d2, d3] }
  | _ => none }
def HorizonLowWrongFalsely : Prop := horizonLowRow.holds Try.pinned (OpenSpec.ofChange horizonLowWrong)

/-- 'scarplaw13.HorizonNothing': WHATEVER THE INPUT: true; the input reads as it did. -/
def horizonNothingSpec : ChangeSpec := { name := "horizonNothing", fn := fun _ => fun
  | [d1, d2] => { results := [.lit (.bool true)], args := [d1, d2] }
  | _ => none }
def horizonNothingRow : OpenClaim := { program := "ytnegbfeokcjclaa", sum := "c5e38a702022cfa89cc964438224c16c9c8a1307641e4121eac82f332775c41e", func := "scarp/scarplaw13.HorizonNothing", spec := "horizonNothing", unfollowed := true, recurses := true, apart := false }
def HorizonNothingSaid : Prop := horizonNothingRow.holds Try.pinned (OpenSpec.ofChange horizonNothingSpec)

/-- ITS FALSE NEIGHBOUR: 'it returns false'. Refute it at one input. -/
def horizonNothingWrong : ChangeSpec := { name := "horizonNothing", fn := fun _ => fun
  | [d1, d2] => { results := [.lit (.bool false)], args := [d1, d2] }
  | _ => none }
def HorizonNothingWrongFalsely : Prop := horizonNothingRow.holds Try.pinned (OpenSpec.ofChange horizonNothingWrong)

/-- 'scarplaw13.HorizonOnce': WHATEVER THE INPUT: true; the input reads as it did. -/
def horizonOnceSpec : ChangeSpec := { name := "horizonOnce", fn := fun _ => fun
  | [d1, d2] => { results := [.lit (.bool true)], args := [d1, d2] }
  | _ => none }
def horizonOnceRow : OpenClaim := { program := "ytnegbfeokcjclaa", sum := "c5e38a702022cfa89cc964438224c16c9c8a1307641e4121eac82f332775c41e", func := "scarp/scarplaw13.HorizonOnce", spec := "horizonOnce", unfollowed := true, recurses := true, apart := false }
def HorizonOnceSaid : Prop := horizonOnceRow.holds Try.pinned (OpenSpec.ofChange horizonOnceSpec)

/-- ITS FALSE NEIGHBOUR: 'it returns false'. Refute it at one input. -/
def horizonOnceWrong : ChangeSpec := { name := "horizonOnce", fn := fun _ => fun
  | [d1, d2] => { results := [.lit (.bool false)], args := [d1, d2] }
  | _ => none }
def HorizonOnceWrongFalsely : Prop := horizonOnceRow.holds Try.pinned (OpenSpec.ofChange horizonOnceWrong)

/-- 'scarplaw13.HorizonRoom': WHATEVER THE INPUT: true; the input reads as it did. -/
def horizonRoomSpec : ChangeSpec := { name := "horizonRoom", fn := fun _ => fun
  | [d1, d2, d3] => { results := [.lit (.bool true)], args := [d1, d2, d3] }
  | _ => none }
def horizonRoomRow : OpenClaim := { program := "ytnegbfeokcjclaa", sum := "c5e38a702022cfa89cc964438224c16c9c8a1307641e4121eac82f332775c41e", func := "scarp/scarplaw13.HorizonRoom", spec := "horizonRoom", unfollowed := true, recurses := true, apart := false }
def HorizonRoomSaid : Prop := horizonRoomRow.holds Try.pinned (OpenSpec.ofChange horizonRoomSpec)

/-- ITS FALSE NEIGHBOUR: 'it returns false'. Refute it at one input. -/
def horizonRoomWrong : ChangeSpec := { name := "horizonRoom", fn := fun _ => fun
  | [d1, d2, d3] => { results := [.lit (.bool false)], args := [d1, d2, d3] }
  | _ => none }
def HorizonRoomWrongFalsely : Prop := horizonRoomRow.holds Try.pinned (OpenSpec.ofChange horizonRoomWrong)

/- THE SECOND FORM. 'bulk': how many values and letters a reading holds, each counted each time it is reached (what is shared counts as often as it is met; a slice's spare places count too). A statement '..UptoSaid' is the law's where the arguments, and the package variables that the reading takes, are together of bulk at most 1048576: NARROWER than '..Said'. Prove '..Said' where nothing that the law and all that it calls make is longer than what came in: it says more and counts as full. Else prove '..UptoSaid'. A law counts once. -/
mutual
def uptoBulk {H : Type} : DataW H → Nat
  | .lit (.string bytes) => bytes.length + 1
  | .lit _ => 1
  | .nil => 1
  | .ptr d => uptoBulk d + 1
  | .slice elems spare => uptoBulkAll elems + uptoBulkAll spare + 1
  | .agg parts => uptoBulkAll parts + 1
  | .iface _ d => uptoBulk d + 1
  | .map entries => uptoBulkEntries entries + 1
  | .held _ => 1
def uptoBulkAll {H : Type} : List (DataW H) → Nat
  | [] => 0
  | d :: r => uptoBulk d + uptoBulkAll r
def uptoBulkEntries {H : Type} : List (Lit × DataW H) → Nat
  | [] => 0
  | x :: r => uptoBulkEntry x + uptoBulkEntries r
def uptoBulkEntry {H : Type} : Lit × DataW H → Nat
  | (.string bytes, d) => bytes.length + uptoBulk d + 1
  | (_, d) => uptoBulk d + 1
 end
def uptoSmall : (H : Type) → List (DataW H) → Bool := fun _ ds => decide (uptoBulkAll ds ≤ 1048576)
def OpenSpec.upto (s : _root_.Go.ChangeSpec) : _root_.Go.OpenSpec := { _root_.Go.OpenSpec.ofChange s with cond := some uptoSmall }

/-- 'scarplaw12.ExtmapSnaps', WHERE WHAT IT READS IS OF BULK AT MOST 1048576: true; the input reads as it did. -/
def extmapSnapsUptoRow : OpenClaim := { program := "ytnegbfeokcjclaa", sum := "c5e38a702022cfa89cc964438224c16c9c8a1307641e4121eac82f332775c41e", func := "scarp/scarplaw12.ExtmapSnaps", spec := "extmapSnaps", unfollowed := true, recurses := true, apart := false, narrowed := true }
def ExtmapSnapsUptoSaid : Prop := extmapSnapsUptoRow.holds Try.pinned (OpenSpec.upto extmapSnapsSpec)

/-- 'scarplaw12.ExtmapRanges', WHERE WHAT IT READS IS OF BULK AT MOST 1048576: true; the input reads as it did. -/
def extmapRangesUptoRow : OpenClaim := { program := "ytnegbfeokcjclaa", sum := "c5e38a702022cfa89cc964438224c16c9c8a1307641e4121eac82f332775c41e", func := "scarp/scarplaw12.ExtmapRanges", spec := "extmapRanges", unfollowed := true, recurses := true, apart := false, narrowed := true }
def ExtmapRangesUptoSaid : Prop := extmapRangesUptoRow.holds Try.pinned (OpenSpec.upto extmapRangesSpec)

/-- 'scarplaw12.ExtmapPrunes', WHERE WHAT IT READS IS OF BULK AT MOST 1048576: true; the input reads as it did. -/
def extmapPrunesUptoRow : OpenClaim := { program := "ytnegbfeokcjclaa", sum := "c5e38a702022cfa89cc964438224c16c9c8a1307641e4121eac82f332775c41e", func := "scarp/scarplaw12.ExtmapPrunes", spec := "extmapPrunes", unfollowed := true, recurses := true, apart := false, narrowed := true }
def ExtmapPrunesUptoSaid : Prop := extmapPrunesUptoRow.holds Try.pinned (OpenSpec.upto extmapPrunesSpec)

/-- 'scarplaw12.ExtmapRefused', WHERE WHAT IT READS IS OF BULK AT MOST 1048576: true; the input reads as it did. -/
def extmapRefusedUptoRow : OpenClaim := { program := "ytnegbfeokcjclaa", sum := "c5e38a702022cfa89cc964438224c16c9c8a1307641e4121eac82f332775c41e", func := "scarp/scarplaw12.ExtmapRefused", spec := "extmapRefused", unfollowed := true, recurses := true, apart := false, narrowed := true }
def ExtmapRefusedUptoSaid : Prop := extmapRefusedUptoRow.holds Try.pinned (OpenSpec.upto extmapRefusedSpec)

/-- 'scarplaw12.ExtmapNothing', WHERE WHAT IT READS IS OF BULK AT MOST 1048576: true; the input reads as it did. -/
def extmapNothingUptoRow : OpenClaim := { program := "ytnegbfeokcjclaa", sum := "c5e38a702022cfa89cc964438224c16c9c8a1307641e4121eac82f332775c41e", func := "scarp/scarplaw12.ExtmapNothing", spec := "extmapNothing", unfollowed := true, recurses := true, apart := false, narrowed := true }
def ExtmapNothingUptoSaid : Prop := extmapNothingUptoRow.holds Try.pinned (OpenSpec.upto extmapNothingSpec)

/-- 'scarplaw13.HorizonPlays', WHERE WHAT IT READS IS OF BULK AT MOST 1048576: true; the input reads as it did. -/
def horizonPlaysUptoRow : OpenClaim := { program := "ytnegbfeokcjclaa", sum := "c5e38a702022cfa89cc964438224c16c9c8a1307641e4121eac82f332775c41e", func := "scarp/scarplaw13.HorizonPlays", spec := "horizonPlays", unfollowed := true, recurses := true, apart := false, narrowed := true }
def HorizonPlaysUptoSaid : Prop := horizonPlaysUptoRow.holds Try.pinned (OpenSpec.upto horizonPlaysSpec)

/-- 'scarplaw13.HorizonLow', WHERE WHAT IT READS IS OF BULK AT MOST 1048576: true; the input reads as it did. -/
def horizonLowUptoRow : OpenClaim := { program := "ytnegbfeokcjclaa", sum := "c5e38a702022cfa89cc964438224c16c9c8a1307641e4121eac82f332775c41e", func := "scarp/scarplaw13.HorizonLow", spec := "horizonLow", unfollowed := true, recurses := true, apart := false, narrowed := true }
def HorizonLowUptoSaid : Prop := horizonLowUptoRow.holds Try.pinned (OpenSpec.upto horizonLowSpec)

/-- 'scarplaw13.HorizonNothing', WHERE WHAT IT READS IS OF BULK AT MOST 1048576: true; the input reads as it did. -/
def horizonNothingUptoRow : OpenClaim := { program := "ytnegbfeokcjclaa", sum := "c5e38a702022cfa89cc964438224c16c9c8a1307641e4121eac82f332775c41e", func := "scarp/scarplaw13.HorizonNothing", spec := "horizonNothing", unfollowed := true, recurses := true, apart := false, narrowed := true }
def HorizonNothingUptoSaid : Prop := horizonNothingUptoRow.holds Try.pinned (OpenSpec.upto horizonNothingSpec)

/-- 'scarplaw13.HorizonOnce', WHERE WHAT IT READS IS OF BULK AT MOST 1048576: true; the input reads as it did. -/
def horizonOnceUptoRow : OpenClaim := { program := "ytnegbfeokcjclaa", sum := "c5e38a702022cfa89cc964438224c16c9c8a1307641e4121eac82f332775c41e", func := "scarp/scarplaw13.HorizonOnce", spec := "horizonOnce", unfollowed := true, recurses := true, apart := false, narrowed := true }
def HorizonOnceUptoSaid : Prop := horizonOnceUptoRow.holds Try.pinned (OpenSpec.upto horizonOnceSpec)

/-- 'scarplaw13.HorizonRoom', WHERE WHAT IT READS IS OF BULK AT MOST 1048576: true; the input reads as it did. -/
def horizonRoomUptoRow : OpenClaim := { program := "ytnegbfeokcjclaa", sum := "c5e38a702022cfa89cc964438224c16c9c8a1307641e4121eac82f332775c41e", func := "scarp/scarplaw13.HorizonRoom", spec := "horizonRoom", unfollowed := true, recurses := true, apart := false, narrowed := true }
def HorizonRoomUptoSaid : Prop := horizonRoomUptoRow.holds Try.pinned (OpenSpec.upto horizonRoomSpec)

end Rows
end Go.Proofs.Ytnegbfeokcjclaa
