/-
  No cell of these rows narrows 'for every input' (looked for: loops, veiled, ifaces, maps, wideKeys, modest, calm, conditions, laid).
  DERIVED. THE GIVEN ROWS OF THIS SEAT. 14 by the template 'for every input the law returns true; each argument reads behind the call as it read before'; 0 by the template 'total and deterministic' (their statements: YtajjadoalfjnkaaGreatTotals.lean).
  GIVEN WITH THE SEED: the statements are not yours to turn. If you find one false, say at which input.
  Laid BY PROGRAM, IN A SANDBOX (cutbox-rows.mjs): the forced cells as the released guide's own fill.sh prints them over the translation d6186e5fc2bd098e… (all of the seat's roots in one cut). By AI agents, Wed Nov 11 2026. No macro, syntax, notation, axiom, sorry.
-/
import Derived.Test.YtajjadoalfjnkaaGreatChecked
import GoSem.Claim
import GoSem.ClaimJoined
import GoSem.ClaimMapViews
import Derived.JoinedTies
import Derived.KernelRfl
namespace Go.Proofs.YtajjadoalfjnkaaGreat
/- THE CELL 'sum', in the pinned program and in every row, IS THE sha256 OF THE DUMP (.gsa) THAT YtajjadoalfjnkaaGreatProg.lean LOADS. Nothing in Lean hashes anything: it is a label: what it is worth is what the hold of that sum in a sandbox is worth. -/
noncomputable def Tryz.pinned : Pinned := { name := "ytajjadoalfjnkaagreat", sum := "d6186e5fc2bd098e9c2944b335127332bdb5aa2048ddb071104113c96ec610af", checked := Tryz.checked }
namespace Rows
def none {H : Type} : Left H := { results := [], args := [] }

/-- 'scarplaw23.TxnTimes': WHATEVER THE INPUT: true; the input reads as it did. -/
def txnTimesSpec : ChangeSpec := { name := "txnTimes", fn := fun _ => fun
  | [d1, d2] => { results := [.lit (.bool true)], args := [d1, d2] }
  | _ => none }
def txnTimesRow : OpenClaim := { program := "ytajjadoalfjnkaagreat", sum := "d6186e5fc2bd098e9c2944b335127332bdb5aa2048ddb071104113c96ec610af", func := "scarp/scarplaw23.TxnTimes", spec := "txnTimes", unfollowed := true, recurses := true, apart := false }
def TxnTimesSaid : Prop := txnTimesRow.holds Tryz.pinned (OpenSpec.ofChange txnTimesSpec)

/-- ITS FALSE NEIGHBOUR: 'it returns false'. Refute it at one input. -/
def txnTimesWrong : ChangeSpec := { name := "txnTimes", fn := fun _ => fun
  | [d1, d2] => { results := [.lit (.bool false)], args := [d1, d2] }
  | _ => none }
def TxnTimesWrongFalsely : Prop := txnTimesRow.holds Tryz.pinned (OpenSpec.ofChange txnTimesWrong)

/-- 'scarplaw23.TxnMany': WHATEVER THE INPUT: true; the input reads as it did. -/
def txnManySpec : ChangeSpec := { name := "txnMany", fn := fun _ => fun
  | [d1, d2] => { results := [.lit (.bool true)], args := [d1, d2] }
  | _ => none }
def txnManyRow : OpenClaim := { program := "ytajjadoalfjnkaagreat", sum := "d6186e5fc2bd098e9c2944b335127332bdb5aa2048ddb071104113c96ec610af", func := "scarp/scarplaw23.TxnMany", spec := "txnMany", unfollowed := true, recurses := true, apart := false }
def TxnManySaid : Prop := txnManyRow.holds Tryz.pinned (OpenSpec.ofChange txnManySpec)

/-- ITS FALSE NEIGHBOUR: 'it returns false'. Refute it at one input. -/
def txnManyWrong : ChangeSpec := { name := "txnMany", fn := fun _ => fun
  | [d1, d2] => { results := [.lit (.bool false)], args := [d1, d2] }
  | _ => none }
def TxnManyWrongFalsely : Prop := txnManyRow.holds Tryz.pinned (OpenSpec.ofChange txnManyWrong)

/-- 'scarplaw23.TxnFails': WHATEVER THE INPUT: true; the input reads as it did. -/
def txnFailsSpec : ChangeSpec := { name := "txnFails", fn := fun _ => fun
  | [d1, d2] => { results := [.lit (.bool true)], args := [d1, d2] }
  | _ => none }
def txnFailsRow : OpenClaim := { program := "ytajjadoalfjnkaagreat", sum := "d6186e5fc2bd098e9c2944b335127332bdb5aa2048ddb071104113c96ec610af", func := "scarp/scarplaw23.TxnFails", spec := "txnFails", unfollowed := true, recurses := true, apart := false }
def TxnFailsSaid : Prop := txnFailsRow.holds Tryz.pinned (OpenSpec.ofChange txnFailsSpec)

/-- ITS FALSE NEIGHBOUR: 'it returns false'. Refute it at one input. -/
def txnFailsWrong : ChangeSpec := { name := "txnFails", fn := fun _ => fun
  | [d1, d2] => { results := [.lit (.bool false)], args := [d1, d2] }
  | _ => none }
def TxnFailsWrongFalsely : Prop := txnFailsRow.holds Tryz.pinned (OpenSpec.ofChange txnFailsWrong)

/-- 'scarplaw23.TxnNothing': WHATEVER THE INPUT: true; the input reads as it did. -/
def txnNothingSpec : ChangeSpec := { name := "txnNothing", fn := fun _ => fun
  | [d] => { results := [.lit (.bool true)], args := [d] }
  | _ => none }
def txnNothingRow : OpenClaim := { program := "ytajjadoalfjnkaagreat", sum := "d6186e5fc2bd098e9c2944b335127332bdb5aa2048ddb071104113c96ec610af", func := "scarp/scarplaw23.TxnNothing", spec := "txnNothing", unfollowed := true, recurses := true, apart := false }
def TxnNothingSaid : Prop := txnNothingRow.holds Tryz.pinned (OpenSpec.ofChange txnNothingSpec)

/-- ITS FALSE NEIGHBOUR: 'it returns false'. Refute it at one input. -/
def txnNothingWrong : ChangeSpec := { name := "txnNothing", fn := fun _ => fun
  | [d] => { results := [.lit (.bool false)], args := [d] }
  | _ => none }
def TxnNothingWrongFalsely : Prop := txnNothingRow.holds Tryz.pinned (OpenSpec.ofChange txnNothingWrong)

/-- 'scarplaw23.TxnReadOnly': WHATEVER THE INPUT: true; the input reads as it did. -/
def txnReadOnlySpec : ChangeSpec := { name := "txnReadOnly", fn := fun _ => fun
  | [d1, d2] => { results := [.lit (.bool true)], args := [d1, d2] }
  | _ => none }
def txnReadOnlyRow : OpenClaim := { program := "ytajjadoalfjnkaagreat", sum := "d6186e5fc2bd098e9c2944b335127332bdb5aa2048ddb071104113c96ec610af", func := "scarp/scarplaw23.TxnReadOnly", spec := "txnReadOnly", unfollowed := true, recurses := true, apart := false }
def TxnReadOnlySaid : Prop := txnReadOnlyRow.holds Tryz.pinned (OpenSpec.ofChange txnReadOnlySpec)

/-- ITS FALSE NEIGHBOUR: 'it returns false'. Refute it at one input. -/
def txnReadOnlyWrong : ChangeSpec := { name := "txnReadOnly", fn := fun _ => fun
  | [d1, d2] => { results := [.lit (.bool false)], args := [d1, d2] }
  | _ => none }
def TxnReadOnlyWrongFalsely : Prop := txnReadOnlyRow.holds Tryz.pinned (OpenSpec.ofChange txnReadOnlyWrong)

/-- 'scarplaw23.TxnClash': WHATEVER THE INPUT: true; the input reads as it did. -/
def txnClashSpec : ChangeSpec := { name := "txnClash", fn := fun _ => fun
  | [d1, d2, d3, d4, d5] => { results := [.lit (.bool true)], args := [d1, d2, d3, d4, d5] }
  | _ => none }
def txnClashRow : OpenClaim := { program := "ytajjadoalfjnkaagreat", sum := "d6186e5fc2bd098e9c2944b335127332bdb5aa2048ddb071104113c96ec610af", func := "scarp/scarplaw23.TxnClash", spec := "txnClash", unfollowed := true, recurses := true, apart := false }
def TxnClashSaid : Prop := txnClashRow.holds Tryz.pinned (OpenSpec.ofChange txnClashSpec)

/-- ITS FALSE NEIGHBOUR: 'it returns false'. Refute it at one input. -/
def txnClashWrong : ChangeSpec := { name := "txnClash", fn := fun _ => fun
  | [d1, d2, d3, d4, d5] => { results := [.lit (.bool false)], args := [d1, d2, d3, d4, d5] }
  | _ => none }
def TxnClashWrongFalsely : Prop := txnClashRow.holds Tryz.pinned (OpenSpec.ofChange txnClashWrong)

/-- 'scarplaw23.TxnOwn': WHATEVER THE INPUT: true; the input reads as it did. -/
def txnOwnSpec : ChangeSpec := { name := "txnOwn", fn := fun _ => fun
  | [d1, d2, d3] => { results := [.lit (.bool true)], args := [d1, d2, d3] }
  | _ => none }
def txnOwnRow : OpenClaim := { program := "ytajjadoalfjnkaagreat", sum := "d6186e5fc2bd098e9c2944b335127332bdb5aa2048ddb071104113c96ec610af", func := "scarp/scarplaw23.TxnOwn", spec := "txnOwn", unfollowed := true, recurses := true, apart := false }
def TxnOwnSaid : Prop := txnOwnRow.holds Tryz.pinned (OpenSpec.ofChange txnOwnSpec)

/-- ITS FALSE NEIGHBOUR: 'it returns false'. Refute it at one input. -/
def txnOwnWrong : ChangeSpec := { name := "txnOwn", fn := fun _ => fun
  | [d1, d2, d3] => { results := [.lit (.bool false)], args := [d1, d2, d3] }
  | _ => none }
def TxnOwnWrongFalsely : Prop := txnOwnRow.holds Tryz.pinned (OpenSpec.ofChange txnOwnWrong)

/-- 'scarplaw23.TxnLoads': WHATEVER THE INPUT: true; the input reads as it did. -/
def txnLoadsSpec : ChangeSpec := { name := "txnLoads", fn := fun _ => fun
  | [d1, d2, d3] => { results := [.lit (.bool true)], args := [d1, d2, d3] }
  | _ => none }
def txnLoadsRow : OpenClaim := { program := "ytajjadoalfjnkaagreat", sum := "d6186e5fc2bd098e9c2944b335127332bdb5aa2048ddb071104113c96ec610af", func := "scarp/scarplaw23.TxnLoads", spec := "txnLoads", unfollowed := true, recurses := true, apart := false }
def TxnLoadsSaid : Prop := txnLoadsRow.holds Tryz.pinned (OpenSpec.ofChange txnLoadsSpec)

/-- ITS FALSE NEIGHBOUR: 'it returns false'. Refute it at one input. -/
def txnLoadsWrong : ChangeSpec := { name := "txnLoads", fn := fun _ => fun
  | [d1, d2, d3] => { results := [.lit (.bool false)], args := [d1, d2, d3] }
  | _ => none }
def TxnLoadsWrongFalsely : Prop := txnLoadsRow.holds Tryz.pinned (OpenSpec.ofChange txnLoadsWrong)

/-- 'scarplaw23.TxnSnaps': WHATEVER THE INPUT: true; the input reads as it did. -/
def txnSnapsSpec : ChangeSpec := { name := "txnSnaps", fn := fun _ => fun
  | [d] => { results := [.lit (.bool true)], args := [d] }
  | _ => none }
def txnSnapsRow : OpenClaim := { program := "ytajjadoalfjnkaagreat", sum := "d6186e5fc2bd098e9c2944b335127332bdb5aa2048ddb071104113c96ec610af", func := "scarp/scarplaw23.TxnSnaps", spec := "txnSnaps", unfollowed := true, recurses := true, apart := false }
def TxnSnapsSaid : Prop := txnSnapsRow.holds Tryz.pinned (OpenSpec.ofChange txnSnapsSpec)

/-- ITS FALSE NEIGHBOUR: 'it returns false'. Refute it at one input. -/
def txnSnapsWrong : ChangeSpec := { name := "txnSnaps", fn := fun _ => fun
  | [d] => { results := [.lit (.bool false)], args := [d] }
  | _ => none }
def TxnSnapsWrongFalsely : Prop := txnSnapsRow.holds Tryz.pinned (OpenSpec.ofChange txnSnapsWrong)

/-- 'scarplaw23.TxnKeeps': WHATEVER THE INPUT: true; the input reads as it did. -/
def txnKeepsSpec : ChangeSpec := { name := "txnKeeps", fn := fun _ => fun
  | [d1, d2] => { results := [.lit (.bool true)], args := [d1, d2] }
  | _ => none }
def txnKeepsRow : OpenClaim := { program := "ytajjadoalfjnkaagreat", sum := "d6186e5fc2bd098e9c2944b335127332bdb5aa2048ddb071104113c96ec610af", func := "scarp/scarplaw23.TxnKeeps", spec := "txnKeeps", unfollowed := true, recurses := true, apart := false }
def TxnKeepsSaid : Prop := txnKeepsRow.holds Tryz.pinned (OpenSpec.ofChange txnKeepsSpec)

/-- ITS FALSE NEIGHBOUR: 'it returns false'. Refute it at one input. -/
def txnKeepsWrong : ChangeSpec := { name := "txnKeeps", fn := fun _ => fun
  | [d1, d2] => { results := [.lit (.bool false)], args := [d1, d2] }
  | _ => none }
def TxnKeepsWrongFalsely : Prop := txnKeepsRow.holds Tryz.pinned (OpenSpec.ofChange txnKeepsWrong)

/-- 'scarplaw23.TxnReaders': WHATEVER THE INPUT: true; the input reads as it did. -/
def txnReadersSpec : ChangeSpec := { name := "txnReaders", fn := fun _ => fun
  | [d1, d2] => { results := [.lit (.bool true)], args := [d1, d2] }
  | _ => none }
def txnReadersRow : OpenClaim := { program := "ytajjadoalfjnkaagreat", sum := "d6186e5fc2bd098e9c2944b335127332bdb5aa2048ddb071104113c96ec610af", func := "scarp/scarplaw23.TxnReaders", spec := "txnReaders", unfollowed := true, recurses := true, apart := false }
def TxnReadersSaid : Prop := txnReadersRow.holds Tryz.pinned (OpenSpec.ofChange txnReadersSpec)

/-- ITS FALSE NEIGHBOUR: 'it returns false'. Refute it at one input. -/
def txnReadersWrong : ChangeSpec := { name := "txnReaders", fn := fun _ => fun
  | [d1, d2] => { results := [.lit (.bool false)], args := [d1, d2] }
  | _ => none }
def TxnReadersWrongFalsely : Prop := txnReadersRow.holds Tryz.pinned (OpenSpec.ofChange txnReadersWrong)

/-- 'scarplaw23.TxnPrunes': WHATEVER THE INPUT: true; the input reads as it did. -/
def txnPrunesSpec : ChangeSpec := { name := "txnPrunes", fn := fun _ => fun
  | [d1, d2] => { results := [.lit (.bool true)], args := [d1, d2] }
  | _ => none }
def txnPrunesRow : OpenClaim := { program := "ytajjadoalfjnkaagreat", sum := "d6186e5fc2bd098e9c2944b335127332bdb5aa2048ddb071104113c96ec610af", func := "scarp/scarplaw23.TxnPrunes", spec := "txnPrunes", unfollowed := true, recurses := true, apart := false }
def TxnPrunesSaid : Prop := txnPrunesRow.holds Tryz.pinned (OpenSpec.ofChange txnPrunesSpec)

/-- ITS FALSE NEIGHBOUR: 'it returns false'. Refute it at one input. -/
def txnPrunesWrong : ChangeSpec := { name := "txnPrunes", fn := fun _ => fun
  | [d1, d2] => { results := [.lit (.bool false)], args := [d1, d2] }
  | _ => none }
def TxnPrunesWrongFalsely : Prop := txnPrunesRow.holds Tryz.pinned (OpenSpec.ofChange txnPrunesWrong)

/-- 'scarplaw23.TxnReplay': WHATEVER THE INPUT: true; the input reads as it did. -/
def txnReplaySpec : ChangeSpec := { name := "txnReplay", fn := fun _ => fun
  | [d] => { results := [.lit (.bool true)], args := [d] }
  | _ => none }
def txnReplayRow : OpenClaim := { program := "ytajjadoalfjnkaagreat", sum := "d6186e5fc2bd098e9c2944b335127332bdb5aa2048ddb071104113c96ec610af", func := "scarp/scarplaw23.TxnReplay", spec := "txnReplay", unfollowed := true, recurses := true, apart := false }
def TxnReplaySaid : Prop := txnReplayRow.holds Tryz.pinned (OpenSpec.ofChange txnReplaySpec)

/-- ITS FALSE NEIGHBOUR: 'it returns false'. Refute it at one input. -/
def txnReplayWrong : ChangeSpec := { name := "txnReplay", fn := fun _ => fun
  | [d] => { results := [.lit (.bool false)], args := [d] }
  | _ => none }
def TxnReplayWrongFalsely : Prop := txnReplayRow.holds Tryz.pinned (OpenSpec.ofChange txnReplayWrong)

/-- 'scarplaw23.TxnPlays': WHATEVER THE INPUT: true; the input reads as it did. -/
def txnPlaysSpec : ChangeSpec := { name := "txnPlays", fn := fun _ => fun
  | [d1, d2, d3, d4] => { results := [.lit (.bool true)], args := [d1, d2, d3, d4] }
  | _ => none }
def txnPlaysRow : OpenClaim := { program := "ytajjadoalfjnkaagreat", sum := "d6186e5fc2bd098e9c2944b335127332bdb5aa2048ddb071104113c96ec610af", func := "scarp/scarplaw23.TxnPlays", spec := "txnPlays", unfollowed := true, recurses := true, apart := false }
def TxnPlaysSaid : Prop := txnPlaysRow.holds Tryz.pinned (OpenSpec.ofChange txnPlaysSpec)

/-- ITS FALSE NEIGHBOUR: 'it returns false'. Refute it at one input. -/
def txnPlaysWrong : ChangeSpec := { name := "txnPlays", fn := fun _ => fun
  | [d1, d2, d3, d4] => { results := [.lit (.bool false)], args := [d1, d2, d3, d4] }
  | _ => none }
def TxnPlaysWrongFalsely : Prop := txnPlaysRow.holds Tryz.pinned (OpenSpec.ofChange txnPlaysWrong)

/- THE SECOND FORM. 'bulk': how many values and letters a reading holds, each counted each time it is reached (what is shared counts as often as it is met; a slice's spare places count too). A statement '..UptoSaid' is the law's where the arguments, and the package variables that the reading takes, are together of bulk at most 1048576: NARROWER than '..Said'. Prove '..Said' where nothing that the law and all that it calls make is longer than what came in: it says more and counts as full. Else prove '..UptoSaid'. A law counts once. -/
mutual
def uptoBulk {H : Type} : DataW H → Nat
  | .lit (.string bytes) => bytes.length + 1
  | .lit _ => 1
  | .nil => 1
  | .ptr d => uptoBulk d + 1
  | .slice elems spare => uptoBulkAll elems + uptoBulkAll spare + 1
  | .agg parts => uptoBulkAll parts + 1
  | .iface _ d => uptoBulk d + 1
  | .map entries => uptoBulkEntries entries + 1
  | .held _ => 1
def uptoBulkAll {H : Type} : List (DataW H) → Nat
  | [] => 0
  | d :: r => uptoBulk d + uptoBulkAll r
def uptoBulkEntries {H : Type} : List (Lit × DataW H) → Nat
  | [] => 0
  | x :: r => uptoBulkEntry x + uptoBulkEntries r
def uptoBulkEntry {H : Type} : Lit × DataW H → Nat
  | (.string bytes, d) => bytes.length + uptoBulk d + 1
  | (_, d) => uptoBulk d + 1
 end
def uptoSmall : (H : Type) → List (DataW H) → Bool := fun _ ds => decide (uptoBulkAll ds ≤ 1048576)
def OpenSpec.upto (s : _root_.Go.ChangeSpec) : _root_.Go.OpenSpec := { _root_.Go.OpenSpec.ofChange s with cond := some uptoSmall }

/-- 'scarplaw23.TxnTimes', WHERE WHAT IT READS IS OF BULK AT MOST 1048576: true; the input reads as it did. -/
def txnTimesUptoRow : OpenClaim := { program := "ytajjadoalfjnkaagreat", sum := "d6186e5fc2bd098e9c2944b335127332bdb5aa2048ddb071104113c96ec610af", func := "scarp/scarplaw23.TxnTimes", spec := "txnTimes", unfollowed := true, recurses := true, apart := false, narrowed := true }
def TxnTimesUptoSaid : Prop := txnTimesUptoRow.holds Tryz.pinned (OpenSpec.upto txnTimesSpec)

/-- 'scarplaw23.TxnMany', WHERE WHAT IT READS IS OF BULK AT MOST 1048576: true; the input reads as it did. -/
def txnManyUptoRow : OpenClaim := { program := "ytajjadoalfjnkaagreat", sum := "d6186e5fc2bd098e9c2944b335127332bdb5aa2048ddb071104113c96ec610af", func := "scarp/scarplaw23.TxnMany", spec := "txnMany", unfollowed := true, recurses := true, apart := false, narrowed := true }
def TxnManyUptoSaid : Prop := txnManyUptoRow.holds Tryz.pinned (OpenSpec.upto txnManySpec)

/-- 'scarplaw23.TxnFails', WHERE WHAT IT READS IS OF BULK AT MOST 1048576: true; the input reads as it did. -/
def txnFailsUptoRow : OpenClaim := { program := "ytajjadoalfjnkaagreat", sum := "d6186e5fc2bd098e9c2944b335127332bdb5aa2048ddb071104113c96ec610af", func := "scarp/scarplaw23.TxnFails", spec := "txnFails", unfollowed := true, recurses := true, apart := false, narrowed := true }
def TxnFailsUptoSaid : Prop := txnFailsUptoRow.holds Tryz.pinned (OpenSpec.upto txnFailsSpec)

/-- 'scarplaw23.TxnNothing', WHERE WHAT IT READS IS OF BULK AT MOST 1048576: true; the input reads as it did. -/
def txnNothingUptoRow : OpenClaim := { program := "ytajjadoalfjnkaagreat", sum := "d6186e5fc2bd098e9c2944b335127332bdb5aa2048ddb071104113c96ec610af", func := "scarp/scarplaw23.TxnNothing", spec := "txnNothing", unfollowed := true, recurses := true, apart := false, narrowed := true }
def TxnNothingUptoSaid : Prop := txnNothingUptoRow.holds Tryz.pinned (OpenSpec.upto txnNothingSpec)

/-- 'scarplaw23.TxnReadOnly', WHERE WHAT IT READS IS OF BULK AT MOST 1048576: true; the input reads as it did. -/
def txnReadOnlyUptoRow : OpenClaim := { program := "ytajjadoalfjnkaagreat", sum := "d6186e5fc2bd098e9c2944b335127332bdb5aa2048ddb071104113c96ec610af", func := "scarp/scarplaw23.TxnReadOnly", spec := "txnReadOnly", unfollowed := true, recurses := true, apart := false, narrowed := true }
def TxnReadOnlyUptoSaid : Prop := txnReadOnlyUptoRow.holds Tryz.pinned (OpenSpec.upto txnReadOnlySpec)

/-- 'scarplaw23.TxnClash', WHERE WHAT IT READS IS OF BULK AT MOST 1048576: true; the input reads as it did. -/
def txnClashUptoRow : OpenClaim := { program := "ytajjadoalfjnkaagreat", sum := "d6186e5fc2bd098e9c2944b335127332bdb5aa2048ddb071104113c96ec610af", func := "scarp/scarplaw23.TxnClash", spec := "txnClash", unfollowed := true, recurses := true, apart := false, narrowed := true }
def TxnClashUptoSaid : Prop := txnClashUptoRow.holds Tryz.pinned (OpenSpec.upto txnClashSpec)

/-- 'scarplaw23.TxnOwn', WHERE WHAT IT READS IS OF BULK AT MOST 1048576: true; the input reads as it did. -/
def txnOwnUptoRow : OpenClaim := { program := "ytajjadoalfjnkaagreat", sum := "d6186e5fc2bd098e9c2944b335127332bdb5aa2048ddb071104113c96ec610af", func := "scarp/scarplaw23.TxnOwn", spec := "txnOwn", unfollowed := true, recurses := true, apart := false, narrowed := true }
def TxnOwnUptoSaid : Prop := txnOwnUptoRow.holds Tryz.pinned (OpenSpec.upto txnOwnSpec)

/-- 'scarplaw23.TxnLoads', WHERE WHAT IT READS IS OF BULK AT MOST 1048576: true; the input reads as it did. -/
def txnLoadsUptoRow : OpenClaim := { program := "ytajjadoalfjnkaagreat", sum := "d6186e5fc2bd098e9c2944b335127332bdb5aa2048ddb071104113c96ec610af", func := "scarp/scarplaw23.TxnLoads", spec := "txnLoads", unfollowed := true, recurses := true, apart := false, narrowed := true }
def TxnLoadsUptoSaid : Prop := txnLoadsUptoRow.holds Tryz.pinned (OpenSpec.upto txnLoadsSpec)

/-- 'scarplaw23.TxnSnaps', WHERE WHAT IT READS IS OF BULK AT MOST 1048576: true; the input reads as it did. -/
def txnSnapsUptoRow : OpenClaim := { program := "ytajjadoalfjnkaagreat", sum := "d6186e5fc2bd098e9c2944b335127332bdb5aa2048ddb071104113c96ec610af", func := "scarp/scarplaw23.TxnSnaps", spec := "txnSnaps", unfollowed := true, recurses := true, apart := false, narrowed := true }
def TxnSnapsUptoSaid : Prop := txnSnapsUptoRow.holds Tryz.pinned (OpenSpec.upto txnSnapsSpec)

/-- 'scarplaw23.TxnKeeps', WHERE WHAT IT READS IS OF BULK AT MOST 1048576: true; the input reads as it did. -/
def txnKeepsUptoRow : OpenClaim := { program := "ytajjadoalfjnkaagreat", sum := "d6186e5fc2bd098e9c2944b335127332bdb5aa2048ddb071104113c96ec610af", func := "scarp/scarplaw23.TxnKeeps", spec := "txnKeeps", unfollowed := true, recurses := true, apart := false, narrowed := true }
def TxnKeepsUptoSaid : Prop := txnKeepsUptoRow.holds Tryz.pinned (OpenSpec.upto txnKeepsSpec)

/-- 'scarplaw23.TxnReaders', WHERE WHAT IT READS IS OF BULK AT MOST 1048576: true; the input reads as it did. -/
def txnReadersUptoRow : OpenClaim := { program := "ytajjadoalfjnkaagreat", sum := "d6186e5fc2bd098e9c2944b335127332bdb5aa2048ddb071104113c96ec610af", func := "scarp/scarplaw23.TxnReaders", spec := "txnReaders", unfollowed := true, recurses := true, apart := false, narrowed := true }
def TxnReadersUptoSaid : Prop := txnReadersUptoRow.holds Tryz.pinned (OpenSpec.upto txnReadersSpec)

/-- 'scarplaw23.TxnPrunes', WHERE WHAT IT READS IS OF BULK AT MOST 1048576: true; the input reads as it did. -/
def txnPrunesUptoRow : OpenClaim := { program := "ytajjadoalfjnkaagreat", sum := "d6186e5fc2bd098e9c2944b335127332bdb5aa2048ddb071104113c96ec610af", func := "scarp/scarplaw23.TxnPrunes", spec := "txnPrunes", unfollowed := true, recurses := true, apart := false, narrowed := true }
def TxnPrunesUptoSaid : Prop := txnPrunesUptoRow.holds Tryz.pinned (OpenSpec.upto txnPrunesSpec)

/-- 'scarplaw23.TxnReplay', WHERE WHAT IT READS IS OF BULK AT MOST 1048576: true; the input reads as it did. -/
def txnReplayUptoRow : OpenClaim := { program := "ytajjadoalfjnkaagreat", sum := "d6186e5fc2bd098e9c2944b335127332bdb5aa2048ddb071104113c96ec610af", func := "scarp/scarplaw23.TxnReplay", spec := "txnReplay", unfollowed := true, recurses := true, apart := false, narrowed := true }
def TxnReplayUptoSaid : Prop := txnReplayUptoRow.holds Tryz.pinned (OpenSpec.upto txnReplaySpec)

/-- 'scarplaw23.TxnPlays', WHERE WHAT IT READS IS OF BULK AT MOST 1048576: true; the input reads as it did. -/
def txnPlaysUptoRow : OpenClaim := { program := "ytajjadoalfjnkaagreat", sum := "d6186e5fc2bd098e9c2944b335127332bdb5aa2048ddb071104113c96ec610af", func := "scarp/scarplaw23.TxnPlays", spec := "txnPlays", unfollowed := true, recurses := true, apart := false, narrowed := true }
def TxnPlaysUptoSaid : Prop := txnPlaysUptoRow.holds Tryz.pinned (OpenSpec.upto txnPlaysSpec)

end Rows
end Go.Proofs.YtajjadoalfjnkaaGreat
