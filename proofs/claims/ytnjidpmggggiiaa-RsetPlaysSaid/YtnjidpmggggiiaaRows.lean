/-
  No cell of these rows narrows 'for every input' (looked for: loops, veiled, ifaces, maps, wideKeys, modest, calm, conditions, laid).
  DERIVED. THE GIVEN ROWS OF THIS SEAT. 9 by the template 'for every input the law returns true; each argument reads behind the call as it read before'; 0 by the template 'total and deterministic' (their statements: YtnjidpmggggiiaaTotals.lean).
  GIVEN WITH THE SEED: the statements are not yours to turn. If you find one false, say at which input.
  Laid BY PROGRAM, IN A SANDBOX (cutbox-rows.mjs): the forced cells as the released guide's own fill.sh prints them over the translation 73025771e267fdb1… (all of the seat's roots in one cut). By AI agents, Wed Nov 11 2026. No macro, syntax, notation, axiom, sorry.
-/
import Derived.Test.YtnjidpmggggiiaaChecked
import GoSem.Claim
import GoSem.ClaimJoined
import GoSem.ClaimMapViews
import Derived.JoinedTies
import Derived.KernelRfl
namespace Go.Proofs.Ytnjidpmggggiiaa
/- THE CELL 'sum', in the pinned program and in every row, IS THE sha256 OF THE DUMP (.gsa) THAT YtnjidpmggggiiaaProg.lean LOADS. Nothing in Lean hashes anything: it is a label: what it is worth is what the hold of that sum in a sandbox is worth. -/
noncomputable def Try.pinned : Pinned := { name := "ytnjidpmggggiiaa", sum := "73025771e267fdb1b27e95b7e0ec9574d07b1a6b48000008dfa3f8a708bedbbe", checked := Try.checked }
namespace Rows
def none {H : Type} : Left H := { results := [], args := [] }

/-- 'scarplaw15.RsetLimits': WHATEVER THE INPUT: true; the input reads as it did. -/
def rsetLimitsSpec : ChangeSpec := { name := "rsetLimits", fn := fun _ => fun
  | [d1, d2] => { results := [.lit (.bool true)], args := [d1, d2] }
  | _ => none }
def rsetLimitsRow : OpenClaim := { program := "ytnjidpmggggiiaa", sum := "73025771e267fdb1b27e95b7e0ec9574d07b1a6b48000008dfa3f8a708bedbbe", func := "scarp/scarplaw15.RsetLimits", spec := "rsetLimits", unfollowed := true, recurses := true, apart := false }
def RsetLimitsSaid : Prop := rsetLimitsRow.holds Try.pinned (OpenSpec.ofChange rsetLimitsSpec)

/-- ITS FALSE NEIGHBOUR: 'it returns false'. Refute it at one input. -/
def rsetLimitsWrong : ChangeSpec := { name := "rsetLimits", fn := fun _ => fun
  | [d1, d2] => { results := [.lit (.bool false)], args := [d1, d2] }
  | _ => none }
def RsetLimitsWrongFalsely : Prop := rsetLimitsRow.holds Try.pinned (OpenSpec.ofChange rsetLimitsWrong)

/-- 'scarplaw15.RsetSteady': WHATEVER THE INPUT: true; the input reads as it did. -/
def rsetSteadySpec : ChangeSpec := { name := "rsetSteady", fn := fun _ => fun
  | [d1, d2] => { results := [.lit (.bool true)], args := [d1, d2] }
  | _ => none }
def rsetSteadyRow : OpenClaim := { program := "ytnjidpmggggiiaa", sum := "73025771e267fdb1b27e95b7e0ec9574d07b1a6b48000008dfa3f8a708bedbbe", func := "scarp/scarplaw15.RsetSteady", spec := "rsetSteady", unfollowed := true, recurses := true, apart := false }
def RsetSteadySaid : Prop := rsetSteadyRow.holds Try.pinned (OpenSpec.ofChange rsetSteadySpec)

/-- ITS FALSE NEIGHBOUR: 'it returns false'. Refute it at one input. -/
def rsetSteadyWrong : ChangeSpec := { name := "rsetSteady", fn := fun _ => fun
  | [d1, d2] => { results := [.lit (.bool false)], args := [d1, d2] }
  | _ => none }
def RsetSteadyWrongFalsely : Prop := rsetSteadyRow.holds Try.pinned (OpenSpec.ofChange rsetSteadyWrong)

/-- 'scarplaw15.RsetNothing': WHATEVER THE INPUT: true; the input reads as it did. -/
def rsetNothingSpec : ChangeSpec := { name := "rsetNothing", fn := fun _ => fun
  | [d] => { results := [.lit (.bool true)], args := [d] }
  | _ => none }
def rsetNothingRow : OpenClaim := { program := "ytnjidpmggggiiaa", sum := "73025771e267fdb1b27e95b7e0ec9574d07b1a6b48000008dfa3f8a708bedbbe", func := "scarp/scarplaw15.RsetNothing", spec := "rsetNothing", unfollowed := true, recurses := true, apart := false }
def RsetNothingSaid : Prop := rsetNothingRow.holds Try.pinned (OpenSpec.ofChange rsetNothingSpec)

/-- ITS FALSE NEIGHBOUR: 'it returns false'. Refute it at one input. -/
def rsetNothingWrong : ChangeSpec := { name := "rsetNothing", fn := fun _ => fun
  | [d] => { results := [.lit (.bool false)], args := [d] }
  | _ => none }
def RsetNothingWrongFalsely : Prop := rsetNothingRow.holds Try.pinned (OpenSpec.ofChange rsetNothingWrong)

/-- 'scarplaw15.RsetOwn': WHATEVER THE INPUT: true; the input reads as it did. -/
def rsetOwnSpec : ChangeSpec := { name := "rsetOwn", fn := fun _ => fun
  | [d1, d2, d3] => { results := [.lit (.bool true)], args := [d1, d2, d3] }
  | _ => none }
def rsetOwnRow : OpenClaim := { program := "ytnjidpmggggiiaa", sum := "73025771e267fdb1b27e95b7e0ec9574d07b1a6b48000008dfa3f8a708bedbbe", func := "scarp/scarplaw15.RsetOwn", spec := "rsetOwn", unfollowed := true, recurses := true, apart := false }
def RsetOwnSaid : Prop := rsetOwnRow.holds Try.pinned (OpenSpec.ofChange rsetOwnSpec)

/-- ITS FALSE NEIGHBOUR: 'it returns false'. Refute it at one input. -/
def rsetOwnWrong : ChangeSpec := { name := "rsetOwn", fn := fun _ => fun
  | [d1, d2, d3] => { results := [.lit (.bool false)], args := [d1, d2, d3] }
  | _ => none }
def RsetOwnWrongFalsely : Prop := rsetOwnRow.holds Try.pinned (OpenSpec.ofChange rsetOwnWrong)

/-- 'scarplaw15.RsetPlays': WHATEVER THE INPUT: true; the input reads as it did. -/
def rsetPlaysSpec : ChangeSpec := { name := "rsetPlays", fn := fun _ => fun
  | [d1, d2, d3] => { results := [.lit (.bool true)], args := [d1, d2, d3] }
  | _ => none }
def rsetPlaysRow : OpenClaim := { program := "ytnjidpmggggiiaa", sum := "73025771e267fdb1b27e95b7e0ec9574d07b1a6b48000008dfa3f8a708bedbbe", func := "scarp/scarplaw15.RsetPlays", spec := "rsetPlays", unfollowed := true, recurses := true, apart := false }
def RsetPlaysSaid : Prop := rsetPlaysRow.holds Try.pinned (OpenSpec.ofChange rsetPlaysSpec)

/-- ITS FALSE NEIGHBOUR: 'it returns false'. Refute it at one input. -/
def rsetPlaysWrong : ChangeSpec := { name := "rsetPlays", fn := fun _ => fun
  | [d1, d2, d3] => { results := [.lit (.bool false)], args := [d1, d2, d3] }
  | _ => none }
def RsetPlaysWrongFalsely : Prop := rsetPlaysRow.holds Try.pinned (OpenSpec.ofChange rsetPlaysWrong)

/-- 'scarplaw16.ValidMore': WHATEVER THE INPUT: true; the input reads as it did. -/
def validMoreSpec : ChangeSpec := { name := "validMore", fn := fun _ => fun
  | [d1, d2, d3, d4, d5, d6] => { results := [.lit (.bool true)], args := [d1, d2, d3, d4, d5, d6] }
  | _ => none }
def validMoreRow : OpenClaim := { program := "ytnjidpmggggiiaa", sum := "73025771e267fdb1b27e95b7e0ec9574d07b1a6b48000008dfa3f8a708bedbbe", func := "scarp/scarplaw16.ValidMore", spec := "validMore", unfollowed := true, recurses := true, apart := false }
def ValidMoreSaid : Prop := validMoreRow.holds Try.pinned (OpenSpec.ofChange validMoreSpec)

/-- ITS FALSE NEIGHBOUR: 'it returns false'. Refute it at one input. -/
def validMoreWrong : ChangeSpec := { name := "validMore", fn := fun _ => fun
  | [d1, d2, d3, d4, d5, d6] => { results := [.lit (.bool false)], args := [d1, d2, d3, d4, d5, d6] }
  | _ => none }
def ValidMoreWrongFalsely : Prop := validMoreRow.holds Try.pinned (OpenSpec.ofChange validMoreWrong)

/-- 'scarplaw16.ValidQueue': WHATEVER THE INPUT: true; the input reads as it did. -/
def validQueueSpec : ChangeSpec := { name := "validQueue", fn := fun _ => fun
  | [d1, d2, d3] => { results := [.lit (.bool true)], args := [d1, d2, d3] }
  | _ => none }
def validQueueRow : OpenClaim := { program := "ytnjidpmggggiiaa", sum := "73025771e267fdb1b27e95b7e0ec9574d07b1a6b48000008dfa3f8a708bedbbe", func := "scarp/scarplaw16.ValidQueue", spec := "validQueue", unfollowed := true, recurses := true, apart := false }
def ValidQueueSaid : Prop := validQueueRow.holds Try.pinned (OpenSpec.ofChange validQueueSpec)

/-- ITS FALSE NEIGHBOUR: 'it returns false'. Refute it at one input. -/
def validQueueWrong : ChangeSpec := { name := "validQueue", fn := fun _ => fun
  | [d1, d2, d3] => { results := [.lit (.bool false)], args := [d1, d2, d3] }
  | _ => none }
def ValidQueueWrongFalsely : Prop := validQueueRow.holds Try.pinned (OpenSpec.ofChange validQueueWrong)

/-- 'scarplaw16.ValidReads': WHATEVER THE INPUT: true; the input reads as it did. -/
def validReadsSpec : ChangeSpec := { name := "validReads", fn := fun _ => fun
  | [d1, d2, d3, d4] => { results := [.lit (.bool true)], args := [d1, d2, d3, d4] }
  | _ => none }
def validReadsRow : OpenClaim := { program := "ytnjidpmggggiiaa", sum := "73025771e267fdb1b27e95b7e0ec9574d07b1a6b48000008dfa3f8a708bedbbe", func := "scarp/scarplaw16.ValidReads", spec := "validReads", unfollowed := true, recurses := true, apart := false }
def ValidReadsSaid : Prop := validReadsRow.holds Try.pinned (OpenSpec.ofChange validReadsSpec)

/-- ITS FALSE NEIGHBOUR: 'it returns false'. Refute it at one input. -/
def validReadsWrong : ChangeSpec := { name := "validReads", fn := fun _ => fun
  | [d1, d2, d3, d4] => { results := [.lit (.bool false)], args := [d1, d2, d3, d4] }
  | _ => none }
def ValidReadsWrongFalsely : Prop := validReadsRow.holds Try.pinned (OpenSpec.ofChange validReadsWrong)

/-- 'scarplaw16.ValidRows': WHATEVER THE INPUT: true; the input reads as it did. -/
def validRowsSpec : ChangeSpec := { name := "validRows", fn := fun _ => fun
  | [d] => { results := [.lit (.bool true)], args := [d] }
  | _ => none }
def validRowsRow : OpenClaim := { program := "ytnjidpmggggiiaa", sum := "73025771e267fdb1b27e95b7e0ec9574d07b1a6b48000008dfa3f8a708bedbbe", func := "scarp/scarplaw16.ValidRows", spec := "validRows", unfollowed := true, recurses := true, apart := false }
def ValidRowsSaid : Prop := validRowsRow.holds Try.pinned (OpenSpec.ofChange validRowsSpec)

/-- ITS FALSE NEIGHBOUR: 'it returns false'. Refute it at one input. -/
def validRowsWrong : ChangeSpec := { name := "validRows", fn := fun _ => fun
  | [d] => { results := [.lit (.bool false)], args := [d] }
  | _ => none }
def ValidRowsWrongFalsely : Prop := validRowsRow.holds Try.pinned (OpenSpec.ofChange validRowsWrong)

/- THE SECOND FORM. 'bulk': how many values and letters a reading holds, each counted each time it is reached (what is shared counts as often as it is met; a slice's spare places count too). A statement '..UptoSaid' is the law's where the arguments, and the package variables that the reading takes, are together of bulk at most 1048576: NARROWER than '..Said'. Prove '..Said' where nothing that the law and all that it calls make is longer than what came in: it says more and counts as full. Else prove '..UptoSaid'. A law counts once. -/
mutual
def uptoBulk {H : Type} : DataW H → Nat
  | .lit (.string bytes) => bytes.length + 1
  | .lit _ => 1
  | .nil => 1
  | .ptr d => uptoBulk d + 1
  | .slice elems spare => uptoBulkAll elems + uptoBulkAll spare + 1
  | .agg parts => uptoBulkAll parts + 1
  | .iface _ d => uptoBulk d + 1
  | .map entries => uptoBulkEntries entries + 1
  | .held _ => 1
def uptoBulkAll {H : Type} : List (DataW H) → Nat
  | [] => 0
  | d :: r => uptoBulk d + uptoBulkAll r
def uptoBulkEntries {H : Type} : List (Lit × DataW H) → Nat
  | [] => 0
  | x :: r => uptoBulkEntry x + uptoBulkEntries r
def uptoBulkEntry {H : Type} : Lit × DataW H → Nat
  | (.string bytes, d) => bytes.length + uptoBulk d + 1
  | (_, d) => uptoBulk d + 1
 end
def uptoSmall : (H : Type) → List (DataW H) → Bool := fun _ ds => decide (uptoBulkAll ds ≤ 1048576)
def OpenSpec.upto (s : _root_.Go.ChangeSpec) : _root_.Go.OpenSpec := { _root_.Go.OpenSpec.ofChange s with cond := some uptoSmall }

/-- 'scarplaw15.RsetLimits', WHERE WHAT IT READS IS OF BULK AT MOST 1048576: true; the input reads as it did. -/
def rsetLimitsUptoRow : OpenClaim := { program := "ytnjidpmggggiiaa", sum := "73025771e267fdb1b27e95b7e0ec9574d07b1a6b48000008dfa3f8a708bedbbe", func := "scarp/scarplaw15.RsetLimits", spec := "rsetLimits", unfollowed := true, recurses := true, apart := false, narrowed := true }
def RsetLimitsUptoSaid : Prop := rsetLimitsUptoRow.holds Try.pinned (OpenSpec.upto rsetLimitsSpec)

/-- 'scarplaw15.RsetSteady', WHERE WHAT IT READS IS OF BULK AT MOST 1048576: true; the input reads as it did. -/
def rsetSteadyUptoRow : OpenClaim := { program := "ytnjidpmggggiiaa", sum := "73025771e267fdb1b27e95b7e0ec9574d07b1a6b48000008dfa3f8a708bedbbe", func := "scarp/scarplaw15.RsetSteady", spec := "rsetSteady", unfollowed := true, recurses := true, apart := false, narrowed := true }
def RsetSteadyUptoSaid : Prop := rsetSteadyUptoRow.holds Try.pinned (OpenSpec.upto rsetSteadySpec)

/-- 'scarplaw15.RsetNothing', WHERE WHAT IT READS IS OF BULK AT MOST 1048576: true; the input reads as it did. -/
def rsetNothingUptoRow : OpenClaim := { program := "ytnjidpmggggiiaa", sum := "73025771e267fdb1b27e95b7e0ec9574d07b1a6b48000008dfa3f8a708bedbbe", func := "scarp/scarplaw15.RsetNothing", spec := "rsetNothing", unfollowed := true, recurses := true, apart := false, narrowed := true }
def RsetNothingUptoSaid : Prop := rsetNothingUptoRow.holds Try.pinned (OpenSpec.upto rsetNothingSpec)

/-- 'scarplaw15.RsetOwn', WHERE WHAT IT READS IS OF BULK AT MOST 1048576: true; the input reads as it did. -/
def rsetOwnUptoRow : OpenClaim := { program := "ytnjidpmggggiiaa", sum := "73025771e267fdb1b27e95b7e0ec9574d07b1a6b48000008dfa3f8a708bedbbe", func := "scarp/scarplaw15.RsetOwn", spec := "rsetOwn", unfollowed := true, recurses := true, apart := false, narrowed := true }
def RsetOwnUptoSaid : Prop := rsetOwnUptoRow.holds Try.pinned (OpenSpec.upto rsetOwnSpec)

/-- 'scarplaw15.RsetPlays', WHERE WHAT IT READS IS OF BULK AT MOST 1048576: true; the input reads as it did. -/
def rsetPlaysUptoRow : OpenClaim := { program := "ytnjidpmggggiiaa", sum := "73025771e267fdb1b27e95b7e0ec9574d07b1a6b48000008dfa3f8a708bedbbe", func := "scarp/scarplaw15.RsetPlays", spec := "rsetPlays", unfollowed := true, recurses := true, apart := false, narrowed := true }
def RsetPlaysUptoSaid : Prop := rsetPlaysUptoRow.holds Try.pinned (OpenSpec.upto rsetPlaysSpec)

/-- 'scarplaw16.ValidMore', WHERE WHAT IT READS IS OF BULK AT MOST 1048576: true; the input reads as it did. -/
def validMoreUptoRow : OpenClaim := { program := "ytnjidpmggggiiaa", sum := "73025771e267fdb1b27e95b7e0ec9574d07b1a6b48000008dfa3f8a708bedbbe", func := "scarp/scarplaw16.ValidMore", spec := "validMore", unfollowed := true, recurses := true, apart := false, narrowed := true }
def ValidMoreUptoSaid : Prop := validMoreUptoRow.holds Try.pinned (OpenSpec.upto validMoreSpec)

/-- 'scarplaw16.ValidQueue', WHERE WHAT IT READS IS OF BULK AT MOST 1048576: true; the input reads as it did. -/
def validQueueUptoRow : OpenClaim := { program := "ytnjidpmggggiiaa", sum := "73025771e267fdb1b27e95b7e0ec9574d07b1a6b48000008dfa3f8a708bedbbe", func := "scarp/scarplaw16.ValidQueue", spec := "validQueue", unfollowed := true, recurses := true, apart := false, narrowed := true }
def ValidQueueUptoSaid : Prop := validQueueUptoRow.holds Try.pinned (OpenSpec.upto validQueueSpec)

/-- 'scarplaw16.ValidReads', WHERE WHAT IT READS IS OF BULK AT MOST 1048576: true; the input reads as it did. -/
def validReadsUptoRow : OpenClaim := { program := "ytnjidpmggggiiaa", sum := "73025771e267fdb1b27e95b7e0ec9574d07b1a6b48000008dfa3f8a708bedbbe", func := "scarp/scarplaw16.ValidReads", spec := "validReads", unfollowed := true, recurses := true, apart := false, narrowed := true }
def ValidReadsUptoSaid : Prop := validReadsUptoRow.holds Try.pinned (OpenSpec.upto validReadsSpec)

/-- 'scarplaw16.ValidRows', WHERE WHAT IT READS IS OF BULK AT MOST 1048576: true; the input reads as it did. -/
def validRowsUptoRow : OpenClaim := { program := "ytnjidpmggggiiaa", sum := "73025771e267fdb1b27e95b7e0ec9574d07b1a6b48000008dfa3f8a708bedbbe", func := "scarp/scarplaw16.ValidRows", spec := "validRows", unfollowed := true, recurses := true, apart := false, narrowed := true }
def ValidRowsUptoSaid : Prop := validRowsUptoRow.holds Try.pinned (OpenSpec.upto validRowsSpec)

end Rows
end Go.Proofs.Ytnjidpmggggiiaa
