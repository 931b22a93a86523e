/-
  No cell of these rows narrows 'for every input' (looked for: loops, veiled, ifaces, maps, wideKeys, modest, calm, conditions, laid).
  DERIVED. THE GIVEN ROWS OF THIS SEAT. 12 by the template 'for every input the law returns true; each argument reads behind the call as it read before'; 0 by the template 'total and deterministic' (their statements: YtjomlcemnbfnfaaTotals.lean).
  GIVEN WITH THE SEED: the statements are not yours to turn. If you find one false, say at which input.
  Laid BY PROGRAM, IN A SANDBOX (cutbox-rows.mjs): the forced cells as the released guide's own fill.sh prints them over the translation 5cef5912651f7e92… (all of the seat's roots in one cut). By AI agents, Wed Nov 11 2026. No macro, syntax, notation, axiom, sorry.
-/
import Derived.Test.YtjomlcemnbfnfaaChecked
import GoSem.Claim
import GoSem.ClaimJoined
import GoSem.ClaimMapViews
import Derived.JoinedTies
import Derived.KernelRfl
namespace Go.Proofs.Ytjomlcemnbfnfaa
/- THE CELL 'sum', in the pinned program and in every row, IS THE sha256 OF THE DUMP (.gsa) THAT YtjomlcemnbfnfaaProg.lean LOADS. Nothing in Lean hashes anything: it is a label: what it is worth is what the hold of that sum in a sandbox is worth. -/
noncomputable def Try.pinned : Pinned := { name := "ytjomlcemnbfnfaa", sum := "5cef5912651f7e928d113db2dac8f33bab8f6630cabba29b862b69ab835000b8", checked := Try.checked }
namespace Rows
def none {H : Type} : Left H := { results := [], args := [] }

/-- 'scarplaw22.ModelRefused': WHATEVER THE INPUT: true; the input reads as it did. -/
def modelRefusedSpec : ChangeSpec := { name := "modelRefused", fn := fun _ => fun
  | [d1, d2] => { results := [.lit (.bool true)], args := [d1, d2] }
  | _ => none }
def modelRefusedRow : OpenClaim := { program := "ytjomlcemnbfnfaa", sum := "5cef5912651f7e928d113db2dac8f33bab8f6630cabba29b862b69ab835000b8", func := "scarp/scarplaw22.ModelRefused", spec := "modelRefused", unfollowed := true, recurses := true, apart := false }
def ModelRefusedSaid : Prop := modelRefusedRow.holds Try.pinned (OpenSpec.ofChange modelRefusedSpec)

/-- ITS FALSE NEIGHBOUR: 'it returns false'. Refute it at one input. -/
def modelRefusedWrong : ChangeSpec := { name := "modelRefused", fn := fun _ => fun
  | [d1, d2] => { results := [.lit (.bool false)], args := [d1, d2] }
  | _ => none }
def ModelRefusedWrongFalsely : Prop := modelRefusedRow.holds Try.pinned (OpenSpec.ofChange modelRefusedWrong)

/-- 'scarplaw22.ModelOrder': WHATEVER THE INPUT: true; the input reads as it did. -/
def modelOrderSpec : ChangeSpec := { name := "modelOrder", fn := fun _ => fun
  | [d1, d2] => { results := [.lit (.bool true)], args := [d1, d2] }
  | _ => none }
def modelOrderRow : OpenClaim := { program := "ytjomlcemnbfnfaa", sum := "5cef5912651f7e928d113db2dac8f33bab8f6630cabba29b862b69ab835000b8", func := "scarp/scarplaw22.ModelOrder", spec := "modelOrder", unfollowed := true, recurses := true, apart := false }
def ModelOrderSaid : Prop := modelOrderRow.holds Try.pinned (OpenSpec.ofChange modelOrderSpec)

/-- ITS FALSE NEIGHBOUR: 'it returns false'. Refute it at one input. -/
def modelOrderWrong : ChangeSpec := { name := "modelOrder", fn := fun _ => fun
  | [d1, d2] => { results := [.lit (.bool false)], args := [d1, d2] }
  | _ => none }
def ModelOrderWrongFalsely : Prop := modelOrderRow.holds Try.pinned (OpenSpec.ofChange modelOrderWrong)

/-- 'scarplaw22.ModelKeeps': WHATEVER THE INPUT: true; the input reads as it did. -/
def modelKeepsSpec : ChangeSpec := { name := "modelKeeps", fn := fun _ => fun
  | [d1, d2] => { results := [.lit (.bool true)], args := [d1, d2] }
  | _ => none }
def modelKeepsRow : OpenClaim := { program := "ytjomlcemnbfnfaa", sum := "5cef5912651f7e928d113db2dac8f33bab8f6630cabba29b862b69ab835000b8", func := "scarp/scarplaw22.ModelKeeps", spec := "modelKeeps", unfollowed := true, recurses := true, apart := false }
def ModelKeepsSaid : Prop := modelKeepsRow.holds Try.pinned (OpenSpec.ofChange modelKeepsSpec)

/-- ITS FALSE NEIGHBOUR: 'it returns false'. Refute it at one input. -/
def modelKeepsWrong : ChangeSpec := { name := "modelKeeps", fn := fun _ => fun
  | [d1, d2] => { results := [.lit (.bool false)], args := [d1, d2] }
  | _ => none }
def ModelKeepsWrongFalsely : Prop := modelKeepsRow.holds Try.pinned (OpenSpec.ofChange modelKeepsWrong)

/-- 'scarplaw22.ModelRuns': WHATEVER THE INPUT: true; the input reads as it did. -/
def modelRunsSpec : ChangeSpec := { name := "modelRuns", fn := fun _ => fun
  | [d1, d2, d3] => { results := [.lit (.bool true)], args := [d1, d2, d3] }
  | _ => none }
def modelRunsRow : OpenClaim := { program := "ytjomlcemnbfnfaa", sum := "5cef5912651f7e928d113db2dac8f33bab8f6630cabba29b862b69ab835000b8", func := "scarp/scarplaw22.ModelRuns", spec := "modelRuns", unfollowed := true, recurses := true, apart := false }
def ModelRunsSaid : Prop := modelRunsRow.holds Try.pinned (OpenSpec.ofChange modelRunsSpec)

/-- ITS FALSE NEIGHBOUR: 'it returns false'. Refute it at one input. -/
def modelRunsWrong : ChangeSpec := { name := "modelRuns", fn := fun _ => fun
  | [d1, d2, d3] => { results := [.lit (.bool false)], args := [d1, d2, d3] }
  | _ => none }
def ModelRunsWrongFalsely : Prop := modelRunsRow.holds Try.pinned (OpenSpec.ofChange modelRunsWrong)

/-- 'scarplaw22.ModelLast': WHATEVER THE INPUT: true; the input reads as it did. -/
def modelLastSpec : ChangeSpec := { name := "modelLast", fn := fun _ => fun
  | [d1, d2] => { results := [.lit (.bool true)], args := [d1, d2] }
  | _ => none }
def modelLastRow : OpenClaim := { program := "ytjomlcemnbfnfaa", sum := "5cef5912651f7e928d113db2dac8f33bab8f6630cabba29b862b69ab835000b8", func := "scarp/scarplaw22.ModelLast", spec := "modelLast", unfollowed := true, recurses := true, apart := false }
def ModelLastSaid : Prop := modelLastRow.holds Try.pinned (OpenSpec.ofChange modelLastSpec)

/-- ITS FALSE NEIGHBOUR: 'it returns false'. Refute it at one input. -/
def modelLastWrong : ChangeSpec := { name := "modelLast", fn := fun _ => fun
  | [d1, d2] => { results := [.lit (.bool false)], args := [d1, d2] }
  | _ => none }
def ModelLastWrongFalsely : Prop := modelLastRow.holds Try.pinned (OpenSpec.ofChange modelLastWrong)

/-- 'scarplaw22.ModelNothing': WHATEVER THE INPUT: true; the input reads as it did. -/
def modelNothingSpec : ChangeSpec := { name := "modelNothing", fn := fun _ => fun
  | [d] => { results := [.lit (.bool true)], args := [d] }
  | _ => none }
def modelNothingRow : OpenClaim := { program := "ytjomlcemnbfnfaa", sum := "5cef5912651f7e928d113db2dac8f33bab8f6630cabba29b862b69ab835000b8", func := "scarp/scarplaw22.ModelNothing", spec := "modelNothing", unfollowed := true, recurses := true, apart := false }
def ModelNothingSaid : Prop := modelNothingRow.holds Try.pinned (OpenSpec.ofChange modelNothingSpec)

/-- ITS FALSE NEIGHBOUR: 'it returns false'. Refute it at one input. -/
def modelNothingWrong : ChangeSpec := { name := "modelNothing", fn := fun _ => fun
  | [d] => { results := [.lit (.bool false)], args := [d] }
  | _ => none }
def ModelNothingWrongFalsely : Prop := modelNothingRow.holds Try.pinned (OpenSpec.ofChange modelNothingWrong)

/-- 'scarplaw22.ModelReplays': WHATEVER THE INPUT: true; the input reads as it did. -/
def modelReplaysSpec : ChangeSpec := { name := "modelReplays", fn := fun _ => fun
  | [d1, d2] => { results := [.lit (.bool true)], args := [d1, d2] }
  | _ => none }
def modelReplaysRow : OpenClaim := { program := "ytjomlcemnbfnfaa", sum := "5cef5912651f7e928d113db2dac8f33bab8f6630cabba29b862b69ab835000b8", func := "scarp/scarplaw22.ModelReplays", spec := "modelReplays", unfollowed := true, recurses := true, apart := false }
def ModelReplaysSaid : Prop := modelReplaysRow.holds Try.pinned (OpenSpec.ofChange modelReplaysSpec)

/-- ITS FALSE NEIGHBOUR: 'it returns false'. Refute it at one input. -/
def modelReplaysWrong : ChangeSpec := { name := "modelReplays", fn := fun _ => fun
  | [d1, d2] => { results := [.lit (.bool false)], args := [d1, d2] }
  | _ => none }
def ModelReplaysWrongFalsely : Prop := modelReplaysRow.holds Try.pinned (OpenSpec.ofChange modelReplaysWrong)

/-- 'scarplaw28.AuditSerial': WHATEVER THE INPUT: true; the input reads as it did. -/
def auditSerialSpec : ChangeSpec := { name := "auditSerial", fn := fun _ => fun
  | [d1, d2] => { results := [.lit (.bool true)], args := [d1, d2] }
  | _ => none }
def auditSerialRow : OpenClaim := { program := "ytjomlcemnbfnfaa", sum := "5cef5912651f7e928d113db2dac8f33bab8f6630cabba29b862b69ab835000b8", func := "scarp/scarplaw28.AuditSerial", spec := "auditSerial", unfollowed := true, recurses := true, apart := false }
def AuditSerialSaid : Prop := auditSerialRow.holds Try.pinned (OpenSpec.ofChange auditSerialSpec)

/-- ITS FALSE NEIGHBOUR: 'it returns false'. Refute it at one input. -/
def auditSerialWrong : ChangeSpec := { name := "auditSerial", fn := fun _ => fun
  | [d1, d2] => { results := [.lit (.bool false)], args := [d1, d2] }
  | _ => none }
def AuditSerialWrongFalsely : Prop := auditSerialRow.holds Try.pinned (OpenSpec.ofChange auditSerialWrong)

/-- 'scarplaw28.AuditReal': WHATEVER THE INPUT: true; the input reads as it did. -/
def auditRealSpec : ChangeSpec := { name := "auditReal", fn := fun _ => fun
  | [d1, d2, d3, d4] => { results := [.lit (.bool true)], args := [d1, d2, d3, d4] }
  | _ => none }
def auditRealRow : OpenClaim := { program := "ytjomlcemnbfnfaa", sum := "5cef5912651f7e928d113db2dac8f33bab8f6630cabba29b862b69ab835000b8", func := "scarp/scarplaw28.AuditReal", spec := "auditReal", unfollowed := true, recurses := true, apart := false }
def AuditRealSaid : Prop := auditRealRow.holds Try.pinned (OpenSpec.ofChange auditRealSpec)

/-- ITS FALSE NEIGHBOUR: 'it returns false'. Refute it at one input. -/
def auditRealWrong : ChangeSpec := { name := "auditReal", fn := fun _ => fun
  | [d1, d2, d3, d4] => { results := [.lit (.bool false)], args := [d1, d2, d3, d4] }
  | _ => none }
def AuditRealWrongFalsely : Prop := auditRealRow.holds Try.pinned (OpenSpec.ofChange auditRealWrong)

/-- 'scarplaw28.AuditMade': WHATEVER THE INPUT: true; the input reads as it did. -/
def auditMadeSpec : ChangeSpec := { name := "auditMade", fn := fun _ => fun
  | [d1, d2, d3] => { results := [.lit (.bool true)], args := [d1, d2, d3] }
  | _ => none }
def auditMadeRow : OpenClaim := { program := "ytjomlcemnbfnfaa", sum := "5cef5912651f7e928d113db2dac8f33bab8f6630cabba29b862b69ab835000b8", func := "scarp/scarplaw28.AuditMade", spec := "auditMade", unfollowed := true, recurses := true, apart := false }
def AuditMadeSaid : Prop := auditMadeRow.holds Try.pinned (OpenSpec.ofChange auditMadeSpec)

/-- ITS FALSE NEIGHBOUR: 'it returns false'. Refute it at one input. -/
def auditMadeWrong : ChangeSpec := { name := "auditMade", fn := fun _ => fun
  | [d1, d2, d3] => { results := [.lit (.bool false)], args := [d1, d2, d3] }
  | _ => none }
def AuditMadeWrongFalsely : Prop := auditMadeRow.holds Try.pinned (OpenSpec.ofChange auditMadeWrong)

/-- 'scarplaw28.AuditPrefix': WHATEVER THE INPUT: true; the input reads as it did. -/
def auditPrefixSpec : ChangeSpec := { name := "auditPrefix", fn := fun _ => fun
  | [d1, d2, d3] => { results := [.lit (.bool true)], args := [d1, d2, d3] }
  | _ => none }
def auditPrefixRow : OpenClaim := { program := "ytjomlcemnbfnfaa", sum := "5cef5912651f7e928d113db2dac8f33bab8f6630cabba29b862b69ab835000b8", func := "scarp/scarplaw28.AuditPrefix", spec := "auditPrefix", unfollowed := true, recurses := true, apart := false }
def AuditPrefixSaid : Prop := auditPrefixRow.holds Try.pinned (OpenSpec.ofChange auditPrefixSpec)

/-- ITS FALSE NEIGHBOUR: 'it returns false'. Refute it at one input. -/
def auditPrefixWrong : ChangeSpec := { name := "auditPrefix", fn := fun _ => fun
  | [d1, d2, d3] => { results := [.lit (.bool false)], args := [d1, d2, d3] }
  | _ => none }
def AuditPrefixWrongFalsely : Prop := auditPrefixRow.holds Try.pinned (OpenSpec.ofChange auditPrefixWrong)

/-- 'scarplaw28.AuditOthers': WHATEVER THE INPUT: true; the input reads as it did. -/
def auditOthersSpec : ChangeSpec := { name := "auditOthers", fn := fun _ => fun
  | [d1, d2, d3] => { results := [.lit (.bool true)], args := [d1, d2, d3] }
  | _ => none }
def auditOthersRow : OpenClaim := { program := "ytjomlcemnbfnfaa", sum := "5cef5912651f7e928d113db2dac8f33bab8f6630cabba29b862b69ab835000b8", func := "scarp/scarplaw28.AuditOthers", spec := "auditOthers", unfollowed := true, recurses := true, apart := false }
def AuditOthersSaid : Prop := auditOthersRow.holds Try.pinned (OpenSpec.ofChange auditOthersSpec)

/-- ITS FALSE NEIGHBOUR: 'it returns false'. Refute it at one input. -/
def auditOthersWrong : ChangeSpec := { name := "auditOthers", fn := fun _ => fun
  | [d1, d2, d3] => { results := [.lit (.bool false)], args := [d1, d2, d3] }
  | _ => none }
def AuditOthersWrongFalsely : Prop := auditOthersRow.holds Try.pinned (OpenSpec.ofChange auditOthersWrong)

/- THE SECOND FORM. 'bulk': how many values and letters a reading holds, each counted each time it is reached (what is shared counts as often as it is met; a slice's spare places count too). A statement '..UptoSaid' is the law's where the arguments, and the package variables that the reading takes, are together of bulk at most 1048576: NARROWER than '..Said'. Prove '..Said' where nothing that the law and all that it calls make is longer than what came in: it says more and counts as full. Else prove '..UptoSaid'. A law counts once. -/
mutual
def uptoBulk {H : Type} : DataW H → Nat
  | .lit (.string bytes) => bytes.length + 1
  | .lit _ => 1
  | .nil => 1
  | .ptr d => uptoBulk d + 1
  | .slice elems spare => uptoBulkAll elems + uptoBulkAll spare + 1
  | .agg parts => uptoBulkAll parts + 1
  | .iface _ d => uptoBulk d + 1
  | .map entries => uptoBulkEntries entries + 1
  | .held _ => 1
def uptoBulkAll {H : Type} : List (DataW H) → Nat
  | [] => 0
  | d :: r => uptoBulk d + uptoBulkAll r
def uptoBulkEntries {H : Type} : List (Lit × DataW H) → Nat
  | [] => 0
  | x :: r => uptoBulkEntry x + uptoBulkEntries r
def uptoBulkEntry {H : Type} : Lit × DataW H → Nat
  | (.string bytes, d) => bytes.length + uptoBulk d + 1
  | (_, d) => uptoBulk d + 1
 end
def uptoSmall : (H : Type) → List (DataW H) → Bool := fun _ ds => decide (uptoBulkAll ds ≤ 1048576)
def OpenSpec.upto (s : _root_.Go.ChangeSpec) : _root_.Go.OpenSpec := { _root_.Go.OpenSpec.ofChange s with cond := some uptoSmall }

/-- 'scarplaw22.ModelRefused', WHERE WHAT IT READS IS OF BULK AT MOST 1048576: true; the input reads as it did. -/
def modelRefusedUptoRow : OpenClaim := { program := "ytjomlcemnbfnfaa", sum := "5cef5912651f7e928d113db2dac8f33bab8f6630cabba29b862b69ab835000b8", func := "scarp/scarplaw22.ModelRefused", spec := "modelRefused", unfollowed := true, recurses := true, apart := false, narrowed := true }
def ModelRefusedUptoSaid : Prop := modelRefusedUptoRow.holds Try.pinned (OpenSpec.upto modelRefusedSpec)

/-- 'scarplaw22.ModelOrder', WHERE WHAT IT READS IS OF BULK AT MOST 1048576: true; the input reads as it did. -/
def modelOrderUptoRow : OpenClaim := { program := "ytjomlcemnbfnfaa", sum := "5cef5912651f7e928d113db2dac8f33bab8f6630cabba29b862b69ab835000b8", func := "scarp/scarplaw22.ModelOrder", spec := "modelOrder", unfollowed := true, recurses := true, apart := false, narrowed := true }
def ModelOrderUptoSaid : Prop := modelOrderUptoRow.holds Try.pinned (OpenSpec.upto modelOrderSpec)

/-- 'scarplaw22.ModelKeeps', WHERE WHAT IT READS IS OF BULK AT MOST 1048576: true; the input reads as it did. -/
def modelKeepsUptoRow : OpenClaim := { program := "ytjomlcemnbfnfaa", sum := "5cef5912651f7e928d113db2dac8f33bab8f6630cabba29b862b69ab835000b8", func := "scarp/scarplaw22.ModelKeeps", spec := "modelKeeps", unfollowed := true, recurses := true, apart := false, narrowed := true }
def ModelKeepsUptoSaid : Prop := modelKeepsUptoRow.holds Try.pinned (OpenSpec.upto modelKeepsSpec)

/-- 'scarplaw22.ModelRuns', WHERE WHAT IT READS IS OF BULK AT MOST 1048576: true; the input reads as it did. -/
def modelRunsUptoRow : OpenClaim := { program := "ytjomlcemnbfnfaa", sum := "5cef5912651f7e928d113db2dac8f33bab8f6630cabba29b862b69ab835000b8", func := "scarp/scarplaw22.ModelRuns", spec := "modelRuns", unfollowed := true, recurses := true, apart := false, narrowed := true }
def ModelRunsUptoSaid : Prop := modelRunsUptoRow.holds Try.pinned (OpenSpec.upto modelRunsSpec)

/-- 'scarplaw22.ModelLast', WHERE WHAT IT READS IS OF BULK AT MOST 1048576: true; the input reads as it did. -/
def modelLastUptoRow : OpenClaim := { program := "ytjomlcemnbfnfaa", sum := "5cef5912651f7e928d113db2dac8f33bab8f6630cabba29b862b69ab835000b8", func := "scarp/scarplaw22.ModelLast", spec := "modelLast", unfollowed := true, recurses := true, apart := false, narrowed := true }
def ModelLastUptoSaid : Prop := modelLastUptoRow.holds Try.pinned (OpenSpec.upto modelLastSpec)

/-- 'scarplaw22.ModelNothing', WHERE WHAT IT READS IS OF BULK AT MOST 1048576: true; the input reads as it did. -/
def modelNothingUptoRow : OpenClaim := { program := "ytjomlcemnbfnfaa", sum := "5cef5912651f7e928d113db2dac8f33bab8f6630cabba29b862b69ab835000b8", func := "scarp/scarplaw22.ModelNothing", spec := "modelNothing", unfollowed := true, recurses := true, apart := false, narrowed := true }
def ModelNothingUptoSaid : Prop := modelNothingUptoRow.holds Try.pinned (OpenSpec.upto modelNothingSpec)

/-- 'scarplaw22.ModelReplays', WHERE WHAT IT READS IS OF BULK AT MOST 1048576: true; the input reads as it did. -/
def modelReplaysUptoRow : OpenClaim := { program := "ytjomlcemnbfnfaa", sum := "5cef5912651f7e928d113db2dac8f33bab8f6630cabba29b862b69ab835000b8", func := "scarp/scarplaw22.ModelReplays", spec := "modelReplays", unfollowed := true, recurses := true, apart := false, narrowed := true }
def ModelReplaysUptoSaid : Prop := modelReplaysUptoRow.holds Try.pinned (OpenSpec.upto modelReplaysSpec)

/-- 'scarplaw28.AuditSerial', WHERE WHAT IT READS IS OF BULK AT MOST 1048576: true; the input reads as it did. -/
def auditSerialUptoRow : OpenClaim := { program := "ytjomlcemnbfnfaa", sum := "5cef5912651f7e928d113db2dac8f33bab8f6630cabba29b862b69ab835000b8", func := "scarp/scarplaw28.AuditSerial", spec := "auditSerial", unfollowed := true, recurses := true, apart := false, narrowed := true }
def AuditSerialUptoSaid : Prop := auditSerialUptoRow.holds Try.pinned (OpenSpec.upto auditSerialSpec)

/-- 'scarplaw28.AuditReal', WHERE WHAT IT READS IS OF BULK AT MOST 1048576: true; the input reads as it did. -/
def auditRealUptoRow : OpenClaim := { program := "ytjomlcemnbfnfaa", sum := "5cef5912651f7e928d113db2dac8f33bab8f6630cabba29b862b69ab835000b8", func := "scarp/scarplaw28.AuditReal", spec := "auditReal", unfollowed := true, recurses := true, apart := false, narrowed := true }
def AuditRealUptoSaid : Prop := auditRealUptoRow.holds Try.pinned (OpenSpec.upto auditRealSpec)

/-- 'scarplaw28.AuditMade', WHERE WHAT IT READS IS OF BULK AT MOST 1048576: true; the input reads as it did. -/
def auditMadeUptoRow : OpenClaim := { program := "ytjomlcemnbfnfaa", sum := "5cef5912651f7e928d113db2dac8f33bab8f6630cabba29b862b69ab835000b8", func := "scarp/scarplaw28.AuditMade", spec := "auditMade", unfollowed := true, recurses := true, apart := false, narrowed := true }
def AuditMadeUptoSaid : Prop := auditMadeUptoRow.holds Try.pinned (OpenSpec.upto auditMadeSpec)

/-- 'scarplaw28.AuditPrefix', WHERE WHAT IT READS IS OF BULK AT MOST 1048576: true; the input reads as it did. -/
def auditPrefixUptoRow : OpenClaim := { program := "ytjomlcemnbfnfaa", sum := "5cef5912651f7e928d113db2dac8f33bab8f6630cabba29b862b69ab835000b8", func := "scarp/scarplaw28.AuditPrefix", spec := "auditPrefix", unfollowed := true, recurses := true, apart := false, narrowed := true }
def AuditPrefixUptoSaid : Prop := auditPrefixUptoRow.holds Try.pinned (OpenSpec.upto auditPrefixSpec)

/-- 'scarplaw28.AuditOthers', WHERE WHAT IT READS IS OF BULK AT MOST 1048576: true; the input reads as it did. -/
def auditOthersUptoRow : OpenClaim := { program := "ytjomlcemnbfnfaa", sum := "5cef5912651f7e928d113db2dac8f33bab8f6630cabba29b862b69ab835000b8", func := "scarp/scarplaw28.AuditOthers", spec := "auditOthers", unfollowed := true, recurses := true, apart := false, narrowed := true }
def AuditOthersUptoSaid : Prop := auditOthersUptoRow.holds Try.pinned (OpenSpec.upto auditOthersSpec)

end Rows
end Go.Proofs.Ytjomlcemnbfnfaa
