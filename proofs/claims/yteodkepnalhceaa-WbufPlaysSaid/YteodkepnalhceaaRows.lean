/-
  No cell of these rows narrows 'for every input' (looked for: loops, veiled, ifaces, maps, wideKeys, modest, calm, conditions, laid).
  DERIVED. THE GIVEN ROWS OF THIS SEAT. 10 by the template 'for every input the law returns true; each argument reads behind the call as it read before'; 0 by the template 'total and deterministic' (their statements: YteodkepnalhceaaTotals.lean).
  GIVEN WITH THE SEED: the statements are not yours to turn. If you find one false, say at which input.
  Laid BY PROGRAM, IN A SANDBOX (cutbox-rows.mjs): the forced cells as the released guide's own fill.sh prints them over the translation 23718b459987ed7c… (all of the seat's roots in one cut). By AI agents, Wed Nov 11 2026. No macro, syntax, notation, axiom, sorry.
-/
import Derived.Test.YteodkepnalhceaaChecked
import GoSem.Claim
import GoSem.ClaimJoined
import GoSem.ClaimMapViews
import Derived.JoinedTies
import Derived.KernelRfl
namespace Go.Proofs.Yteodkepnalhceaa
/- THE CELL 'sum', in the pinned program and in every row, IS THE sha256 OF THE DUMP (.gsa) THAT YteodkepnalhceaaProg.lean LOADS. Nothing in Lean hashes anything: it is a label: what it is worth is what the hold of that sum in a sandbox is worth. -/
noncomputable def Try.pinned : Pinned := { name := "yteodkepnalhceaa", sum := "23718b459987ed7c5791f9bfed7e70aa4e19a7561a29a6058831aeee401882af", checked := Try.checked }
namespace Rows
def none {H : Type} : Left H := { results := [], args := [] }

/-- 'scarplaw11.IvalRoom': WHATEVER THE INPUT: true; the input reads as it did. -/
def ivalRoomSpec : ChangeSpec := { name := "ivalRoom", fn := fun _ => fun
  | [d1, d2] => { results := [.lit (.bool true)], args := [d1, d2] }
  | _ => none }
def ivalRoomRow : OpenClaim := { program := "yteodkepnalhceaa", sum := "23718b459987ed7c5791f9bfed7e70aa4e19a7561a29a6058831aeee401882af", func := "scarp/scarplaw11.IvalRoom", spec := "ivalRoom", unfollowed := true, recurses := true, apart := false }
def IvalRoomSaid : Prop := ivalRoomRow.holds Try.pinned (OpenSpec.ofChange ivalRoomSpec)

/-- ITS FALSE NEIGHBOUR: 'it returns false'. Refute it at one input. -/
def ivalRoomWrong : ChangeSpec := { name := "ivalRoom", fn := fun _ => fun
  | [d1, d2] => { results := [.lit (.bool false)], args := [d1, d2] }
  | _ => none }
def IvalRoomWrongFalsely : Prop := ivalRoomRow.holds Try.pinned (OpenSpec.ofChange ivalRoomWrong)

/-- 'scarplaw11.IvalJoins': WHATEVER THE INPUT: true; the input reads as it did. -/
def ivalJoinsSpec : ChangeSpec := { name := "ivalJoins", fn := fun _ => fun
  | [d1, d2] => { results := [.lit (.bool true)], args := [d1, d2] }
  | _ => none }
def ivalJoinsRow : OpenClaim := { program := "yteodkepnalhceaa", sum := "23718b459987ed7c5791f9bfed7e70aa4e19a7561a29a6058831aeee401882af", func := "scarp/scarplaw11.IvalJoins", spec := "ivalJoins", unfollowed := true, recurses := true, apart := false }
def IvalJoinsSaid : Prop := ivalJoinsRow.holds Try.pinned (OpenSpec.ofChange ivalJoinsSpec)

/-- ITS FALSE NEIGHBOUR: 'it returns false'. Refute it at one input. -/
def ivalJoinsWrong : ChangeSpec := { name := "ivalJoins", fn := fun _ => fun
  | [d1, d2] => { results := [.lit (.bool false)], args := [d1, d2] }
  | _ => none }
def IvalJoinsWrongFalsely : Prop := ivalJoinsRow.holds Try.pinned (OpenSpec.ofChange ivalJoinsWrong)

/-- 'scarplaw11.IvalBits': WHATEVER THE INPUT: true; the input reads as it did. -/
def ivalBitsSpec : ChangeSpec := { name := "ivalBits", fn := fun _ => fun
  | [d1, d2, d3] => { results := [.lit (.bool true)], args := [d1, d2, d3] }
  | _ => none }
def ivalBitsRow : OpenClaim := { program := "yteodkepnalhceaa", sum := "23718b459987ed7c5791f9bfed7e70aa4e19a7561a29a6058831aeee401882af", func := "scarp/scarplaw11.IvalBits", spec := "ivalBits", unfollowed := true, recurses := true, apart := false }
def IvalBitsSaid : Prop := ivalBitsRow.holds Try.pinned (OpenSpec.ofChange ivalBitsSpec)

/-- ITS FALSE NEIGHBOUR: 'it returns false'. Refute it at one input. -/
def ivalBitsWrong : ChangeSpec := { name := "ivalBits", fn := fun _ => fun
  | [d1, d2, d3] => { results := [.lit (.bool false)], args := [d1, d2, d3] }
  | _ => none }
def IvalBitsWrongFalsely : Prop := ivalBitsRow.holds Try.pinned (OpenSpec.ofChange ivalBitsWrong)

/-- 'scarplaw11.IvalNothing': WHATEVER THE INPUT: true; the input reads as it did. -/
def ivalNothingSpec : ChangeSpec := { name := "ivalNothing", fn := fun _ => fun
  | [d1, d2] => { results := [.lit (.bool true)], args := [d1, d2] }
  | _ => none }
def ivalNothingRow : OpenClaim := { program := "yteodkepnalhceaa", sum := "23718b459987ed7c5791f9bfed7e70aa4e19a7561a29a6058831aeee401882af", func := "scarp/scarplaw11.IvalNothing", spec := "ivalNothing", unfollowed := true, recurses := true, apart := false }
def IvalNothingSaid : Prop := ivalNothingRow.holds Try.pinned (OpenSpec.ofChange ivalNothingSpec)

/-- ITS FALSE NEIGHBOUR: 'it returns false'. Refute it at one input. -/
def ivalNothingWrong : ChangeSpec := { name := "ivalNothing", fn := fun _ => fun
  | [d1, d2] => { results := [.lit (.bool false)], args := [d1, d2] }
  | _ => none }
def IvalNothingWrongFalsely : Prop := ivalNothingRow.holds Try.pinned (OpenSpec.ofChange ivalNothingWrong)

/-- 'scarplaw11.IvalCuts': WHATEVER THE INPUT: true; the input reads as it did. -/
def ivalCutsSpec : ChangeSpec := { name := "ivalCuts", fn := fun _ => fun
  | [d1, d2] => { results := [.lit (.bool true)], args := [d1, d2] }
  | _ => none }
def ivalCutsRow : OpenClaim := { program := "yteodkepnalhceaa", sum := "23718b459987ed7c5791f9bfed7e70aa4e19a7561a29a6058831aeee401882af", func := "scarp/scarplaw11.IvalCuts", spec := "ivalCuts", unfollowed := true, recurses := true, apart := false }
def IvalCutsSaid : Prop := ivalCutsRow.holds Try.pinned (OpenSpec.ofChange ivalCutsSpec)

/-- ITS FALSE NEIGHBOUR: 'it returns false'. Refute it at one input. -/
def ivalCutsWrong : ChangeSpec := { name := "ivalCuts", fn := fun _ => fun
  | [d1, d2] => { results := [.lit (.bool false)], args := [d1, d2] }
  | _ => none }
def IvalCutsWrongFalsely : Prop := ivalCutsRow.holds Try.pinned (OpenSpec.ofChange ivalCutsWrong)

/-- 'scarplaw14.WbufRefused': WHATEVER THE INPUT: true; the input reads as it did. -/
def wbufRefusedSpec : ChangeSpec := { name := "wbufRefused", fn := fun _ => fun
  | [d1, d2, d3, d4] => { results := [.lit (.bool true)], args := [d1, d2, d3, d4] }
  | _ => none }
def wbufRefusedRow : OpenClaim := { program := "yteodkepnalhceaa", sum := "23718b459987ed7c5791f9bfed7e70aa4e19a7561a29a6058831aeee401882af", func := "scarp/scarplaw14.WbufRefused", spec := "wbufRefused", unfollowed := true, recurses := true, apart := false }
def WbufRefusedSaid : Prop := wbufRefusedRow.holds Try.pinned (OpenSpec.ofChange wbufRefusedSpec)

/-- ITS FALSE NEIGHBOUR: 'it returns false'. Refute it at one input. -/
def wbufRefusedWrong : ChangeSpec := { name := "wbufRefused", fn := fun _ => fun
  | [d1, d2, d3, d4] => { results := [.lit (.bool false)], args := [d1, d2, d3, d4] }
  | _ => none }
def WbufRefusedWrongFalsely : Prop := wbufRefusedRow.holds Try.pinned (OpenSpec.ofChange wbufRefusedWrong)

/-- 'scarplaw14.WbufParts': WHATEVER THE INPUT: true; the input reads as it did. -/
def wbufPartsSpec : ChangeSpec := { name := "wbufParts", fn := fun _ => fun
  | [d1, d2] => { results := [.lit (.bool true)], args := [d1, d2] }
  | _ => none }
def wbufPartsRow : OpenClaim := { program := "yteodkepnalhceaa", sum := "23718b459987ed7c5791f9bfed7e70aa4e19a7561a29a6058831aeee401882af", func := "scarp/scarplaw14.WbufParts", spec := "wbufParts", unfollowed := true, recurses := true, apart := false }
def WbufPartsSaid : Prop := wbufPartsRow.holds Try.pinned (OpenSpec.ofChange wbufPartsSpec)

/-- ITS FALSE NEIGHBOUR: 'it returns false'. Refute it at one input. -/
def wbufPartsWrong : ChangeSpec := { name := "wbufParts", fn := fun _ => fun
  | [d1, d2] => { results := [.lit (.bool false)], args := [d1, d2] }
  | _ => none }
def WbufPartsWrongFalsely : Prop := wbufPartsRow.holds Try.pinned (OpenSpec.ofChange wbufPartsWrong)

/-- 'scarplaw14.WbufLast': WHATEVER THE INPUT: true; the input reads as it did. -/
def wbufLastSpec : ChangeSpec := { name := "wbufLast", fn := fun _ => fun
  | [d] => { results := [.lit (.bool true)], args := [d] }
  | _ => none }
def wbufLastRow : OpenClaim := { program := "yteodkepnalhceaa", sum := "23718b459987ed7c5791f9bfed7e70aa4e19a7561a29a6058831aeee401882af", func := "scarp/scarplaw14.WbufLast", spec := "wbufLast", unfollowed := true, recurses := true, apart := false }
def WbufLastSaid : Prop := wbufLastRow.holds Try.pinned (OpenSpec.ofChange wbufLastSpec)

/-- ITS FALSE NEIGHBOUR: 'it returns false'. Refute it at one input. -/
def wbufLastWrong : ChangeSpec := { name := "wbufLast", fn := fun _ => fun
  | [d] => { results := [.lit (.bool false)], args := [d] }
  | _ => none }
def WbufLastWrongFalsely : Prop := wbufLastRow.holds Try.pinned (OpenSpec.ofChange wbufLastWrong)

/-- 'scarplaw14.WbufPlays': WHATEVER THE INPUT: true; the input reads as it did. -/
def wbufPlaysSpec : ChangeSpec := { name := "wbufPlays", fn := fun _ => fun
  | [d1, d2, d3, d4] => { results := [.lit (.bool true)], args := [d1, d2, d3, d4] }
  | _ => none }
def wbufPlaysRow : OpenClaim := { program := "yteodkepnalhceaa", sum := "23718b459987ed7c5791f9bfed7e70aa4e19a7561a29a6058831aeee401882af", func := "scarp/scarplaw14.WbufPlays", spec := "wbufPlays", unfollowed := true, recurses := true, apart := false }
def WbufPlaysSaid : Prop := wbufPlaysRow.holds Try.pinned (OpenSpec.ofChange wbufPlaysSpec)

/-- ITS FALSE NEIGHBOUR: 'it returns false'. Refute it at one input. -/
def wbufPlaysWrong : ChangeSpec := { name := "wbufPlays", fn := fun _ => fun
  | [d1, d2, d3, d4] => { results := [.lit (.bool false)], args := [d1, d2, d3, d4] }
  | _ => none }
def WbufPlaysWrongFalsely : Prop := wbufPlaysRow.holds Try.pinned (OpenSpec.ofChange wbufPlaysWrong)

/-- 'scarplaw14.WbufNothing': WHATEVER THE INPUT: true; the input reads as it did. -/
def wbufNothingSpec : ChangeSpec := { name := "wbufNothing", fn := fun _ => fun
  | [d] => { results := [.lit (.bool true)], args := [d] }
  | _ => none }
def wbufNothingRow : OpenClaim := { program := "yteodkepnalhceaa", sum := "23718b459987ed7c5791f9bfed7e70aa4e19a7561a29a6058831aeee401882af", func := "scarp/scarplaw14.WbufNothing", spec := "wbufNothing", unfollowed := true, recurses := true, apart := false }
def WbufNothingSaid : Prop := wbufNothingRow.holds Try.pinned (OpenSpec.ofChange wbufNothingSpec)

/-- ITS FALSE NEIGHBOUR: 'it returns false'. Refute it at one input. -/
def wbufNothingWrong : ChangeSpec := { name := "wbufNothing", fn := fun _ => fun
  | [d] => { results := [.lit (.bool false)], args := [d] }
  | _ => none }
def WbufNothingWrongFalsely : Prop := wbufNothingRow.holds Try.pinned (OpenSpec.ofChange wbufNothingWrong)

/- THE SECOND FORM. 'bulk': how many values and letters a reading holds, each counted each time it is reached (what is shared counts as often as it is met; a slice's spare places count too). A statement '..UptoSaid' is the law's where the arguments, and the package variables that the reading takes, are together of bulk at most 1048576: NARROWER than '..Said'. Prove '..Said' where nothing that the law and all that it calls make is longer than what came in: it says more and counts as full. Else prove '..UptoSaid'. A law counts once. -/
mutual
def uptoBulk {H : Type} : DataW H → Nat
  | .lit (.string bytes) => bytes.length + 1
  | .lit _ => 1
  | .nil => 1
  | .ptr d => uptoBulk d + 1
  | .slice elems spare => uptoBulkAll elems + uptoBulkAll spare + 1
  | .agg parts => uptoBulkAll parts + 1
  | .iface _ d => uptoBulk d + 1
  | .map entries => uptoBulkEntries entries + 1
  | .held _ => 1
def uptoBulkAll {H : Type} : List (DataW H) → Nat
  | [] => 0
  | d :: r => uptoBulk d + uptoBulkAll r
def uptoBulkEntries {H : Type} : List (Lit × DataW H) → Nat
  | [] => 0
  | x :: r => uptoBulkEntry x + uptoBulkEntries r
def uptoBulkEntry {H : Type} : Lit × DataW H → Nat
  | (.string bytes, d) => bytes.length + uptoBulk d + 1
  | (_, d) => uptoBulk d + 1
 end
def uptoSmall : (H : Type) → List (DataW H) → Bool := fun _ ds => decide (uptoBulkAll ds ≤ 1048576)
def OpenSpec.upto (s : _root_.Go.ChangeSpec) : _root_.Go.OpenSpec := { _root_.Go.OpenSpec.ofChange s with cond := some uptoSmall }

/-- 'scarplaw11.IvalRoom', WHERE WHAT IT READS IS OF BULK AT MOST 1048576: true; the input reads as it did. -/
def ivalRoomUptoRow : OpenClaim := { program := "yteodkepnalhceaa", sum := "23718b459987ed7c5791f9bfed7e70aa4e19a7561a29a6058831aeee401882af", func := "scarp/scarplaw11.IvalRoom", spec := "ivalRoom", unfollowed := true, recurses := true, apart := false, narrowed := true }
def IvalRoomUptoSaid : Prop := ivalRoomUptoRow.holds Try.pinned (OpenSpec.upto ivalRoomSpec)

/-- 'scarplaw11.IvalJoins', WHERE WHAT IT READS IS OF BULK AT MOST 1048576: true; the input reads as it did. -/
def ivalJoinsUptoRow : OpenClaim := { program := "yteodkepnalhceaa", sum := "23718b459987ed7c5791f9bfed7e70aa4e19a7561a29a6058831aeee401882af", func := "scarp/scarplaw11.IvalJoins", spec := "ivalJoins", unfollowed := true, recurses := true, apart := false, narrowed := true }
def IvalJoinsUptoSaid : Prop := ivalJoinsUptoRow.holds Try.pinned (OpenSpec.upto ivalJoinsSpec)

/-- 'scarplaw11.IvalBits', WHERE WHAT IT READS IS OF BULK AT MOST 1048576: true; the input reads as it did. -/
def ivalBitsUptoRow : OpenClaim := { program := "yteodkepnalhceaa", sum := "23718b459987ed7c5791f9bfed7e70aa4e19a7561a29a6058831aeee401882af", func := "scarp/scarplaw11.IvalBits", spec := "ivalBits", unfollowed := true, recurses := true, apart := false, narrowed := true }
def IvalBitsUptoSaid : Prop := ivalBitsUptoRow.holds Try.pinned (OpenSpec.upto ivalBitsSpec)

/-- 'scarplaw11.IvalNothing', WHERE WHAT IT READS IS OF BULK AT MOST 1048576: true; the input reads as it did. -/
def ivalNothingUptoRow : OpenClaim := { program := "yteodkepnalhceaa", sum := "23718b459987ed7c5791f9bfed7e70aa4e19a7561a29a6058831aeee401882af", func := "scarp/scarplaw11.IvalNothing", spec := "ivalNothing", unfollowed := true, recurses := true, apart := false, narrowed := true }
def IvalNothingUptoSaid : Prop := ivalNothingUptoRow.holds Try.pinned (OpenSpec.upto ivalNothingSpec)

/-- 'scarplaw11.IvalCuts', WHERE WHAT IT READS IS OF BULK AT MOST 1048576: true; the input reads as it did. -/
def ivalCutsUptoRow : OpenClaim := { program := "yteodkepnalhceaa", sum := "23718b459987ed7c5791f9bfed7e70aa4e19a7561a29a6058831aeee401882af", func := "scarp/scarplaw11.IvalCuts", spec := "ivalCuts", unfollowed := true, recurses := true, apart := false, narrowed := true }
def IvalCutsUptoSaid : Prop := ivalCutsUptoRow.holds Try.pinned (OpenSpec.upto ivalCutsSpec)

/-- 'scarplaw14.WbufRefused', WHERE WHAT IT READS IS OF BULK AT MOST 1048576: true; the input reads as it did. -/
def wbufRefusedUptoRow : OpenClaim := { program := "yteodkepnalhceaa", sum := "23718b459987ed7c5791f9bfed7e70aa4e19a7561a29a6058831aeee401882af", func := "scarp/scarplaw14.WbufRefused", spec := "wbufRefused", unfollowed := true, recurses := true, apart := false, narrowed := true }
def WbufRefusedUptoSaid : Prop := wbufRefusedUptoRow.holds Try.pinned (OpenSpec.upto wbufRefusedSpec)

/-- 'scarplaw14.WbufParts', WHERE WHAT IT READS IS OF BULK AT MOST 1048576: true; the input reads as it did. -/
def wbufPartsUptoRow : OpenClaim := { program := "yteodkepnalhceaa", sum := "23718b459987ed7c5791f9bfed7e70aa4e19a7561a29a6058831aeee401882af", func := "scarp/scarplaw14.WbufParts", spec := "wbufParts", unfollowed := true, recurses := true, apart := false, narrowed := true }
def WbufPartsUptoSaid : Prop := wbufPartsUptoRow.holds Try.pinned (OpenSpec.upto wbufPartsSpec)

/-- 'scarplaw14.WbufLast', WHERE WHAT IT READS IS OF BULK AT MOST 1048576: true; the input reads as it did. -/
def wbufLastUptoRow : OpenClaim := { program := "yteodkepnalhceaa", sum := "23718b459987ed7c5791f9bfed7e70aa4e19a7561a29a6058831aeee401882af", func := "scarp/scarplaw14.WbufLast", spec := "wbufLast", unfollowed := true, recurses := true, apart := false, narrowed := true }
def WbufLastUptoSaid : Prop := wbufLastUptoRow.holds Try.pinned (OpenSpec.upto wbufLastSpec)

/-- 'scarplaw14.WbufPlays', WHERE WHAT IT READS IS OF BULK AT MOST 1048576: true; the input reads as it did. -/
def wbufPlaysUptoRow : OpenClaim := { program := "yteodkepnalhceaa", sum := "23718b459987ed7c5791f9bfed7e70aa4e19a7561a29a6058831aeee401882af", func := "scarp/scarplaw14.WbufPlays", spec := "wbufPlays", unfollowed := true, recurses := true, apart := false, narrowed := true }
def WbufPlaysUptoSaid : Prop := wbufPlaysUptoRow.holds Try.pinned (OpenSpec.upto wbufPlaysSpec)

/-- 'scarplaw14.WbufNothing', WHERE WHAT IT READS IS OF BULK AT MOST 1048576: true; the input reads as it did. -/
def wbufNothingUptoRow : OpenClaim := { program := "yteodkepnalhceaa", sum := "23718b459987ed7c5791f9bfed7e70aa4e19a7561a29a6058831aeee401882af", func := "scarp/scarplaw14.WbufNothing", spec := "wbufNothing", unfollowed := true, recurses := true, apart := false, narrowed := true }
def WbufNothingUptoSaid : Prop := wbufNothingUptoRow.holds Try.pinned (OpenSpec.upto wbufNothingSpec)

end Rows
end Go.Proofs.Yteodkepnalhceaa
