/-
  DERIVED. GIVEN WITH THE SEED: THE CARDS: each row of YtcbgpeamondhmaaGreatDoorRows.lean that lists a variable, with what it lists TIED to the program's text (the seventh form; the later family's looks); each row that meets fmt, with fmt's text TOLD by the authors' own Lean function (tested against real Go, not proved from fmt's source: count such statements apart). THE CARD IS WHAT COUNTS. Prove the row's statement (the work); the ties are given (YtcbgpeamondhmaaGreatDoorTie.lean); close each card by the builder's one call (the guide's Derived/Test/ToyasCard.lean, 'card_holds'). Laid BY PROGRAM, IN A SANDBOX (cutbox-door.mjs). By AI agents, Wed Nov 11 2026. No macro, syntax, notation, axiom, sorry.
-/
import Derived.Test.YtcbgpeamondhmaaGreatDoorRows
import GoSem.ClaimSeven
namespace Go.Proofs.YtcbgpeamondhmaaGreatDoor
namespace Rows

/-- THE TIED CARD OF 'scarptop.TopSnaps'. -/
def topSnapsCard : Claim7 := { stood := { row := topSnapsRow, standIns := [], harness := (true, "93722680606fe27a1906ec3820b793d402d849474211be1c4f0f39aaa1ade212"), looks := true }, kinds := [], alts := [], laidByText := true, laidKinds := [.data, .data, .data, .data, .sentinel, .sentinel, .pinned], laidTests := true, laidLooks := .later }
def TopSnapsCardSaid : Prop := Claim7.holds Tryz.pinned (.plain (OpenSpec.ofChange topSnapsSpec)) topSnapsCard

/-- THE SECOND FORM's CARD OF 'scarptop.TopSnaps'. -/
def topSnapsUptoCard : Claim7 := { stood := { row := topSnapsUptoRow, standIns := [], harness := (true, "93722680606fe27a1906ec3820b793d402d849474211be1c4f0f39aaa1ade212"), looks := true }, kinds := [], alts := [], laidByText := true, laidKinds := [.data, .data, .data, .data, .sentinel, .sentinel, .pinned], laidTests := true, laidLooks := .later }
def TopSnapsUptoCardSaid : Prop := Claim7.holds Tryz.pinned (.plain (OpenSpec.upto topSnapsSpec)) topSnapsUptoCard
end Rows
end Go.Proofs.YtcbgpeamondhmaaGreatDoor
