/- Closed facts. -/
import Derived.Test.YtcbgpeamondhmaaGreatDoorRows
import Derived.Test.YtcbgpeamondhmaaGreatDoorChecked
import Derived.ProofKit
import Derived.JoinedOf
namespace Go.Proofs.YtcbgpeamondhmaaGreatDoor
open Go
theorem jf22 : ((Rows.topSnapsRow.plainKeys == Tryz.pinned.checked.prog.plainKeys)) = true := by kernel_rfl
end Go.Proofs.YtcbgpeamondhmaaGreatDoor
