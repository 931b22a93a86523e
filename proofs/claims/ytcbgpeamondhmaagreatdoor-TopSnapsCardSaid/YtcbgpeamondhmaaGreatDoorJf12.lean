/- Closed facts. -/
import Derived.Test.YtcbgpeamondhmaaGreatDoorRows
import Derived.Test.YtcbgpeamondhmaaGreatDoorChecked
import Derived.ProofKit
import Derived.JoinedOf
namespace Go.Proofs.YtcbgpeamondhmaaGreatDoor
open Go
theorem jf12 : ((Rows.topSnapsRow.named == Tryz.pinned.checked.prog.varsNamed 3)) = true := by kernel_rfl
end Go.Proofs.YtcbgpeamondhmaaGreatDoor
