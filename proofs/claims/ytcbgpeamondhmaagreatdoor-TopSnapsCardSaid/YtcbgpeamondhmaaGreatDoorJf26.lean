/- Closed facts. -/
import Derived.Test.YtcbgpeamondhmaaGreatDoorRows
import Derived.Test.YtcbgpeamondhmaaGreatDoorChecked
import Derived.ProofKit
import Derived.JoinedOf
namespace Go.Proofs.YtcbgpeamondhmaaGreatDoor
open Go
theorem jf26 : ((Rows.topSnapsRow.lifted == Tryz.pinned.checked.prog.liftsFinal)) = true := by kernel_rfl
end Go.Proofs.YtcbgpeamondhmaaGreatDoor
