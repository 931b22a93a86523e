/- Closed facts. -/
import Derived.Test.YtcbgpeamondhmaaGreatDoorRows
import Derived.Test.YtcbgpeamondhmaaGreatDoorChecked
import Derived.ProofKit
import Derived.JoinedOf
namespace Go.Proofs.YtcbgpeamondhmaaGreatDoor
open Go
theorem jf4 : (namedTie Tryz.pinned.checked.prog Rows.topSnapsRow.named Rows.topSnapsSpec.vars) = true := by kernel_rfl
end Go.Proofs.YtcbgpeamondhmaaGreatDoor
