/- Closed fact: what the program goes by. -/
import Derived.Test.YtcbgpeamondhmaaGreatDoorRows
import Derived.Test.YtcbgpeamondhmaaGreatDoorChecked
import Derived.ProofKit
import Derived.JoinedOf
import Derived.SevenTiedAt
namespace Go.Proofs.YtcbgpeamondhmaaGreatDoor
open Go
theorem jfG : false = Rows.topSnapsRow.goesBy Tryz.pinned.checked.prog := by kernel_rfl
end Go.Proofs.YtcbgpeamondhmaaGreatDoor
