/- Texts of this proof, packed: ServerSlotsJoin. -/
import Derived.Test.YtclhgokchcklbaaGreatDoorRows
import Derived.WalkKit
import Derived.ProofKit
import Derived.ChangeOld
import Derived.Below
import Derived.OpenShut
import Derived.Stop.Joined
section
namespace Go.Proofs.YtclhgokchcklbaaGreatDoor.serverSlots
open Go Go.ChangeShapes Go.WideShapes Go.ChangeAt Go.RowKit
theorem joined : joinedFacts Tryz.pinned.checked.prog 4 Tryz.f4 Rows.serverSlotsSpec Rows.serverSlotsRow = true := by kernel_rfl
end Go.Proofs.YtclhgokchcklbaaGreatDoor.serverSlots
end
