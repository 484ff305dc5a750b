/- Texts of this proof, packed: ServerNewsJoin. -/
import Derived.Test.YtclhgokchcklbaaGreatDoorRows
import Derived.WalkKit
import Derived.ProofKit
import Derived.ChangeOld
import Derived.Below
import Derived.OpenShut
import Derived.Stop.Joined
section
namespace Go.Proofs.YtclhgokchcklbaaGreatDoor.serverNews
open Go Go.ChangeShapes Go.WideShapes Go.ChangeAt Go.RowKit
theorem joined : joinedFacts Tryz.pinned.checked.prog 3 Tryz.f3 Rows.serverNewsSpec Rows.serverNewsRow = true := by kernel_rfl
end Go.Proofs.YtclhgokchcklbaaGreatDoor.serverNews
end
