/- Texts of this proof,packed: ServerLeasesJoin. -/
import Derived.Test.YtbbojbdigiibbaaGreatDoorRows
import Derived.WalkKit
import Derived.ProofKit
import Derived.ChangeOld
import Derived.Below
import Derived.OpenShut
import Derived.Stop.Joined
section
namespace Go.Proofs.YtbbojbdigiibbaaGreatDoor.serverLeases
open Go Go.ChangeShapes Go.WideShapes Go.ChangeAt Go.RowKit
theorem joined:joinedFacts Tryz.pinned.checked.prog 10 Tryz.f10 Rows.serverLeasesSpec Rows.serverLeasesRow=true:=by kernel_rfl
end Go.Proofs.YtbbojbdigiibbaaGreatDoor.serverLeases
end
