/- Texts of this proof,packed: ServerApartJoin. -/
import Derived.Test.YtbbojbdigiibbaaGreatDoorRows
import Derived.WalkKit
import Derived.ProofKit
import Derived.ChangeOld
import Derived.Below
import Derived.OpenShut
import Derived.Stop.Joined
section
namespace Go.Proofs.YtbbojbdigiibbaaGreatDoor.serverApart
open Go Go.ChangeShapes Go.WideShapes Go.ChangeAt Go.RowKit
theorem joined:joinedFacts Tryz.pinned.checked.prog 8 Tryz.f8 Rows.serverApartSpec Rows.serverApartRow=true:=by kernel_rfl
end Go.Proofs.YtbbojbdigiibbaaGreatDoor.serverApart
end
