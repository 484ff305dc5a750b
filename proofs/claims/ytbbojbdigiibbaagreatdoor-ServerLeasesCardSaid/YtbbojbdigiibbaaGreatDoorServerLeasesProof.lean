/- The statement ServerLeases,proved from its walk: for every input the call returns true,and the input reads as it did. -/
import Derived.Test.YtbbojbdigiibbaaGreatDoorRows
import Derived.Test.YtbbojbdigiibbaaGreatDoorPb25
import Derived.Test.YtbbojbdigiibbaaGreatDoorPb26
import Derived.Test.YtbbojbdigiibbaaGreatDoorPb09
import Derived.WalkKit
import Derived.ProofKit
import Derived.ChangeOld
import Derived.Below
import Derived.OpenShut
import Derived.ShutString
import Derived.Test.YtbbojbdigiibbaaGreatDoorPb19
import Derived.Test.YtbbojbdigiibbaaGreatDoorCards
import Derived.Test.YtbbojbdigiibbaaGreatDoorTie
import Derived.SevenTiedAt
import Derived.LaidMore
import Derived.Stop.Joined
import Derived.Test.YtbbojbdigiibbaaGreatDoorPb24
namespace Go.Proofs.YtbbojbdigiibbaaGreatDoor.serverLeases
open Go Go.ChangeShapes Go.WideShapes Go.ChangeAt Go.RowKit Go.Mem
set_option linter.unusedVariables false
theorem said:Rows.ServerLeasesSaid :=
 OpenClaim.holds_of_wide 10 Tryz.f10 rfl rfl rfl rfl rfl rfl rfl ⟨rfl,rfl,rfl,rfl,rfl⟩ rfl rfl rfl rfl rfl (by kernel_rfl) Tryz.func10 joined
  (of_decide_eq_true (by kernel_rfl)) (by unfold Func.isWrapper;first | (rw [if_pos (by decide +kernel)];kernel_rfl) | (rw [if_neg (by decide +kernel)];exact ⟨rfl,rfl⟩))
  (fun os started H enc _=>lifted os started H enc)
theorem proved:Rows.ServerLeasesCardSaid :=
 Claim7.holds_tied_plain_at .later [] [.data,.data,.data] true Rows.serverLeasesCard.stood.harness true
  said (fun _ h=>by cases h) (by kernel_rfl) (fun _ h=>by cases h) serverLeases_row_tie rfl ⟨rfl,rfl⟩ (by kernel_rfl) rfl
  (fun f fn hf hfn=>by
   obtain rfl : f = 10 := Option.some.inj ((show Tryz.prog.funcNamed "aumbry/aumbrylaw16.ServerLeases" = some 10 by kernel_rfl).symm.trans hf) |>.symm
   obtain rfl:fn=Tryz.f10:=(Option.some.inj (Tryz.func10.symm.trans hfn)).symm
   exact ⟨by kernel_rfl,fun j t ht=>by
    rw [Tryz.params10] at ht
    have hm:t∈[40,3]:=by simpa using Array.mem_of_getElem? ht
    have hall:([40,3].all fun u=>!Tryz.prog.wantsStandIn u)=true:=by kernel_rfl
    exact (show Tryz.prog.wantsStandIn t=false by simpa using List.all_eq_true.1 hall t hm)⟩)
  (by kernel_rfl)
end Go.Proofs.YtbbojbdigiibbaaGreatDoor.serverLeases
