/- The statement ServerSlots, proved from its walk: for every input the call returns true, and the input reads as it did. -/
import Derived.Test.YtclhgokchcklbaaGreatDoorRows
import Derived.Test.YtclhgokchcklbaaGreatDoorPk22
import Derived.Test.YtclhgokchcklbaaGreatDoorPk23
import Derived.Test.YtclhgokchcklbaaGreatDoorPk08
import Derived.WalkKit
import Derived.ProofKit
import Derived.ChangeOld
import Derived.Below
import Derived.OpenShut
import Derived.ShutString
import Derived.Test.YtclhgokchcklbaaGreatDoorCards
import Derived.Test.YtclhgokchcklbaaGreatDoorTie
import Derived.SevenTiedAt
import Derived.LaidMore
import Derived.Stop.Joined
import Derived.Test.YtclhgokchcklbaaGreatDoorPk21
namespace Go.Proofs.YtclhgokchcklbaaGreatDoor.serverSlots
open Go Go.ChangeShapes Go.WideShapes Go.ChangeAt Go.RowKit Go.Mem
set_option linter.unusedVariables false
theorem said : Rows.ServerSlotsSaid :=
  OpenClaim.holds_of_wide 4 Tryz.f4 rfl rfl rfl rfl rfl rfl rfl ⟨rfl, rfl, rfl, rfl, rfl⟩ rfl rfl rfl rfl rfl (by kernel_rfl) Tryz.func4 joined
    (of_decide_eq_true (by kernel_rfl)) (by unfold Func.isWrapper; first | (rw [if_pos (by decide +kernel)]; kernel_rfl) | (rw [if_neg (by decide +kernel)]; exact ⟨rfl, rfl⟩))
    (fun os started H enc _ => lifted os started H enc)
theorem proved : Rows.ServerSlotsCardSaid :=
  Claim7.holds_tied_plain_at .later [] [.data, .data, .data] true Rows.serverSlotsCard.stood.harness true
    said (fun _ h => by cases h) (by kernel_rfl) (fun _ h => by cases h) serverSlots_row_tie rfl ⟨rfl, rfl⟩ (by kernel_rfl) rfl
    (fun f fn hf hfn => by
      obtain rfl : f = 4 := Option.some.inj ((show Tryz.prog.funcNamed "aumbry/aumbrylaw16.ServerSlots" = some 4 by kernel_rfl).symm.trans hf) |>.symm
      obtain rfl : fn = Tryz.f4 := (Option.some.inj (Tryz.func4.symm.trans hfn)).symm
      exact ⟨by kernel_rfl, fun j t ht => by
        rw [Tryz.params4] at ht
        have hm : t ∈ [38, 38, 4, 3, 3] := by simpa using Array.mem_of_getElem? ht
        have hall : ([38, 38, 4, 3, 3].all fun u => !Tryz.prog.wantsStandIn u) = true := by kernel_rfl
        exact (show Tryz.prog.wantsStandIn t = false by simpa using List.all_eq_true.1 hall t hm)⟩)
    (by kernel_rfl)
end Go.Proofs.YtclhgokchcklbaaGreatDoor.serverSlots
