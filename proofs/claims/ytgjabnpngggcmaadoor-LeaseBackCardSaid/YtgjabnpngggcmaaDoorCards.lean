/-
  DERIVED. GIVEN WITH THE SEED: THE CARDS: each row of YtgjabnpngggcmaaDoorRows.lean that lists a variable, with what it lists TIED to the program's text (the seventh form; the later family's looks); each row that meets fmt, with fmt's text TOLD by the authors' own Lean function (tested against real Go, not proved from fmt's source: count such statements apart). THE CARD IS WHAT COUNTS. Prove the row's statement (the work); the ties are given (YtgjabnpngggcmaaDoorTie.lean); close each card by the builder's one call (the guide's Derived/Test/ToyasCard.lean, 'card_holds'). Laid BY PROGRAM, IN A SANDBOX (cutbox-door.mjs). By AI agents, Wed Nov 11 2026. No macro, syntax, notation, axiom, sorry.
-/
import Derived.Test.YtgjabnpngggcmaaDoorRows
import GoSem.ClaimSeven
namespace Go.Proofs.YtgjabnpngggcmaaDoor
namespace Rows

/-- THE TIED CARD OF 'aumbrylaw15.LeaseBack'. -/
def leaseBackCard : Claim7 := { stood := { row := leaseBackRow, standIns := [], harness := (true, "2bc352a4a431bac1b540c270f34e142f8d334758ff4298eba4e37bfe38f1f0da"), looks := true }, kinds := [], alts := [], laidByText := true, laidKinds := [.data, .data, .data], laidTests := true, laidLooks := .later }
def LeaseBackCardSaid : Prop := Claim7.holds Tryd.pinned (.plain (OpenSpec.ofChange leaseBackSpec)) leaseBackCard

/-- THE SECOND FORM's CARD OF 'aumbrylaw15.LeaseBack'. -/
def leaseBackUptoCard : Claim7 := { stood := { row := leaseBackUptoRow, standIns := [], harness := (true, "2bc352a4a431bac1b540c270f34e142f8d334758ff4298eba4e37bfe38f1f0da"), looks := true }, kinds := [], alts := [], laidByText := true, laidKinds := [.data, .data, .data], laidTests := true, laidLooks := .later }
def LeaseBackUptoCardSaid : Prop := Claim7.holds Tryd.pinned (.plain (OpenSpec.upto leaseBackSpec)) leaseBackUptoCard
end Rows
end Go.Proofs.YtgjabnpngggcmaaDoor
