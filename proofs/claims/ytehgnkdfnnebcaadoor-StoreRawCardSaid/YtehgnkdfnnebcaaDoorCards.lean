/-
  DERIVED. GIVEN WITH THE SEED: THE CARDS: each row of YtehgnkdfnnebcaaDoorRows.lean that lists a variable, with what it lists TIED to the program's text (the seventh form; the later family's looks); each row that meets fmt, with fmt's text TOLD by the authors' own Lean function (tested against real Go, not proved from fmt's source: count such statements apart). THE CARD IS WHAT COUNTS. Prove the row's statement (the work); the ties are given (YtehgnkdfnnebcaaDoorTie.lean); close each card by the builder's one call (the guide's Derived/Test/ToyasCard.lean, 'card_holds'). Laid BY PROGRAM, IN A SANDBOX (cutbox-door.mjs). By AI agents, Wed Nov 11 2026. No macro, syntax, notation, axiom, sorry.
-/
import Derived.Test.YtehgnkdfnnebcaaDoorRows
import GoSem.ClaimSeven
namespace Go.Proofs.YtehgnkdfnnebcaaDoor
namespace Rows

/-- THE TIED CARD OF 'aumbrylaw11.StoreRaw'. -/
def storeRawCard : Claim7 := { stood := { row := storeRawRow, standIns := [], harness := (true, "bbf7e14fc87f89f847f9d3f3756f40d6ed12a2cdaeb5db5158761e7ab38ab124"), looks := false }, kinds := [], alts := [], laidByText := true, laidKinds := [.data, .data, .data], laidTests := true, laidLooks := .later }
def StoreRawCardSaid : Prop := Claim7.holds Tryd.pinned (.plain (OpenSpec.ofChange storeRawSpec)) storeRawCard

/-- THE SECOND FORM's CARD OF 'aumbrylaw11.StoreRaw'. -/
def storeRawUptoCard : Claim7 := { stood := { row := storeRawUptoRow, standIns := [], harness := (true, "bbf7e14fc87f89f847f9d3f3756f40d6ed12a2cdaeb5db5158761e7ab38ab124"), looks := false }, kinds := [], alts := [], laidByText := true, laidKinds := [.data, .data, .data], laidTests := true, laidLooks := .later }
def StoreRawUptoCardSaid : Prop := Claim7.holds Tryd.pinned (.plain (OpenSpec.upto storeRawSpec)) storeRawUptoCard
end Rows
end Go.Proofs.YtehgnkdfnnebcaaDoor
