/-
  DERIVED. GIVEN WITH THE SEED: THE CARDS: each row of YtdlkghdfkjdajaaGreatDoorRows.lean that lists a variable, with what it lists TIED to the program's text (the seventh form; the later family's looks); each row that meets fmt, with fmt's text TOLD by the authors' own Lean function (tested against real Go, not proved from fmt's source: count such statements apart). THE CARD IS WHAT COUNTS. Prove the row's statement (the work); the ties are given (YtdlkghdfkjdajaaGreatDoorTie.lean); close each card by the builder's one call (the guide's Derived/Test/ToyasCard.lean, 'card_holds'). Laid BY PROGRAM, IN A SANDBOX (cutbox-door.mjs). By AI agents, Wed Nov 11 2026. No macro, syntax, notation, axiom, sorry.
-/
import Derived.Test.YtdlkghdfkjdajaaGreatDoorRows
import GoSem.ClaimSeven
namespace Go.Proofs.YtdlkghdfkjdajaaGreatDoor
namespace Rows

/-- THE TIED CARD OF 'aumbrylaw12.KeysOnce'. -/
def keysOnceCard : Claim7 := { stood := { row := keysOnceRow, standIns := [], harness := (true, "0081b5a19603a05dbfcb125aa4d6b9b56c4d1c6c3b04b51f58fe28c4802a6139"), looks := false }, kinds := [], alts := [], laidByText := true, laidKinds := [.data, .data, .data], laidTests := true, laidLooks := .later }
def KeysOnceCardSaid : Prop := Claim7.holds Tryz.pinned (.plain (OpenSpec.ofChange keysOnceSpec)) keysOnceCard

/-- THE TIED CARD OF 'aumbrylaw12.KeysPlays'. -/
def keysPlaysCard : Claim7 := { stood := { row := keysPlaysRow, standIns := [], harness := (true, "0081b5a19603a05dbfcb125aa4d6b9b56c4d1c6c3b04b51f58fe28c4802a6139"), looks := false }, kinds := [], alts := [], laidByText := true, laidKinds := [.data, .data, .data], laidTests := true, laidLooks := .later }
def KeysPlaysCardSaid : Prop := Claim7.holds Tryz.pinned (.plain (OpenSpec.ofChange keysPlaysSpec)) keysPlaysCard

/-- THE SECOND FORM's CARD OF 'aumbrylaw12.KeysOnce'. -/
def keysOnceUptoCard : Claim7 := { stood := { row := keysOnceUptoRow, standIns := [], harness := (true, "0081b5a19603a05dbfcb125aa4d6b9b56c4d1c6c3b04b51f58fe28c4802a6139"), looks := false }, kinds := [], alts := [], laidByText := true, laidKinds := [.data, .data, .data], laidTests := true, laidLooks := .later }
def KeysOnceUptoCardSaid : Prop := Claim7.holds Tryz.pinned (.plain (OpenSpec.upto keysOnceSpec)) keysOnceUptoCard

/-- THE SECOND FORM's CARD OF 'aumbrylaw12.KeysPlays'. -/
def keysPlaysUptoCard : Claim7 := { stood := { row := keysPlaysUptoRow, standIns := [], harness := (true, "0081b5a19603a05dbfcb125aa4d6b9b56c4d1c6c3b04b51f58fe28c4802a6139"), looks := false }, kinds := [], alts := [], laidByText := true, laidKinds := [.data, .data, .data], laidTests := true, laidLooks := .later }
def KeysPlaysUptoCardSaid : Prop := Claim7.holds Tryz.pinned (.plain (OpenSpec.upto keysPlaysSpec)) keysPlaysUptoCard
end Rows
end Go.Proofs.YtdlkghdfkjdajaaGreatDoor
