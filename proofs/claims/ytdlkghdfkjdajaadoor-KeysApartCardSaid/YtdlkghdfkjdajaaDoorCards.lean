/-
  DERIVED. GIVEN WITH THE SEED: THE CARDS: each row of YtdlkghdfkjdajaaDoorRows.lean that lists a variable, with what it lists TIED to the program's text (the seventh form; the later family's looks); each row that meets fmt, with fmt's text TOLD by the authors' own Lean function (tested against real Go, not proved from fmt's source: count such statements apart). THE CARD IS WHAT COUNTS. Prove the row's statement (the work); the ties are given (YtdlkghdfkjdajaaDoorTie.lean); close each card by the builder's one call (the guide's Derived/Test/ToyasCard.lean, 'card_holds'). Laid BY PROGRAM, IN A SANDBOX (cutbox-door.mjs). By AI agents, Wed Nov 11 2026. No macro, syntax, notation, axiom, sorry.
-/
import Derived.Test.YtdlkghdfkjdajaaDoorRows
import GoSem.ClaimSeven
namespace Go.Proofs.YtdlkghdfkjdajaaDoor
namespace Rows

/-- THE TIED CARD OF 'aumbrylaw12.KeysApart'. -/
def keysApartCard : Claim7 := { stood := { row := keysApartRow, standIns := [], harness := (true, "96205b8aacaa595d91dadaed018c83a3adc6700bbfb44e5a0cdef77a56fc6492"), looks := false }, kinds := [], alts := [], laidByText := true, laidKinds := [.data, .data, .data], laidTests := true, laidLooks := .later }
def KeysApartCardSaid : Prop := Claim7.holds Tryd.pinned (.plain (OpenSpec.ofChange keysApartSpec)) keysApartCard

/-- THE TIED CARD OF 'aumbrylaw12.KeysNews'. -/
def keysNewsCard : Claim7 := { stood := { row := keysNewsRow, standIns := [], harness := (true, "96205b8aacaa595d91dadaed018c83a3adc6700bbfb44e5a0cdef77a56fc6492"), looks := false }, kinds := [], alts := [], laidByText := true, laidKinds := [.data, .data, .data], laidTests := true, laidLooks := .later }
def KeysNewsCardSaid : Prop := Claim7.holds Tryd.pinned (.plain (OpenSpec.ofChange keysNewsSpec)) keysNewsCard

/-- THE SECOND FORM's CARD OF 'aumbrylaw12.KeysApart'. -/
def keysApartUptoCard : Claim7 := { stood := { row := keysApartUptoRow, standIns := [], harness := (true, "96205b8aacaa595d91dadaed018c83a3adc6700bbfb44e5a0cdef77a56fc6492"), looks := false }, kinds := [], alts := [], laidByText := true, laidKinds := [.data, .data, .data], laidTests := true, laidLooks := .later }
def KeysApartUptoCardSaid : Prop := Claim7.holds Tryd.pinned (.plain (OpenSpec.upto keysApartSpec)) keysApartUptoCard

/-- THE SECOND FORM's CARD OF 'aumbrylaw12.KeysNews'. -/
def keysNewsUptoCard : Claim7 := { stood := { row := keysNewsUptoRow, standIns := [], harness := (true, "96205b8aacaa595d91dadaed018c83a3adc6700bbfb44e5a0cdef77a56fc6492"), looks := false }, kinds := [], alts := [], laidByText := true, laidKinds := [.data, .data, .data], laidTests := true, laidLooks := .later }
def KeysNewsUptoCardSaid : Prop := Claim7.holds Tryd.pinned (.plain (OpenSpec.upto keysNewsSpec)) keysNewsUptoCard
end Rows
end Go.Proofs.YtdlkghdfkjdajaaDoor
