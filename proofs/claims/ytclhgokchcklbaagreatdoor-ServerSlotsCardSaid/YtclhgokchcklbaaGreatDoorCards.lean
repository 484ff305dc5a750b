/-
  DERIVED. GIVEN WITH THE SEED: THE CARDS: each row of YtclhgokchcklbaaGreatDoorRows.lean that lists a variable, with what it lists TIED to the program's text (the seventh form; the later family's looks); each row that meets fmt, with fmt's text TOLD by the authors' own Lean function (tested against real Go, not proved from fmt's source: count such statements apart). THE CARD IS WHAT COUNTS. Prove the row's statement (the work); the ties are given (YtclhgokchcklbaaGreatDoorTie.lean); close each card by the builder's one call (the guide's Derived/Test/ToyasCard.lean, 'card_holds'). Laid BY PROGRAM, IN A SANDBOX (cutbox-door.mjs). By AI agents, Wed Nov 11 2026. No macro, syntax, notation, axiom, sorry.
-/
import Derived.Test.YtclhgokchcklbaaGreatDoorRows
import GoSem.ClaimSeven
namespace Go.Proofs.YtclhgokchcklbaaGreatDoor
namespace Rows

/-- THE TIED CARD OF 'aumbrylaw16.ServerNews'. -/
def serverNewsCard : Claim7 := { stood := { row := serverNewsRow, standIns := [], harness := (true, "a845013f8f0fa5f41c65071f8eac14b546e154596c9a28aae1fa256e14f8ee86"), looks := true }, kinds := [], alts := [], laidByText := true, laidKinds := [.data, .data, .data], laidTests := true, laidLooks := .later }
def ServerNewsCardSaid : Prop := Claim7.holds Tryz.pinned (.plain (OpenSpec.ofChange serverNewsSpec)) serverNewsCard

/-- THE TIED CARD OF 'aumbrylaw16.ServerSlots'. -/
def serverSlotsCard : Claim7 := { stood := { row := serverSlotsRow, standIns := [], harness := (true, "a845013f8f0fa5f41c65071f8eac14b546e154596c9a28aae1fa256e14f8ee86"), looks := true }, kinds := [], alts := [], laidByText := true, laidKinds := [.data, .data, .data], laidTests := true, laidLooks := .later }
def ServerSlotsCardSaid : Prop := Claim7.holds Tryz.pinned (.plain (OpenSpec.ofChange serverSlotsSpec)) serverSlotsCard

/-- THE TIED CARD OF 'aumbrylaw16.ServerPlays'. -/
def serverPlaysCard : Claim7 := { stood := { row := serverPlaysRow, standIns := [], harness := (true, "a845013f8f0fa5f41c65071f8eac14b546e154596c9a28aae1fa256e14f8ee86"), looks := true }, kinds := [], alts := [], laidByText := true, laidKinds := [.data, .data, .data], laidTests := true, laidLooks := .later }
def ServerPlaysCardSaid : Prop := Claim7.holds Tryz.pinned (.plain (OpenSpec.ofChange serverPlaysSpec)) serverPlaysCard

/-- THE TIED CARD OF 'aumbrylaw16.ServerClones'. -/
def serverClonesCard : Claim7 := { stood := { row := serverClonesRow, standIns := [], harness := (true, "a845013f8f0fa5f41c65071f8eac14b546e154596c9a28aae1fa256e14f8ee86"), looks := true }, kinds := [], alts := [], laidByText := true, laidKinds := [.data, .data, .data], laidTests := true, laidLooks := .later }
def ServerClonesCardSaid : Prop := Claim7.holds Tryz.pinned (.plain (OpenSpec.ofChange serverClonesSpec)) serverClonesCard

/-- THE SECOND FORM's CARD OF 'aumbrylaw16.ServerNews'. -/
def serverNewsUptoCard : Claim7 := { stood := { row := serverNewsUptoRow, standIns := [], harness := (true, "a845013f8f0fa5f41c65071f8eac14b546e154596c9a28aae1fa256e14f8ee86"), looks := true }, kinds := [], alts := [], laidByText := true, laidKinds := [.data, .data, .data], laidTests := true, laidLooks := .later }
def ServerNewsUptoCardSaid : Prop := Claim7.holds Tryz.pinned (.plain (OpenSpec.upto serverNewsSpec)) serverNewsUptoCard

/-- THE SECOND FORM's CARD OF 'aumbrylaw16.ServerSlots'. -/
def serverSlotsUptoCard : Claim7 := { stood := { row := serverSlotsUptoRow, standIns := [], harness := (true, "a845013f8f0fa5f41c65071f8eac14b546e154596c9a28aae1fa256e14f8ee86"), looks := true }, kinds := [], alts := [], laidByText := true, laidKinds := [.data, .data, .data], laidTests := true, laidLooks := .later }
def ServerSlotsUptoCardSaid : Prop := Claim7.holds Tryz.pinned (.plain (OpenSpec.upto serverSlotsSpec)) serverSlotsUptoCard

/-- THE SECOND FORM's CARD OF 'aumbrylaw16.ServerPlays'. -/
def serverPlaysUptoCard : Claim7 := { stood := { row := serverPlaysUptoRow, standIns := [], harness := (true, "a845013f8f0fa5f41c65071f8eac14b546e154596c9a28aae1fa256e14f8ee86"), looks := true }, kinds := [], alts := [], laidByText := true, laidKinds := [.data, .data, .data], laidTests := true, laidLooks := .later }
def ServerPlaysUptoCardSaid : Prop := Claim7.holds Tryz.pinned (.plain (OpenSpec.upto serverPlaysSpec)) serverPlaysUptoCard

/-- THE SECOND FORM's CARD OF 'aumbrylaw16.ServerClones'. -/
def serverClonesUptoCard : Claim7 := { stood := { row := serverClonesUptoRow, standIns := [], harness := (true, "a845013f8f0fa5f41c65071f8eac14b546e154596c9a28aae1fa256e14f8ee86"), looks := true }, kinds := [], alts := [], laidByText := true, laidKinds := [.data, .data, .data], laidTests := true, laidLooks := .later }
def ServerClonesUptoCardSaid : Prop := Claim7.holds Tryz.pinned (.plain (OpenSpec.upto serverClonesSpec)) serverClonesUptoCard
end Rows
end Go.Proofs.YtclhgokchcklbaaGreatDoor
