/-
  DERIVED. GIVEN WITH THE SEED: THE CARDS: each row of YtbbojbdigiibbaaGreatDoorRows.lean that lists a variable, with what it lists TIED to the program's text (the seventh form; the later family's looks); each row that meets fmt, with fmt's text TOLD by the authors' own Lean function (tested against real Go, not proved from fmt's source: count such statements apart). THE CARD IS WHAT COUNTS. Prove the row's statement (the work); the ties are given (YtbbojbdigiibbaaGreatDoorTie.lean); close each card by the builder's one call (the guide's Derived/Test/ToyasCard.lean, 'card_holds'). Laid BY PROGRAM, IN A SANDBOX (cutbox-door.mjs). By AI agents, Wed Nov 11 2026. No macro, syntax, notation, axiom, sorry.
-/
import Derived.Test.YtbbojbdigiibbaaGreatDoorRows
import GoSem.ClaimSeven
namespace Go.Proofs.YtbbojbdigiibbaaGreatDoor
namespace Rows

/-- THE TIED CARD OF 'aumbrylaw16.ServerNews'. -/
def serverNewsCard : Claim7 := { stood := { row := serverNewsRow, standIns := [], harness := (true, "65f2d0f33494bf08aab94b642fdce696d11b3378461df4cd0ecb038accb7b6cf"), looks := true }, kinds := [], alts := [], laidByText := true, laidKinds := [.data, .data, .data], laidTests := true, laidLooks := .later }
def ServerNewsCardSaid : Prop := Claim7.holds Tryz.pinned (.plain (OpenSpec.ofChange serverNewsSpec)) serverNewsCard

/-- THE TIED CARD OF 'aumbrylaw16.ServerKinds'. -/
def serverKindsCard : Claim7 := { stood := { row := serverKindsRow, standIns := [], harness := (true, "65f2d0f33494bf08aab94b642fdce696d11b3378461df4cd0ecb038accb7b6cf"), looks := true }, kinds := [], alts := [], laidByText := true, laidKinds := [.data, .data, .data], laidTests := true, laidLooks := .later }
def ServerKindsCardSaid : Prop := Claim7.holds Tryz.pinned (.plain (OpenSpec.ofChange serverKindsSpec)) serverKindsCard

/-- THE TIED CARD OF 'aumbrylaw16.ServerFull'. -/
def serverFullCard : Claim7 := { stood := { row := serverFullRow, standIns := [], harness := (true, "65f2d0f33494bf08aab94b642fdce696d11b3378461df4cd0ecb038accb7b6cf"), looks := true }, kinds := [], alts := [], laidByText := true, laidKinds := [.data, .data, .data], laidTests := true, laidLooks := .later }
def ServerFullCardSaid : Prop := Claim7.holds Tryz.pinned (.plain (OpenSpec.ofChange serverFullSpec)) serverFullCard

/-- THE TIED CARD OF 'aumbrylaw16.ServerSlots'. -/
def serverSlotsCard : Claim7 := { stood := { row := serverSlotsRow, standIns := [], harness := (true, "65f2d0f33494bf08aab94b642fdce696d11b3378461df4cd0ecb038accb7b6cf"), looks := true }, kinds := [], alts := [], laidByText := true, laidKinds := [.data, .data, .data], laidTests := true, laidLooks := .later }
def ServerSlotsCardSaid : Prop := Claim7.holds Tryz.pinned (.plain (OpenSpec.ofChange serverSlotsSpec)) serverSlotsCard

/-- THE TIED CARD OF 'aumbrylaw16.ServerShares'. -/
def serverSharesCard : Claim7 := { stood := { row := serverSharesRow, standIns := [], harness := (true, "65f2d0f33494bf08aab94b642fdce696d11b3378461df4cd0ecb038accb7b6cf"), looks := true }, kinds := [], alts := [], laidByText := true, laidKinds := [.data, .data, .data], laidTests := true, laidLooks := .later }
def ServerSharesCardSaid : Prop := Claim7.holds Tryz.pinned (.plain (OpenSpec.ofChange serverSharesSpec)) serverSharesCard

/-- THE TIED CARD OF 'aumbrylaw16.ServerApart'. -/
def serverApartCard : Claim7 := { stood := { row := serverApartRow, standIns := [], harness := (true, "65f2d0f33494bf08aab94b642fdce696d11b3378461df4cd0ecb038accb7b6cf"), looks := true }, kinds := [], alts := [], laidByText := true, laidKinds := [.data, .data, .data], laidTests := true, laidLooks := .later }
def ServerApartCardSaid : Prop := Claim7.holds Tryz.pinned (.plain (OpenSpec.ofChange serverApartSpec)) serverApartCard

/-- THE TIED CARD OF 'aumbrylaw16.ServerRenews'. -/
def serverRenewsCard : Claim7 := { stood := { row := serverRenewsRow, standIns := [], harness := (true, "65f2d0f33494bf08aab94b642fdce696d11b3378461df4cd0ecb038accb7b6cf"), looks := true }, kinds := [], alts := [], laidByText := true, laidKinds := [.data, .data, .data], laidTests := true, laidLooks := .later }
def ServerRenewsCardSaid : Prop := Claim7.holds Tryz.pinned (.plain (OpenSpec.ofChange serverRenewsSpec)) serverRenewsCard

/-- THE TIED CARD OF 'aumbrylaw16.ServerLeases'. -/
def serverLeasesCard : Claim7 := { stood := { row := serverLeasesRow, standIns := [], harness := (true, "65f2d0f33494bf08aab94b642fdce696d11b3378461df4cd0ecb038accb7b6cf"), looks := true }, kinds := [], alts := [], laidByText := true, laidKinds := [.data, .data, .data], laidTests := true, laidLooks := .later }
def ServerLeasesCardSaid : Prop := Claim7.holds Tryz.pinned (.plain (OpenSpec.ofChange serverLeasesSpec)) serverLeasesCard

/-- THE TIED CARD OF 'aumbrylaw16.ServerPlays'. -/
def serverPlaysCard : Claim7 := { stood := { row := serverPlaysRow, standIns := [], harness := (true, "65f2d0f33494bf08aab94b642fdce696d11b3378461df4cd0ecb038accb7b6cf"), looks := true }, kinds := [], alts := [], laidByText := true, laidKinds := [.data, .data, .data], laidTests := true, laidLooks := .later }
def ServerPlaysCardSaid : Prop := Claim7.holds Tryz.pinned (.plain (OpenSpec.ofChange serverPlaysSpec)) serverPlaysCard

/-- THE TIED CARD OF 'aumbrylaw16.ServerClones'. -/
def serverClonesCard : Claim7 := { stood := { row := serverClonesRow, standIns := [], harness := (true, "65f2d0f33494bf08aab94b642fdce696d11b3378461df4cd0ecb038accb7b6cf"), looks := true }, kinds := [], alts := [], laidByText := true, laidKinds := [.data, .data, .data], laidTests := true, laidLooks := .later }
def ServerClonesCardSaid : Prop := Claim7.holds Tryz.pinned (.plain (OpenSpec.ofChange serverClonesSpec)) serverClonesCard

/-- THE SECOND FORM's CARD OF 'aumbrylaw16.ServerNews'. -/
def serverNewsUptoCard : Claim7 := { stood := { row := serverNewsUptoRow, standIns := [], harness := (true, "65f2d0f33494bf08aab94b642fdce696d11b3378461df4cd0ecb038accb7b6cf"), looks := true }, kinds := [], alts := [], laidByText := true, laidKinds := [.data, .data, .data], laidTests := true, laidLooks := .later }
def ServerNewsUptoCardSaid : Prop := Claim7.holds Tryz.pinned (.plain (OpenSpec.upto serverNewsSpec)) serverNewsUptoCard

/-- THE SECOND FORM's CARD OF 'aumbrylaw16.ServerKinds'. -/
def serverKindsUptoCard : Claim7 := { stood := { row := serverKindsUptoRow, standIns := [], harness := (true, "65f2d0f33494bf08aab94b642fdce696d11b3378461df4cd0ecb038accb7b6cf"), looks := true }, kinds := [], alts := [], laidByText := true, laidKinds := [.data, .data, .data], laidTests := true, laidLooks := .later }
def ServerKindsUptoCardSaid : Prop := Claim7.holds Tryz.pinned (.plain (OpenSpec.upto serverKindsSpec)) serverKindsUptoCard

/-- THE SECOND FORM's CARD OF 'aumbrylaw16.ServerFull'. -/
def serverFullUptoCard : Claim7 := { stood := { row := serverFullUptoRow, standIns := [], harness := (true, "65f2d0f33494bf08aab94b642fdce696d11b3378461df4cd0ecb038accb7b6cf"), looks := true }, kinds := [], alts := [], laidByText := true, laidKinds := [.data, .data, .data], laidTests := true, laidLooks := .later }
def ServerFullUptoCardSaid : Prop := Claim7.holds Tryz.pinned (.plain (OpenSpec.upto serverFullSpec)) serverFullUptoCard

/-- THE SECOND FORM's CARD OF 'aumbrylaw16.ServerSlots'. -/
def serverSlotsUptoCard : Claim7 := { stood := { row := serverSlotsUptoRow, standIns := [], harness := (true, "65f2d0f33494bf08aab94b642fdce696d11b3378461df4cd0ecb038accb7b6cf"), looks := true }, kinds := [], alts := [], laidByText := true, laidKinds := [.data, .data, .data], laidTests := true, laidLooks := .later }
def ServerSlotsUptoCardSaid : Prop := Claim7.holds Tryz.pinned (.plain (OpenSpec.upto serverSlotsSpec)) serverSlotsUptoCard

/-- THE SECOND FORM's CARD OF 'aumbrylaw16.ServerShares'. -/
def serverSharesUptoCard : Claim7 := { stood := { row := serverSharesUptoRow, standIns := [], harness := (true, "65f2d0f33494bf08aab94b642fdce696d11b3378461df4cd0ecb038accb7b6cf"), looks := true }, kinds := [], alts := [], laidByText := true, laidKinds := [.data, .data, .data], laidTests := true, laidLooks := .later }
def ServerSharesUptoCardSaid : Prop := Claim7.holds Tryz.pinned (.plain (OpenSpec.upto serverSharesSpec)) serverSharesUptoCard

/-- THE SECOND FORM's CARD OF 'aumbrylaw16.ServerApart'. -/
def serverApartUptoCard : Claim7 := { stood := { row := serverApartUptoRow, standIns := [], harness := (true, "65f2d0f33494bf08aab94b642fdce696d11b3378461df4cd0ecb038accb7b6cf"), looks := true }, kinds := [], alts := [], laidByText := true, laidKinds := [.data, .data, .data], laidTests := true, laidLooks := .later }
def ServerApartUptoCardSaid : Prop := Claim7.holds Tryz.pinned (.plain (OpenSpec.upto serverApartSpec)) serverApartUptoCard

/-- THE SECOND FORM's CARD OF 'aumbrylaw16.ServerRenews'. -/
def serverRenewsUptoCard : Claim7 := { stood := { row := serverRenewsUptoRow, standIns := [], harness := (true, "65f2d0f33494bf08aab94b642fdce696d11b3378461df4cd0ecb038accb7b6cf"), looks := true }, kinds := [], alts := [], laidByText := true, laidKinds := [.data, .data, .data], laidTests := true, laidLooks := .later }
def ServerRenewsUptoCardSaid : Prop := Claim7.holds Tryz.pinned (.plain (OpenSpec.upto serverRenewsSpec)) serverRenewsUptoCard

/-- THE SECOND FORM's CARD OF 'aumbrylaw16.ServerLeases'. -/
def serverLeasesUptoCard : Claim7 := { stood := { row := serverLeasesUptoRow, standIns := [], harness := (true, "65f2d0f33494bf08aab94b642fdce696d11b3378461df4cd0ecb038accb7b6cf"), looks := true }, kinds := [], alts := [], laidByText := true, laidKinds := [.data, .data, .data], laidTests := true, laidLooks := .later }
def ServerLeasesUptoCardSaid : Prop := Claim7.holds Tryz.pinned (.plain (OpenSpec.upto serverLeasesSpec)) serverLeasesUptoCard

/-- THE SECOND FORM's CARD OF 'aumbrylaw16.ServerPlays'. -/
def serverPlaysUptoCard : Claim7 := { stood := { row := serverPlaysUptoRow, standIns := [], harness := (true, "65f2d0f33494bf08aab94b642fdce696d11b3378461df4cd0ecb038accb7b6cf"), looks := true }, kinds := [], alts := [], laidByText := true, laidKinds := [.data, .data, .data], laidTests := true, laidLooks := .later }
def ServerPlaysUptoCardSaid : Prop := Claim7.holds Tryz.pinned (.plain (OpenSpec.upto serverPlaysSpec)) serverPlaysUptoCard

/-- THE SECOND FORM's CARD OF 'aumbrylaw16.ServerClones'. -/
def serverClonesUptoCard : Claim7 := { stood := { row := serverClonesUptoRow, standIns := [], harness := (true, "65f2d0f33494bf08aab94b642fdce696d11b3378461df4cd0ecb038accb7b6cf"), looks := true }, kinds := [], alts := [], laidByText := true, laidKinds := [.data, .data, .data], laidTests := true, laidLooks := .later }
def ServerClonesUptoCardSaid : Prop := Claim7.holds Tryz.pinned (.plain (OpenSpec.upto serverClonesSpec)) serverClonesUptoCard
end Rows
end Go.Proofs.YtbbojbdigiibbaaGreatDoor
