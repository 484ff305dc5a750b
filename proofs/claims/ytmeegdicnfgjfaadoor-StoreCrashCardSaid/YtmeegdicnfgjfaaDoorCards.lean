/-
  DERIVED. GIVEN WITH THE SEED: THE CARDS: each row of YtmeegdicnfgjfaaDoorRows.lean that lists a variable, with what it lists TIED to the program's text (the seventh form; the later family's looks); each row that meets fmt, with fmt's text TOLD by the authors' own Lean function (tested against real Go, not proved from fmt's source: count such statements apart). THE CARD IS WHAT COUNTS. Prove the row's statement (the work); the ties are given (YtmeegdicnfgjfaaDoorTie.lean); close each card by the builder's one call (the guide's Derived/Test/ToyasCard.lean, 'card_holds'). Laid BY PROGRAM, IN A SANDBOX (cutbox-door.mjs). By AI agents, Wed Nov 11 2026. No macro, syntax, notation, axiom, sorry.
-/
import Derived.Test.YtmeegdicnfgjfaaDoorRows
import GoSem.ClaimSeven
namespace Go.Proofs.YtmeegdicnfgjfaaDoor
namespace Rows

/-- THE TIED CARD OF 'aumbrylaw11.StoreCrash'. -/
def storeCrashCard : Claim7 := { stood := { row := storeCrashRow, standIns := [], harness := (true, "f158a69a3380755fe58df08295c1e7991fb19358250c772b83f736a212a0f845"), looks := false }, kinds := [], alts := [], laidByText := true, laidKinds := [.data, .data, .data], laidTests := true, laidLooks := .later }
def StoreCrashCardSaid : Prop := Claim7.holds Tryd.pinned (.plain (OpenSpec.ofChange storeCrashSpec)) storeCrashCard

/-- THE TIED CARD OF 'aumbrylaw11.StoreTwice'. -/
def storeTwiceCard : Claim7 := { stood := { row := storeTwiceRow, standIns := [], harness := (true, "f158a69a3380755fe58df08295c1e7991fb19358250c772b83f736a212a0f845"), looks := false }, kinds := [], alts := [], laidByText := true, laidKinds := [.data, .data, .data], laidTests := true, laidLooks := .later }
def StoreTwiceCardSaid : Prop := Claim7.holds Tryd.pinned (.plain (OpenSpec.ofChange storeTwiceSpec)) storeTwiceCard

/-- THE TIED CARD OF 'aumbrylaw11.StoreOpens'. -/
def storeOpensCard : Claim7 := { stood := { row := storeOpensRow, standIns := [], harness := (true, "f158a69a3380755fe58df08295c1e7991fb19358250c772b83f736a212a0f845"), looks := false }, kinds := [], alts := [], laidByText := true, laidKinds := [.data, .data, .data], laidTests := true, laidLooks := .later }
def StoreOpensCardSaid : Prop := Claim7.holds Tryd.pinned (.plain (OpenSpec.ofChange storeOpensSpec)) storeOpensCard

/-- THE TIED CARD OF 'aumbrylaw11.StoreRaw'. -/
def storeRawCard : Claim7 := { stood := { row := storeRawRow, standIns := [], harness := (true, "f158a69a3380755fe58df08295c1e7991fb19358250c772b83f736a212a0f845"), looks := false }, kinds := [], alts := [], laidByText := true, laidKinds := [.data, .data, .data], laidTests := true, laidLooks := .later }
def StoreRawCardSaid : Prop := Claim7.holds Tryd.pinned (.plain (OpenSpec.ofChange storeRawSpec)) storeRawCard

/-- THE TIED CARD OF 'aumbrylaw11.StoreAgain'. -/
def storeAgainCard : Claim7 := { stood := { row := storeAgainRow, standIns := [], harness := (true, "f158a69a3380755fe58df08295c1e7991fb19358250c772b83f736a212a0f845"), looks := false }, kinds := [], alts := [], laidByText := true, laidKinds := [.data, .data, .data], laidTests := true, laidLooks := .later }
def StoreAgainCardSaid : Prop := Claim7.holds Tryd.pinned (.plain (OpenSpec.ofChange storeAgainSpec)) storeAgainCard

/-- THE TIED CARD OF 'aumbrylaw11.StoreDrops'. -/
def storeDropsCard : Claim7 := { stood := { row := storeDropsRow, standIns := [], harness := (true, "f158a69a3380755fe58df08295c1e7991fb19358250c772b83f736a212a0f845"), looks := false }, kinds := [], alts := [], laidByText := true, laidKinds := [.data, .data, .data], laidTests := true, laidLooks := .later }
def StoreDropsCardSaid : Prop := Claim7.holds Tryd.pinned (.plain (OpenSpec.ofChange storeDropsSpec)) storeDropsCard

/-- THE SECOND FORM's CARD OF 'aumbrylaw11.StoreCrash'. -/
def storeCrashUptoCard : Claim7 := { stood := { row := storeCrashUptoRow, standIns := [], harness := (true, "f158a69a3380755fe58df08295c1e7991fb19358250c772b83f736a212a0f845"), looks := false }, kinds := [], alts := [], laidByText := true, laidKinds := [.data, .data, .data], laidTests := true, laidLooks := .later }
def StoreCrashUptoCardSaid : Prop := Claim7.holds Tryd.pinned (.plain (OpenSpec.upto storeCrashSpec)) storeCrashUptoCard

/-- THE SECOND FORM's CARD OF 'aumbrylaw11.StoreTwice'. -/
def storeTwiceUptoCard : Claim7 := { stood := { row := storeTwiceUptoRow, standIns := [], harness := (true, "f158a69a3380755fe58df08295c1e7991fb19358250c772b83f736a212a0f845"), looks := false }, kinds := [], alts := [], laidByText := true, laidKinds := [.data, .data, .data], laidTests := true, laidLooks := .later }
def StoreTwiceUptoCardSaid : Prop := Claim7.holds Tryd.pinned (.plain (OpenSpec.upto storeTwiceSpec)) storeTwiceUptoCard

/-- THE SECOND FORM's CARD OF 'aumbrylaw11.StoreOpens'. -/
def storeOpensUptoCard : Claim7 := { stood := { row := storeOpensUptoRow, standIns := [], harness := (true, "f158a69a3380755fe58df08295c1e7991fb19358250c772b83f736a212a0f845"), looks := false }, kinds := [], alts := [], laidByText := true, laidKinds := [.data, .data, .data], laidTests := true, laidLooks := .later }
def StoreOpensUptoCardSaid : Prop := Claim7.holds Tryd.pinned (.plain (OpenSpec.upto storeOpensSpec)) storeOpensUptoCard

/-- THE SECOND FORM's CARD OF 'aumbrylaw11.StoreRaw'. -/
def storeRawUptoCard : Claim7 := { stood := { row := storeRawUptoRow, standIns := [], harness := (true, "f158a69a3380755fe58df08295c1e7991fb19358250c772b83f736a212a0f845"), looks := false }, kinds := [], alts := [], laidByText := true, laidKinds := [.data, .data, .data], laidTests := true, laidLooks := .later }
def StoreRawUptoCardSaid : Prop := Claim7.holds Tryd.pinned (.plain (OpenSpec.upto storeRawSpec)) storeRawUptoCard

/-- THE SECOND FORM's CARD OF 'aumbrylaw11.StoreAgain'. -/
def storeAgainUptoCard : Claim7 := { stood := { row := storeAgainUptoRow, standIns := [], harness := (true, "f158a69a3380755fe58df08295c1e7991fb19358250c772b83f736a212a0f845"), looks := false }, kinds := [], alts := [], laidByText := true, laidKinds := [.data, .data, .data], laidTests := true, laidLooks := .later }
def StoreAgainUptoCardSaid : Prop := Claim7.holds Tryd.pinned (.plain (OpenSpec.upto storeAgainSpec)) storeAgainUptoCard

/-- THE SECOND FORM's CARD OF 'aumbrylaw11.StoreDrops'. -/
def storeDropsUptoCard : Claim7 := { stood := { row := storeDropsUptoRow, standIns := [], harness := (true, "f158a69a3380755fe58df08295c1e7991fb19358250c772b83f736a212a0f845"), looks := false }, kinds := [], alts := [], laidByText := true, laidKinds := [.data, .data, .data], laidTests := true, laidLooks := .later }
def StoreDropsUptoCardSaid : Prop := Claim7.holds Tryd.pinned (.plain (OpenSpec.upto storeDropsSpec)) storeDropsUptoCard
end Rows
end Go.Proofs.YtmeegdicnfgjfaaDoor
