/-
  DERIVED. GIVEN WITH THE SEED: THE CARDS: each row of YtpdiphfjmepijaaGreatDoorRows.lean that lists a variable, with what it lists TIED to the program's text (the seventh form; the later family's looks); each row that meets fmt, with fmt's text TOLD by the authors' own Lean function (tested against real Go, not proved from fmt's source: count such statements apart). THE CARD IS WHAT COUNTS. Prove the row's statement (the work); the ties are given (YtpdiphfjmepijaaGreatDoorTie.lean); close each card by the builder's one call (the guide's Derived/Test/ToyasCard.lean, 'card_holds'). Laid BY PROGRAM, IN A SANDBOX (cutbox-door.mjs). By AI agents, Wed Nov 11 2026. No macro, syntax, notation, axiom, sorry.
-/
import Derived.Test.YtpdiphfjmepijaaGreatDoorRows
import GoSem.ClaimSeven
namespace Go.Proofs.YtpdiphfjmepijaaGreatDoor
namespace Rows

/-- THE TIED CARD OF 'confluencelaw10.StoreNil'. -/
def storeNilCard : Claim7 := { stood := { row := storeNilRow, standIns := [], harness := (true, "378223327d9e76634905e585fd846b74d8a962c51295c5ea778ab40b1c2f8cbf"), looks := false }, kinds := [], alts := [], laidByText := true, laidKinds := [.data], laidTests := true, laidLooks := .later }
def StoreNilCardSaid : Prop := Claim7.holds Tryz.pinned (.plain (OpenSpec.ofChange storeNilSpec)) storeNilCard

/-- THE TIED CARD OF 'confluencelaw10.StoreGoes'. -/
def storeGoesCard : Claim7 := { stood := { row := storeGoesRow, standIns := [], harness := (true, "378223327d9e76634905e585fd846b74d8a962c51295c5ea778ab40b1c2f8cbf"), looks := false }, kinds := [], alts := [], laidByText := true, laidKinds := [.data], laidTests := true, laidLooks := .later }
def StoreGoesCardSaid : Prop := Claim7.holds Tryz.pinned (.plain (OpenSpec.ofChange storeGoesSpec)) storeGoesCard

/-- THE TIED CARD OF 'confluencelaw10.StoreCodes'. -/
def storeCodesCard : Claim7 := { stood := { row := storeCodesRow, standIns := [], harness := (true, "378223327d9e76634905e585fd846b74d8a962c51295c5ea778ab40b1c2f8cbf"), looks := false }, kinds := [], alts := [], laidByText := true, laidKinds := [.data], laidTests := true, laidLooks := .later }
def StoreCodesCardSaid : Prop := Claim7.holds Tryz.pinned (.plain (OpenSpec.ofChange storeCodesSpec)) storeCodesCard

/-- THE TIED CARD OF 'confluencelaw10.StoreBack'. -/
def storeBackCard : Claim7 := { stood := { row := storeBackRow, standIns := [], harness := (true, "378223327d9e76634905e585fd846b74d8a962c51295c5ea778ab40b1c2f8cbf"), looks := false }, kinds := [], alts := [], laidByText := true, laidKinds := [.data], laidTests := true, laidLooks := .later }
def StoreBackCardSaid : Prop := Claim7.holds Tryz.pinned (.plain (OpenSpec.ofChange storeBackSpec)) storeBackCard

/-- THE TIED CARD OF 'confluencelaw10.StoreSays'. -/
def storeSaysCard : Claim7 := { stood := { row := storeSaysRow, standIns := [], harness := (true, "378223327d9e76634905e585fd846b74d8a962c51295c5ea778ab40b1c2f8cbf"), looks := false }, kinds := [], alts := [], laidByText := true, laidKinds := [.data], laidTests := true, laidLooks := .later }
def StoreSaysCardSaid : Prop := Claim7.holds Tryz.pinned (.plain (OpenSpec.ofChange storeSaysSpec)) storeSaysCard

/-- THE TIED CARD OF 'confluencelaw10.StoreLasts'. -/
def storeLastsCard : Claim7 := { stood := { row := storeLastsRow, standIns := [], harness := (true, "378223327d9e76634905e585fd846b74d8a962c51295c5ea778ab40b1c2f8cbf"), looks := false }, kinds := [], alts := [], laidByText := true, laidKinds := [.data], laidTests := true, laidLooks := .later }
def StoreLastsCardSaid : Prop := Claim7.holds Tryz.pinned (.plain (OpenSpec.ofChange storeLastsSpec)) storeLastsCard

/-- THE SECOND FORM's CARD OF 'confluencelaw10.StoreNil'. -/
def storeNilUptoCard : Claim7 := { stood := { row := storeNilUptoRow, standIns := [], harness := (true, "378223327d9e76634905e585fd846b74d8a962c51295c5ea778ab40b1c2f8cbf"), looks := false }, kinds := [], alts := [], laidByText := true, laidKinds := [.data], laidTests := true, laidLooks := .later }
def StoreNilUptoCardSaid : Prop := Claim7.holds Tryz.pinned (.plain (OpenSpec.upto storeNilSpec)) storeNilUptoCard

/-- THE SECOND FORM's CARD OF 'confluencelaw10.StoreGoes'. -/
def storeGoesUptoCard : Claim7 := { stood := { row := storeGoesUptoRow, standIns := [], harness := (true, "378223327d9e76634905e585fd846b74d8a962c51295c5ea778ab40b1c2f8cbf"), looks := false }, kinds := [], alts := [], laidByText := true, laidKinds := [.data], laidTests := true, laidLooks := .later }
def StoreGoesUptoCardSaid : Prop := Claim7.holds Tryz.pinned (.plain (OpenSpec.upto storeGoesSpec)) storeGoesUptoCard

/-- THE SECOND FORM's CARD OF 'confluencelaw10.StoreCodes'. -/
def storeCodesUptoCard : Claim7 := { stood := { row := storeCodesUptoRow, standIns := [], harness := (true, "378223327d9e76634905e585fd846b74d8a962c51295c5ea778ab40b1c2f8cbf"), looks := false }, kinds := [], alts := [], laidByText := true, laidKinds := [.data], laidTests := true, laidLooks := .later }
def StoreCodesUptoCardSaid : Prop := Claim7.holds Tryz.pinned (.plain (OpenSpec.upto storeCodesSpec)) storeCodesUptoCard

/-- THE SECOND FORM's CARD OF 'confluencelaw10.StoreBack'. -/
def storeBackUptoCard : Claim7 := { stood := { row := storeBackUptoRow, standIns := [], harness := (true, "378223327d9e76634905e585fd846b74d8a962c51295c5ea778ab40b1c2f8cbf"), looks := false }, kinds := [], alts := [], laidByText := true, laidKinds := [.data], laidTests := true, laidLooks := .later }
def StoreBackUptoCardSaid : Prop := Claim7.holds Tryz.pinned (.plain (OpenSpec.upto storeBackSpec)) storeBackUptoCard

/-- THE SECOND FORM's CARD OF 'confluencelaw10.StoreSays'. -/
def storeSaysUptoCard : Claim7 := { stood := { row := storeSaysUptoRow, standIns := [], harness := (true, "378223327d9e76634905e585fd846b74d8a962c51295c5ea778ab40b1c2f8cbf"), looks := false }, kinds := [], alts := [], laidByText := true, laidKinds := [.data], laidTests := true, laidLooks := .later }
def StoreSaysUptoCardSaid : Prop := Claim7.holds Tryz.pinned (.plain (OpenSpec.upto storeSaysSpec)) storeSaysUptoCard

/-- THE SECOND FORM's CARD OF 'confluencelaw10.StoreLasts'. -/
def storeLastsUptoCard : Claim7 := { stood := { row := storeLastsUptoRow, standIns := [], harness := (true, "378223327d9e76634905e585fd846b74d8a962c51295c5ea778ab40b1c2f8cbf"), looks := false }, kinds := [], alts := [], laidByText := true, laidKinds := [.data], laidTests := true, laidLooks := .later }
def StoreLastsUptoCardSaid : Prop := Claim7.holds Tryz.pinned (.plain (OpenSpec.upto storeLastsSpec)) storeLastsUptoCard
end Rows
end Go.Proofs.YtpdiphfjmepijaaGreatDoor
