/-
  DERIVED. GIVEN WITH THE SEED: THE CARDS: each row of YtpcdihkcenfgkaaGreatDoorRows.lean that lists a variable, with what it lists TIED to the program's text (the seventh form; the later family's looks); each row that meets fmt, with fmt's text TOLD by the authors' own Lean function (tested against real Go, not proved from fmt's source: count such statements apart). THE CARD IS WHAT COUNTS. Prove the row's statement (the work); the ties are given (YtpcdihkcenfgkaaGreatDoorTie.lean); close each card by the builder's one call (the guide's Derived/Test/ToyasCard.lean, 'card_holds'). Laid BY PROGRAM, IN A SANDBOX (cutbox-door.mjs). By AI agents, Wed Nov 11 2026. No macro, syntax, notation, axiom, sorry.
-/
import Derived.Test.YtpcdihkcenfgkaaGreatDoorRows
import GoSem.ClaimSeven
namespace Go.Proofs.YtpcdihkcenfgkaaGreatDoor
namespace Rows

/-- THE TIED CARD OF 'confluencelaw20.FetchAsks'. -/
def fetchAsksCard : Claim7 := { stood := { row := fetchAsksRow, standIns := [], harness := (true, "72a92048f195526660298451d17a97a716ff035426caa5a1791022dd10fcb7cc"), looks := false }, kinds := [], alts := [], laidByText := true, laidKinds := [.data], laidTests := true, laidLooks := .later }
def FetchAsksCardSaid : Prop := Claim7.holds Tryz.pinned (.plain (OpenSpec.ofChange fetchAsksSpec)) fetchAsksCard

/-- THE TIED CARD OF 'confluencelaw20.FetchTakes'. -/
def fetchTakesCard : Claim7 := { stood := { row := fetchTakesRow, standIns := [], harness := (true, "72a92048f195526660298451d17a97a716ff035426caa5a1791022dd10fcb7cc"), looks := false }, kinds := [], alts := [], laidByText := true, laidKinds := [.data], laidTests := true, laidLooks := .later }
def FetchTakesCardSaid : Prop := Claim7.holds Tryz.pinned (.plain (OpenSpec.ofChange fetchTakesSpec)) fetchTakesCard

/-- THE TIED CARD OF 'confluencelaw20.FetchRounds'. -/
def fetchRoundsCard : Claim7 := { stood := { row := fetchRoundsRow, standIns := [], harness := (true, "72a92048f195526660298451d17a97a716ff035426caa5a1791022dd10fcb7cc"), looks := false }, kinds := [], alts := [], laidByText := true, laidKinds := [.data], laidTests := true, laidLooks := .later }
def FetchRoundsCardSaid : Prop := Claim7.holds Tryz.pinned (.plain (OpenSpec.ofChange fetchRoundsSpec)) fetchRoundsCard

/-- THE TIED CARD OF 'confluencelaw20.FetchFits'. -/
def fetchFitsCard : Claim7 := { stood := { row := fetchFitsRow, standIns := [], harness := (true, "72a92048f195526660298451d17a97a716ff035426caa5a1791022dd10fcb7cc"), looks := false }, kinds := [], alts := [], laidByText := true, laidKinds := [.data], laidTests := true, laidLooks := .later }
def FetchFitsCardSaid : Prop := Claim7.holds Tryz.pinned (.plain (OpenSpec.ofChange fetchFitsSpec)) fetchFitsCard

/-- THE TIED CARD OF 'confluencelaw20.FetchEnds'. -/
def fetchEndsCard : Claim7 := { stood := { row := fetchEndsRow, standIns := [], harness := (true, "72a92048f195526660298451d17a97a716ff035426caa5a1791022dd10fcb7cc"), looks := false }, kinds := [], alts := [], laidByText := true, laidKinds := [.data], laidTests := true, laidLooks := .later }
def FetchEndsCardSaid : Prop := Claim7.holds Tryz.pinned (.plain (OpenSpec.ofChange fetchEndsSpec)) fetchEndsCard

/-- THE TIED CARD OF 'confluencelaw18.UploadSends'. -/
def uploadSendsCard : Claim7 := { stood := { row := uploadSendsRow, standIns := [], harness := (true, "72a92048f195526660298451d17a97a716ff035426caa5a1791022dd10fcb7cc"), looks := false }, kinds := [], alts := [], laidByText := true, laidKinds := [.data], laidTests := true, laidLooks := .later }
def UploadSendsCardSaid : Prop := Claim7.holds Tryz.pinned (.plain (OpenSpec.ofChange uploadSendsSpec)) uploadSendsCard

/-- THE TIED CARD OF 'confluencelaw18.UploadArrives'. -/
def uploadArrivesCard : Claim7 := { stood := { row := uploadArrivesRow, standIns := [], harness := (true, "72a92048f195526660298451d17a97a716ff035426caa5a1791022dd10fcb7cc"), looks := false }, kinds := [], alts := [], laidByText := true, laidKinds := [.data], laidTests := true, laidLooks := .later }
def UploadArrivesCardSaid : Prop := Claim7.holds Tryz.pinned (.plain (OpenSpec.ofChange uploadArrivesSpec)) uploadArrivesCard

/-- THE SECOND FORM's CARD OF 'confluencelaw20.FetchAsks'. -/
def fetchAsksUptoCard : Claim7 := { stood := { row := fetchAsksUptoRow, standIns := [], harness := (true, "72a92048f195526660298451d17a97a716ff035426caa5a1791022dd10fcb7cc"), looks := false }, kinds := [], alts := [], laidByText := true, laidKinds := [.data], laidTests := true, laidLooks := .later }
def FetchAsksUptoCardSaid : Prop := Claim7.holds Tryz.pinned (.plain (OpenSpec.upto fetchAsksSpec)) fetchAsksUptoCard

/-- THE SECOND FORM's CARD OF 'confluencelaw20.FetchTakes'. -/
def fetchTakesUptoCard : Claim7 := { stood := { row := fetchTakesUptoRow, standIns := [], harness := (true, "72a92048f195526660298451d17a97a716ff035426caa5a1791022dd10fcb7cc"), looks := false }, kinds := [], alts := [], laidByText := true, laidKinds := [.data], laidTests := true, laidLooks := .later }
def FetchTakesUptoCardSaid : Prop := Claim7.holds Tryz.pinned (.plain (OpenSpec.upto fetchTakesSpec)) fetchTakesUptoCard

/-- THE SECOND FORM's CARD OF 'confluencelaw20.FetchRounds'. -/
def fetchRoundsUptoCard : Claim7 := { stood := { row := fetchRoundsUptoRow, standIns := [], harness := (true, "72a92048f195526660298451d17a97a716ff035426caa5a1791022dd10fcb7cc"), looks := false }, kinds := [], alts := [], laidByText := true, laidKinds := [.data], laidTests := true, laidLooks := .later }
def FetchRoundsUptoCardSaid : Prop := Claim7.holds Tryz.pinned (.plain (OpenSpec.upto fetchRoundsSpec)) fetchRoundsUptoCard

/-- THE SECOND FORM's CARD OF 'confluencelaw20.FetchFits'. -/
def fetchFitsUptoCard : Claim7 := { stood := { row := fetchFitsUptoRow, standIns := [], harness := (true, "72a92048f195526660298451d17a97a716ff035426caa5a1791022dd10fcb7cc"), looks := false }, kinds := [], alts := [], laidByText := true, laidKinds := [.data], laidTests := true, laidLooks := .later }
def FetchFitsUptoCardSaid : Prop := Claim7.holds Tryz.pinned (.plain (OpenSpec.upto fetchFitsSpec)) fetchFitsUptoCard

/-- THE SECOND FORM's CARD OF 'confluencelaw20.FetchEnds'. -/
def fetchEndsUptoCard : Claim7 := { stood := { row := fetchEndsUptoRow, standIns := [], harness := (true, "72a92048f195526660298451d17a97a716ff035426caa5a1791022dd10fcb7cc"), looks := false }, kinds := [], alts := [], laidByText := true, laidKinds := [.data], laidTests := true, laidLooks := .later }
def FetchEndsUptoCardSaid : Prop := Claim7.holds Tryz.pinned (.plain (OpenSpec.upto fetchEndsSpec)) fetchEndsUptoCard

/-- THE SECOND FORM's CARD OF 'confluencelaw18.UploadSends'. -/
def uploadSendsUptoCard : Claim7 := { stood := { row := uploadSendsUptoRow, standIns := [], harness := (true, "72a92048f195526660298451d17a97a716ff035426caa5a1791022dd10fcb7cc"), looks := false }, kinds := [], alts := [], laidByText := true, laidKinds := [.data], laidTests := true, laidLooks := .later }
def UploadSendsUptoCardSaid : Prop := Claim7.holds Tryz.pinned (.plain (OpenSpec.upto uploadSendsSpec)) uploadSendsUptoCard

/-- THE SECOND FORM's CARD OF 'confluencelaw18.UploadArrives'. -/
def uploadArrivesUptoCard : Claim7 := { stood := { row := uploadArrivesUptoRow, standIns := [], harness := (true, "72a92048f195526660298451d17a97a716ff035426caa5a1791022dd10fcb7cc"), looks := false }, kinds := [], alts := [], laidByText := true, laidKinds := [.data], laidTests := true, laidLooks := .later }
def UploadArrivesUptoCardSaid : Prop := Claim7.holds Tryz.pinned (.plain (OpenSpec.upto uploadArrivesSpec)) uploadArrivesUptoCard
end Rows
end Go.Proofs.YtpcdihkcenfgkaaGreatDoor
