/-
  DERIVED. GIVEN WITH THE SEED: THE CARDS: each row of YtlfdlodcjiaiiaaGreatDoorRows.lean that lists a variable, with what it lists TIED to the program's text (the seventh form; the later family's looks); each row that meets fmt, with fmt's text TOLD by the authors' own Lean function (tested against real Go, not proved from fmt's source: count such statements apart). THE CARD IS WHAT COUNTS. Prove the row's statement (the work); the ties are given (YtlfdlodcjiaiiaaGreatDoorTie.lean); close each card by the builder's one call (the guide's Derived/Test/ToyasCard.lean, 'card_holds'). Laid BY PROGRAM, IN A SANDBOX (cutbox-door.mjs). By AI agents, Wed Nov 11 2026. No macro, syntax, notation, axiom, sorry.
-/
import Derived.Test.YtlfdlodcjiaiiaaGreatDoorRows
import GoSem.ClaimSeven
namespace Go.Proofs.YtlfdlodcjiaiiaaGreatDoor
namespace Rows

/-- THE TIED CARD OF 'confluencelaw04.WalGoes'. -/
def walGoesCard : Claim7 := { stood := { row := walGoesRow, standIns := [], harness := (true, "51651dbbefd2681486312ab2eabd632ef9b83e55690a85849b8ffc585474730a"), looks := false }, kinds := [], alts := [], laidByText := true, laidKinds := [.data], laidTests := true, laidLooks := .later }
def WalGoesCardSaid : Prop := Claim7.holds Tryz.pinned (.plain (OpenSpec.ofChange walGoesSpec)) walGoesCard

/-- THE TIED CARD OF 'confluencelaw04.WalFinds'. -/
def walFindsCard : Claim7 := { stood := { row := walFindsRow, standIns := [], harness := (true, "51651dbbefd2681486312ab2eabd632ef9b83e55690a85849b8ffc585474730a"), looks := false }, kinds := [], alts := [], laidByText := true, laidKinds := [.data], laidTests := true, laidLooks := .later }
def WalFindsCardSaid : Prop := Claim7.holds Tryz.pinned (.plain (OpenSpec.ofChange walFindsSpec)) walFindsCard

/-- THE SECOND FORM's CARD OF 'confluencelaw04.WalGoes'. -/
def walGoesUptoCard : Claim7 := { stood := { row := walGoesUptoRow, standIns := [], harness := (true, "51651dbbefd2681486312ab2eabd632ef9b83e55690a85849b8ffc585474730a"), looks := false }, kinds := [], alts := [], laidByText := true, laidKinds := [.data], laidTests := true, laidLooks := .later }
def WalGoesUptoCardSaid : Prop := Claim7.holds Tryz.pinned (.plain (OpenSpec.upto walGoesSpec)) walGoesUptoCard

/-- THE SECOND FORM's CARD OF 'confluencelaw04.WalFinds'. -/
def walFindsUptoCard : Claim7 := { stood := { row := walFindsUptoRow, standIns := [], harness := (true, "51651dbbefd2681486312ab2eabd632ef9b83e55690a85849b8ffc585474730a"), looks := false }, kinds := [], alts := [], laidByText := true, laidKinds := [.data], laidTests := true, laidLooks := .later }
def WalFindsUptoCardSaid : Prop := Claim7.holds Tryz.pinned (.plain (OpenSpec.upto walFindsSpec)) walFindsUptoCard
end Rows
end Go.Proofs.YtlfdlodcjiaiiaaGreatDoor
