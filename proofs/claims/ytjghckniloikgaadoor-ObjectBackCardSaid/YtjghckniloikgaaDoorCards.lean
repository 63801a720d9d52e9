/-
  DERIVED. GIVEN WITH THE SEED: THE CARDS: each row of YtjghckniloikgaaDoorRows.lean that lists a variable, with what it lists TIED to the program's text (the seventh form; the later family's looks); each row that meets fmt, with fmt's text TOLD by the authors' own Lean function (tested against real Go, not proved from fmt's source: count such statements apart). THE CARD IS WHAT COUNTS. Prove the row's statement (the work); the ties are given (YtjghckniloikgaaDoorTie.lean); close each card by the builder's one call (the guide's Derived/Test/ToyasCard.lean, 'card_holds'). Laid BY PROGRAM, IN A SANDBOX (cutbox-door.mjs). By AI agents, Wed Nov 11 2026. No macro, syntax, notation, axiom, sorry.
-/
import Derived.Test.YtjghckniloikgaaDoorRows
import GoSem.ClaimSeven
namespace Go.Proofs.YtjghckniloikgaaDoor
namespace Rows

/-- THE TIED CARD OF 'confluencelaw06.ObjectEncodes'. -/
def objectEncodesCard : Claim7 := { stood := { row := objectEncodesRow, standIns := [], harness := (true, "ecc3142735e4917a1123cc2b32b22ce976f70c9f441edc04a8e6cc108e8509cc"), looks := false }, kinds := [], alts := [], laidByText := true, laidKinds := [.data], laidTests := true, laidLooks := .later }
def ObjectEncodesCardSaid : Prop := Claim7.holds Tryd.pinned (.plain (OpenSpec.ofChange objectEncodesSpec)) objectEncodesCard

/-- THE TIED CARD OF 'confluencelaw06.ObjectDecodes'. -/
def objectDecodesCard : Claim7 := { stood := { row := objectDecodesRow, standIns := [], harness := (true, "ecc3142735e4917a1123cc2b32b22ce976f70c9f441edc04a8e6cc108e8509cc"), looks := false }, kinds := [], alts := [], laidByText := true, laidKinds := [.data], laidTests := true, laidLooks := .later }
def ObjectDecodesCardSaid : Prop := Claim7.holds Tryd.pinned (.plain (OpenSpec.ofChange objectDecodesSpec)) objectDecodesCard

/-- THE TIED CARD OF 'confluencelaw06.ObjectParts'. -/
def objectPartsCard : Claim7 := { stood := { row := objectPartsRow, standIns := [], harness := (true, "ecc3142735e4917a1123cc2b32b22ce976f70c9f441edc04a8e6cc108e8509cc"), looks := false }, kinds := [], alts := [], laidByText := true, laidKinds := [.data], laidTests := true, laidLooks := .later }
def ObjectPartsCardSaid : Prop := Claim7.holds Tryd.pinned (.plain (OpenSpec.ofChange objectPartsSpec)) objectPartsCard

/-- THE TIED CARD OF 'confluencelaw06.ObjectSame'. -/
def objectSameCard : Claim7 := { stood := { row := objectSameRow, standIns := [], harness := (true, "ecc3142735e4917a1123cc2b32b22ce976f70c9f441edc04a8e6cc108e8509cc"), looks := false }, kinds := [], alts := [], laidByText := true, laidKinds := [.data], laidTests := true, laidLooks := .later }
def ObjectSameCardSaid : Prop := Claim7.holds Tryd.pinned (.plain (OpenSpec.ofChange objectSameSpec)) objectSameCard

/-- THE TIED CARD OF 'confluencelaw06.ObjectBack'. -/
def objectBackCard : Claim7 := { stood := { row := objectBackRow, standIns := [], harness := (true, "ecc3142735e4917a1123cc2b32b22ce976f70c9f441edc04a8e6cc108e8509cc"), looks := false }, kinds := [], alts := [], laidByText := true, laidKinds := [.data], laidTests := true, laidLooks := .later }
def ObjectBackCardSaid : Prop := Claim7.holds Tryd.pinned (.plain (OpenSpec.ofChange objectBackSpec)) objectBackCard

/-- THE TIED CARD OF 'confluencelaw06.ObjectTrees'. -/
def objectTreesCard : Claim7 := { stood := { row := objectTreesRow, standIns := [], harness := (true, "ecc3142735e4917a1123cc2b32b22ce976f70c9f441edc04a8e6cc108e8509cc"), looks := false }, kinds := [], alts := [], laidByText := true, laidKinds := [.data], laidTests := true, laidLooks := .later }
def ObjectTreesCardSaid : Prop := Claim7.holds Tryd.pinned (.plain (OpenSpec.ofChange objectTreesSpec)) objectTreesCard

/-- THE SECOND FORM's CARD OF 'confluencelaw06.ObjectEncodes'. -/
def objectEncodesUptoCard : Claim7 := { stood := { row := objectEncodesUptoRow, standIns := [], harness := (true, "ecc3142735e4917a1123cc2b32b22ce976f70c9f441edc04a8e6cc108e8509cc"), looks := false }, kinds := [], alts := [], laidByText := true, laidKinds := [.data], laidTests := true, laidLooks := .later }
def ObjectEncodesUptoCardSaid : Prop := Claim7.holds Tryd.pinned (.plain (OpenSpec.upto objectEncodesSpec)) objectEncodesUptoCard

/-- THE SECOND FORM's CARD OF 'confluencelaw06.ObjectDecodes'. -/
def objectDecodesUptoCard : Claim7 := { stood := { row := objectDecodesUptoRow, standIns := [], harness := (true, "ecc3142735e4917a1123cc2b32b22ce976f70c9f441edc04a8e6cc108e8509cc"), looks := false }, kinds := [], alts := [], laidByText := true, laidKinds := [.data], laidTests := true, laidLooks := .later }
def ObjectDecodesUptoCardSaid : Prop := Claim7.holds Tryd.pinned (.plain (OpenSpec.upto objectDecodesSpec)) objectDecodesUptoCard

/-- THE SECOND FORM's CARD OF 'confluencelaw06.ObjectParts'. -/
def objectPartsUptoCard : Claim7 := { stood := { row := objectPartsUptoRow, standIns := [], harness := (true, "ecc3142735e4917a1123cc2b32b22ce976f70c9f441edc04a8e6cc108e8509cc"), looks := false }, kinds := [], alts := [], laidByText := true, laidKinds := [.data], laidTests := true, laidLooks := .later }
def ObjectPartsUptoCardSaid : Prop := Claim7.holds Tryd.pinned (.plain (OpenSpec.upto objectPartsSpec)) objectPartsUptoCard

/-- THE SECOND FORM's CARD OF 'confluencelaw06.ObjectSame'. -/
def objectSameUptoCard : Claim7 := { stood := { row := objectSameUptoRow, standIns := [], harness := (true, "ecc3142735e4917a1123cc2b32b22ce976f70c9f441edc04a8e6cc108e8509cc"), looks := false }, kinds := [], alts := [], laidByText := true, laidKinds := [.data], laidTests := true, laidLooks := .later }
def ObjectSameUptoCardSaid : Prop := Claim7.holds Tryd.pinned (.plain (OpenSpec.upto objectSameSpec)) objectSameUptoCard

/-- THE SECOND FORM's CARD OF 'confluencelaw06.ObjectBack'. -/
def objectBackUptoCard : Claim7 := { stood := { row := objectBackUptoRow, standIns := [], harness := (true, "ecc3142735e4917a1123cc2b32b22ce976f70c9f441edc04a8e6cc108e8509cc"), looks := false }, kinds := [], alts := [], laidByText := true, laidKinds := [.data], laidTests := true, laidLooks := .later }
def ObjectBackUptoCardSaid : Prop := Claim7.holds Tryd.pinned (.plain (OpenSpec.upto objectBackSpec)) objectBackUptoCard

/-- THE SECOND FORM's CARD OF 'confluencelaw06.ObjectTrees'. -/
def objectTreesUptoCard : Claim7 := { stood := { row := objectTreesUptoRow, standIns := [], harness := (true, "ecc3142735e4917a1123cc2b32b22ce976f70c9f441edc04a8e6cc108e8509cc"), looks := false }, kinds := [], alts := [], laidByText := true, laidKinds := [.data], laidTests := true, laidLooks := .later }
def ObjectTreesUptoCardSaid : Prop := Claim7.holds Tryd.pinned (.plain (OpenSpec.upto objectTreesSpec)) objectTreesUptoCard
end Rows
end Go.Proofs.YtjghckniloikgaaDoor
