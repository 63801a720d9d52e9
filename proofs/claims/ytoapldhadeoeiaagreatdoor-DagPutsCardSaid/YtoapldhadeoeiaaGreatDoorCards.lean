/-
  DERIVED. GIVEN WITH THE SEED: THE CARDS: each row of YtoapldhadeoeiaaGreatDoorRows.lean that lists a variable, with what it lists TIED to the program's text (the seventh form; the later family's looks); each row that meets fmt, with fmt's text TOLD by the authors' own Lean function (tested against real Go, not proved from fmt's source: count such statements apart). THE CARD IS WHAT COUNTS. Prove the row's statement (the work); the ties are given (YtoapldhadeoeiaaGreatDoorTie.lean); close each card by the builder's one call (the guide's Derived/Test/ToyasCard.lean, 'card_holds'). Laid BY PROGRAM, IN A SANDBOX (cutbox-door.mjs). By AI agents, Wed Nov 11 2026. No macro, syntax, notation, axiom, sorry.
-/
import Derived.Test.YtoapldhadeoeiaaGreatDoorRows
import GoSem.ClaimSeven
namespace Go.Proofs.YtoapldhadeoeiaaGreatDoor
namespace Rows

/-- THE TIED CARD OF 'confluencelaw08.DagPuts'. -/
def dagPutsCard : Claim7 := { stood := { row := dagPutsRow, standIns := [], harness := (true, "e8126fba0b00c3576b246ad7628102b4a3f3ef32c75eee12970579619829c0ec"), looks := false }, kinds := [], alts := [], laidByText := true, laidKinds := [.data], laidTests := true, laidLooks := .later }
def DagPutsCardSaid : Prop := Claim7.holds Tryz.pinned (.plain (OpenSpec.ofChange dagPutsSpec)) dagPutsCard

/-- THE TIED CARD OF 'confluencelaw08.DagKeeps'. -/
def dagKeepsCard : Claim7 := { stood := { row := dagKeepsRow, standIns := [], harness := (true, "e8126fba0b00c3576b246ad7628102b4a3f3ef32c75eee12970579619829c0ec"), looks := false }, kinds := [], alts := [], laidByText := true, laidKinds := [.data], laidTests := true, laidLooks := .later }
def DagKeepsCardSaid : Prop := Claim7.holds Tryz.pinned (.plain (OpenSpec.ofChange dagKeepsSpec)) dagKeepsCard

/-- THE SECOND FORM's CARD OF 'confluencelaw08.DagPuts'. -/
def dagPutsUptoCard : Claim7 := { stood := { row := dagPutsUptoRow, standIns := [], harness := (true, "e8126fba0b00c3576b246ad7628102b4a3f3ef32c75eee12970579619829c0ec"), looks := false }, kinds := [], alts := [], laidByText := true, laidKinds := [.data], laidTests := true, laidLooks := .later }
def DagPutsUptoCardSaid : Prop := Claim7.holds Tryz.pinned (.plain (OpenSpec.upto dagPutsSpec)) dagPutsUptoCard

/-- THE SECOND FORM's CARD OF 'confluencelaw08.DagKeeps'. -/
def dagKeepsUptoCard : Claim7 := { stood := { row := dagKeepsUptoRow, standIns := [], harness := (true, "e8126fba0b00c3576b246ad7628102b4a3f3ef32c75eee12970579619829c0ec"), looks := false }, kinds := [], alts := [], laidByText := true, laidKinds := [.data], laidTests := true, laidLooks := .later }
def DagKeepsUptoCardSaid : Prop := Claim7.holds Tryz.pinned (.plain (OpenSpec.upto dagKeepsSpec)) dagKeepsUptoCard
end Rows
end Go.Proofs.YtoapldhadeoeiaaGreatDoor
