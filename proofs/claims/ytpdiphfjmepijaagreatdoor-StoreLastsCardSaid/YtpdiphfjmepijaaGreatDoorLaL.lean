/-
  Walks and laws towards: StoreLasts: wherever the power goes, what is opened again has what was there, or what the batch was to bring, and all that its objects link to; for whatever deeds.
-/
import Derived.Test.YtpdiphfjmepijaaGreatDoorTie
import Derived.Test.YtpdiphfjmepijaaGreatDoorCards
import Derived.SevenTiedAt
import Derived.Test.YtpdiphfjmepijaaGreatDoorLaK
namespace Go.Proofs.YtpdiphfjmepijaaGreatDoor
open Go.Proofs.Tryz
open Go.Vc Go.ChangeShapes Go.WideShapes Go.ChangeAt Go.RowKit Go
theorem lk1 : (Rows.storeLastsRow.inPlace == (Tryz.pinned.checked.prog).inPlace 8) = true := by kernel_rfl
theorem lk2 : (Rows.storeLastsRow.unfollowed == (Tryz.pinned.checked.prog).unfollowed 8) = true := by kernel_rfl
theorem lk3 : (Rows.storeLastsRow.recurses == (Tryz.pinned.checked.prog).recurses 8) = true := by kernel_rfl
theorem lk4 : (Rows.storeLastsRow.named == (Tryz.pinned.checked.prog).varsNamed 8) = true := by kernel_rfl
theorem lk5 : (Rows.storeLastsRow.wf (OpenSpec.ofChange Rows.storeLastsSpec) && laidOutB Tryz.pinned.checked.prog && mapsRowed Tryz.pinned.checked.prog) = true := by kernel_rfl
theorem lk6 : joinedFacts Tryz.pinned.checked.prog 8 Tryz.f8 Rows.storeLastsSpec Rows.storeLastsRow = true := by
  unfold joinedFacts
  rw [lk1, lk2, lk3, lk4, lk5]
  kernel_rfl
theorem lasts_row : Rows.StoreLastsSaid :=
  OpenClaim.holds_of_wide 8 Tryz.f8 Z Z Z Z Z Z Z ⟨Z, rfl, rfl, rfl, rfl⟩ Z Z Z Z Z zf func8 lk6
    (cQ zf) (by unfold Func.isWrapper; first | (rw [aL zr]; kernel_rfl) | (rw [aI zr]; exact ⟨Z, rfl⟩))
    (λos started H enc _ => lasts_lifted os started H enc)
end Go.Proofs.YtpdiphfjmepijaaGreatDoor
