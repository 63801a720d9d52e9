/-
  StoreLasts: wherever the power goes, what is opened again has what was there, or what the batch was to bring, and all that its objects link to; for whatever deeds.
-/
import Derived.Test.YtpdiphfjmepijaaGreatDoorTie
import Derived.Test.YtpdiphfjmepijaaGreatDoorCards
import Derived.SevenTiedAt
import Derived.Test.YtpdiphfjmepijaaGreatDoorLaL
open List renaming all_eq_true→dE
namespace Go.Proofs.YtpdiphfjmepijaaGreatDoor
open Go.Proofs.Tryz
open Go.Vc Go.ChangeShapes Go.WideShapes Go.ChangeAt Go.RowKit Go
theorem lasts_holds : Rows.StoreLastsCardSaid :=
  Claim7.holds_tied_plain_at .later [] [.data] true Rows.storeLastsCard.stood.harness false
    lasts_row (λ_ h => by cases h) zf (λ_ h => by cases h) storeLasts_row_tie Z ⟨Z, rfl⟩ zf Z
    (λf fn hf hfn => by
      obtain rfl : f = 8 := cl ((show prog.funcNamed "confluence/confluencelaw10.StoreLasts" = some 8 by kernel_rfl).symm.trans hf) |>.symm
      obtain rfl : fn = Tryz.f8 := (cl (func8.symm.trans hfn)).symm
      exact ⟨by kernel_rfl, λj t ht => by
        rw [Tryz.params8] at ht
        have hm : t ∈ [68, 76, 68] := by have := Array.mem_of_getElem? ht; simpa using this
        have hall : ([68, 76, 68].all λu => !prog.wantsStandIn u) = true := by kernel_rfl
        exact (show prog.wantsStandIn t = false by simpa using dE.1 hall t hm)⟩)
    zf
end Go.Proofs.YtpdiphfjmepijaaGreatDoor
