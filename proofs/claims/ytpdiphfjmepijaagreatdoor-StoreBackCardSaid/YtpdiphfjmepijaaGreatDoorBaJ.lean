/-
  a batch is decoded from its bytes, and less of them is too short (StoreBack)
-/
import Derived.Test.YtpdiphfjmepijaaGreatDoorTie
import Derived.Test.YtpdiphfjmepijaaGreatDoorCards
import Derived.SevenTiedAt
import Derived.Test.YtpdiphfjmepijaaGreatDoorBaI
namespace Go.Proofs.YtpdiphfjmepijaaGreatDoor
open Go.Proofs.Tryz
open Go.Vc Go.ChangeShapes Go.WideShapes Go.ChangeAt Go.RowKit Go
set_option maxRecDepth 100000 in
theorem back_lifted (os : Os) (started : os.Started) (H : Type) (enc : TypeId × Value → H) :
    ReturnsInHanded {} Tryz.checked os 6 .any (fun w args => (Rows.storeBackSpec.pre enc prog Tryz.f6 [] false w args ∧ laidMetH prog laidR w) ∧ sizedMet enc prog Tryz.f6 (OpenSpec.ofChange Rows.storeBackSpec) false w args)
      (Rows.storeBackSpec.post enc prog Tryz.f6 false true false false) := by
  refine returnsInHanded_of_change_and (C := Tryz.checked) (X := fun w _ => laidMetH prog laidR w) (fun _ _ _ hh h => h.of_heap hh) own started zk func6
    (ChangeSpec.witness_shaped (enc := enc) (C := Tryz.checked) (os := os) (X := fun w _ => laidMetH prog laidR w) false (World.doorLaid prog 400 os) #[.agg #[.slice none 0 0, .slice none 0 0], .slice none 0 0] 40 rfl (World.shaped_of_RefB zk zk) zk zk zk (door_met os _)) ?_
  intro W base args ds gs before hval0 hW _ _ hL _
  have hval : ∀ (j : Nat) t v, Tryz.f6.params[j]? = some t → args[j]? = some v → Value.okWide prog W .any base t v := hval0
  have hW' := hW
  obtain ⟨p, q, hA0, hV, rfl, hfz, hnd⟩ := hW
  have hA : DataW.TrodAll enc prog W 0 (fun _ => true) true Tryz.f6.params.toList args.toList ds p := hA0
  rw [Tryz.params6] at hA hval
  obtain ⟨v0, vs0, d0, ds0, p0, q0, hargs, rfl, rfl, h0, r0⟩ := trodAll_cons hA
  obtain ⟨v1, vs1, d1, ds1, p1, q1, rfl, rfl, rfl, h1, r1⟩ := trodAll_cons r0
  obtain ⟨rfl, rfl, rfl⟩ := trodAll_nil r1
  obtain rfl : args = #[v0, v1] := by cases args; simp_all
  obtain ⟨rfl, rfl⟩ := trodVars_none hV
  have w0 := hval 0 25 v0 rfl rfl
  have w1 := hval 1 41 v1 rfl rfl
  obtain ⟨k0, h0⟩ := h0
  obtain ⟨k1, h1⟩ := h1
  obtain ⟨c0, rfl, _⟩ := okWide_struct Tryz.underlying25 w0
  obtain ⟨a1, len1, cap1, rfl⟩ := okWide_slice Tryz.underlying41 w1
  obtain ⟨B, e0, hB⟩ := open_bat h0
  obtain rfl : c0 = B.c.toArray := by apply Array.ext'; exact e0
  obtain ⟨p1, l1, c1, e1, hc1, hs1⟩ := xz1 h1
  simp only [Value.cells, List.cons.injEq, and_true, Value.slice.injEq] at e1
  obtain ⟨rfl, rfl, rfl⟩ := e1
  clear hA0 hval0
  simp only [List.append_nil] at hW'
  refine Calls.mono (storeback_calls W (roots_of hL) hB hs1 hc1) fun e W' he => ?_
  cases e with
  | returned v =>
    obtain ⟨rfl, hE⟩ : v = .bool true ∧ Ext No W W' := he
    refine ⟨_, rfl, post_true zk zk zk hW' rfl zk zk Tryz.underlying4 rfl rfl rfl hE⟩
  | panicked _ => exact he.elim
  | outgrown => exact he.elim
theorem back_row : Rows.StoreBackSaid :=
  OpenClaim.holds_of_wide 6 Tryz.f6 rfl rfl rfl rfl rfl rfl rfl ⟨rfl, rfl, rfl, rfl, rfl⟩ rfl rfl rfl rfl rfl zk func6 zk
    (of_decide_eq_true zk) (by unfold Func.isWrapper; first | (rw [if_pos zq]; kernel_rfl) | (rw [if_neg zq]; exact ⟨rfl, rfl⟩))
    (fun os started H enc _ => back_lifted os started H enc)
theorem back_holds : Rows.StoreBackCardSaid :=
  Claim7.holds_tied_plain_at .later [] [.data] true Rows.storeBackCard.stood.harness false
    back_row (fun _ h => by cases h) zk (fun _ h => by cases h) storeBack_row_tie rfl ⟨rfl, rfl⟩ zk rfl
    (fun f fn hf hfn => by
      obtain rfl : f = 6 := Option.some.inj ((show prog.funcNamed "confluence/confluencelaw10.StoreBack" = some 6 by kernel_rfl).symm.trans hf) |>.symm
      obtain rfl : fn = Tryz.f6 := (Option.some.inj (func6.symm.trans hfn)).symm
      exact ⟨by kernel_rfl, fun j t ht => by
        rw [Tryz.params6] at ht
        have hm : t ∈ [25, 41] := by have := Array.mem_of_getElem? ht; simpa using this
        have hall : ([25, 41].all fun u => !prog.wantsStandIn u) = true := by kernel_rfl
        exact (show prog.wantsStandIn t = false by simpa using List.all_eq_true.1 hall t hm)⟩)
    zk
end Go.Proofs.YtpdiphfjmepijaaGreatDoor
