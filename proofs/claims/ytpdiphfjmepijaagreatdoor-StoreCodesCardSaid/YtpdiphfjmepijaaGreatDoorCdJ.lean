/-
  the bytes of batches, and the batch of whatever bytes (StoreCodes)
-/
import Derived.Test.YtpdiphfjmepijaaGreatDoorTie
import Derived.Test.YtpdiphfjmepijaaGreatDoorCards
import Derived.SevenTiedAt
import Derived.Test.YtpdiphfjmepijaaGreatDoorCdI
namespace Go.Proofs.YtpdiphfjmepijaaGreatDoor
open Go.Proofs.Tryz
open Go.Vc Go.ChangeShapes Go.WideShapes Go.ChangeAt Go.RowKit Go
set_option maxRecDepth 100000 in
theorem codes_lifted (os : Os) (started : os.Started) (H : Type) (enc : TypeId × Value → H) :
    ReturnsInHanded {} Tryz.checked os 5 .any (fun w args => (Rows.storeCodesSpec.pre enc prog Tryz.f5 [] false w args ∧ laidMetH prog laidR w) ∧ sizedMet enc prog Tryz.f5 (OpenSpec.ofChange Rows.storeCodesSpec) false w args)
      (Rows.storeCodesSpec.post enc prog Tryz.f5 false true false false) := by
  refine returnsInHanded_of_change_and (C := Tryz.checked) (X := fun w _ => laidMetH prog laidR w) (fun _ _ _ hh h => h.of_heap hh) own started zk func5
    (ChangeSpec.witness_shaped (enc := enc) (C := Tryz.checked) (os := os) (X := fun w _ => laidMetH prog laidR w) false (World.doorLaid prog 400 os) #[.slice none 0 0, .slice none 0 0] 40 rfl (World.shaped_of_RefB zk zk) zk zk zk (door_met os _)) ?_
  intro W base args ds gs before hval0 hW _ _ hL _
  have hval : ∀ (j : Nat) t v, Tryz.f5.params[j]? = some t → args[j]? = some v → Value.okWide prog W .any base t v := hval0
  have hW' := hW
  obtain ⟨p, q, hA0, hV, rfl, hfz, hnd⟩ := hW
  have hA : DataW.TrodAll enc prog W 0 (fun _ => true) true Tryz.f5.params.toList args.toList ds p := hA0
  rw [Tryz.params5] at hA hval
  obtain ⟨v0, vs0, d0, ds0, p0, q0, hargs, rfl, rfl, h0, r0⟩ := trodAll_cons hA
  obtain ⟨v1, vs1, d1, ds1, p1, q1, rfl, rfl, rfl, h1, r1⟩ := trodAll_cons r0
  obtain ⟨rfl, rfl, rfl⟩ := trodAll_nil r1
  obtain rfl : args = #[v0, v1] := by cases args; simp_all
  obtain ⟨rfl, rfl⟩ := trodVars_none hV
  have w0 := hval 0 79 v0 rfl rfl
  have w1 := hval 1 80 v1 rfl rfl
  obtain ⟨k0, h0⟩ := h0
  obtain ⟨k1, h1⟩ := h1
  obtain ⟨a0, len0, cap0, rfl⟩ := okWide_slice Tryz.underlying79 w0
  obtain ⟨a1, len1, cap1, rfl⟩ := okWide_slice Tryz.underlying80 w1
  obtain ⟨p0, L, c0, e0, hc0, _, hs0, hL0, _⟩ := open_list (cells := qu.c) (ok := BatArg W) Tryz.underlying79 (by kernel_rfl : prog.cellsOf 25 = 2) zd (fun h => open_bat h) h0
  obtain ⟨p1, R, c1, e1, hc1, _, hs1, hR1, _⟩ := open_list (cells := BSl.cell) (ok := fun r => ux W r.p r.l ∧ r.l.length ≤ r.c) Tryz.underlying80 (by kernel_rfl : prog.cellsOf 41 = 1) zd (fun h => by obtain ⟨p, l, c, e, hc, hs⟩ := open_bytes h; exact ⟨⟨p, l, c⟩, e, hs, hc⟩) h1
  simp only [Value.cells, List.cons.injEq, and_true, Value.slice.injEq] at e0 e1
  obtain ⟨rfl, rfl, rfl⟩ := e0
  obtain ⟨rfl, rfl, rfl⟩ := e1
  clear hA0 hval0
  simp only [List.append_nil] at hW'
  refine Calls.mono (storecodes_calls W (roots_of hL) hs0 hL0 hc0 hs1 hR1 hc1) fun e W' he => ?_
  cases e with
  | returned v =>
    obtain ⟨rfl, hE⟩ : v = .bool true ∧ Ext No W W' := he
    refine ⟨_, rfl, post_true zk zk zk hW' rfl zk zk Tryz.underlying4 rfl rfl rfl hE⟩
  | panicked _ => exact he.elim
  | outgrown => exact he.elim
theorem codes_row : Rows.StoreCodesSaid :=
  OpenClaim.holds_of_wide 5 Tryz.f5 rfl rfl rfl rfl rfl rfl rfl ⟨rfl, rfl, rfl, rfl, rfl⟩ rfl rfl rfl rfl rfl zk func5 zk
    (of_decide_eq_true zk) (by unfold Func.isWrapper; first | (rw [if_pos zq]; kernel_rfl) | (rw [if_neg zq]; exact ⟨rfl, rfl⟩))
    (fun os started H enc _ => codes_lifted os started H enc)
theorem codes_holds : Rows.StoreCodesCardSaid :=
  Claim7.holds_tied_plain_at .later [] [.data] true Rows.storeCodesCard.stood.harness false
    codes_row (fun _ h => by cases h) zk (fun _ h => by cases h) storeCodes_row_tie rfl ⟨rfl, rfl⟩ zk rfl
    (fun f fn hf hfn => by
      obtain rfl : f = 5 := Option.some.inj ((show prog.funcNamed "confluence/confluencelaw10.StoreCodes" = some 5 by kernel_rfl).symm.trans hf) |>.symm
      obtain rfl : fn = Tryz.f5 := (Option.some.inj (func5.symm.trans hfn)).symm
      exact ⟨by kernel_rfl, fun j t ht => by
        rw [Tryz.params5] at ht
        have hm : t ∈ [79, 80] := by have := Array.mem_of_getElem? ht; simpa using this
        have hall : ([79, 80].all fun u => !prog.wantsStandIn u) = true := by kernel_rfl
        exact (show prog.wantsStandIn t = false by simpa using List.all_eq_true.1 hall t hm)⟩)
    zk
end Go.Proofs.YtpdiphfjmepijaaGreatDoor
