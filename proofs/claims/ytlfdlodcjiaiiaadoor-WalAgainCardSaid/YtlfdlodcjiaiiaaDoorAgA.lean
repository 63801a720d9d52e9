/-
  WalAgain: what a disk was opened to it is opened to again, and nothing is written then.
-/
import Derived.Test.YtlfdlodcjiaiiaaDoorTie
import Derived.Test.YtlfdlodcjiaiiaaDoorCards
import Derived.SevenTiedAt
import Derived.Test.YtlfdlodcjiaiiaaDoorCrA
namespace Go.Proofs.YtlfdlodcjiaiiaaDoor
open Go.Vc
theorem again_calls (w : World) (hr : Rt w) {p : Option Addr} {c : Nat} {l : List DeedD} (hs : Sl w p l.length 4 (l.flatMap DeedD.cells)) (hc : l.length ≤ c) (o : DeedD) (hk : Sl w o.p o.keep.length 1 (o.keep.map Value.bool)) (hkc : o.keep.length ≤ o.c) :
    CallsV Tryd.prog 6 [.slice p l.length c, o.v] w fun v w' => v = .bool true ∧ Ext No w w' := by
  refine calls_enter Tryd.func6 rfl rfl rfl rfl ?_
  have hX := Ext.refl No w
  have hr0 := hr.lt
  have hrt := hr
  have hkw := hk
  have hn36 : (l.take 36).length = min l.length 36 := by rw [List.length_take, Nat.min_comm]
  have h20 := Nat.mod_lt (u64N o.num) (by decide : 0 < 20)
  refine c_seq (c_region (wl (st_al I_ok rfl fun b3 w1 hn3 hb3 hE1 => ?_)))
  have fr3 := Nat.le_trans hX.size hn3
  have hrt := Rt.ext hrt hE1 id
  have hX := hX.thenNo hE1
  have hb3 : Blk w1 b3 36 (o.cells) := hb3
  refine wl_p I_ok rfl (wl_nil (f_then (c_seq (c_seq (c_region (wl (st_call Tryd.call8 rfl rfl rfl rfl rfl rfl (wakes_calls w1 hrt) fun v2 w2 hr2 => ?_)))))))
  obtain ⟨rfl, hE2⟩ := hr2
  have hb3 := hb3.extNo hE2
  have hrt := Rt.ext hrt hE2 id
  have hX := hX.thenNo hE2
  refine wl_p I_ok rfl (wl_nil (f_then (c_condF rfl (c_skip (f_then (c_seq (c_region (wl_p I_ok rfl ?_))))))))
  obtain ⟨wq, hwq⟩ : ∃ u, u = w2 := ⟨_, rfl⟩
  have hwqs : w.heap.size ≤ wq.heap.size := by rw [hwq]; exact hX.size
  have hq0 : 0 < wq.heap.size := by omega
  have hb3q : b3 < wq.heap.size := by rw [hwq]; exact hb3.lt
  refine wl (st_call Tryd.call9 rfl rfl rfl rfl rfl rfl (lived_calls w2 hrt (a := 11) (by decide) (hs.extNo hX) hc) fun v3 w3 hr3 => ?_)
  obtain ⟨d, x, z0, rfl, hlv, hE3⟩ := hr3
  have hb3 := hb3.extNo hE3
  have hrt := Rt.ext hrt hE3 id
  have hX := hX.thenNo hE3
  have hqE := hE3.size
  rw [← hwq] at hlv hqE
  have hlive := live_take (a := 11) (by decide) (l.take 36) (l.take 36).length (Nat.le_refl _)
  have hfirm := live_firm (a := 11) (by decide) (l.take 36) (l.take 36).length (Nat.le_refl _)
  rw [List.take_length] at hlive hfirm
  obtain ⟨W0, hW0⟩ : ∃ W, W = livedD 11 (l.take 36) := ⟨_, rfl⟩
  rw [← hW0] at hlv hlive hfirm
  have hmq : 6000 + 2000 * (l.take 36).length ≤ 78000 := by omega
  have hlive : LiveOk 11 78000 W0 := ⟨hlive.ok, hlive.dk.mono hmq, hlive.calm, hlive.size, hlive.well⟩
  refine wl_p I_ok rfl (wl_nil (f_then (c_seq (c_cutK (α := Bool) [3, 5, 6] rfl (fun z => [(36, .bool z)]) (fun z u => (z = false ∧ LvI wq u d x (armW W0 (u64N o.num % 20)) W0.pieces z0) ∧ Blk u b3 36 (o.cells) ∧ Ext No w u) ?_ ?_))))
  · refine c_region ?_
    refine wl_p I_ok rfl (wl_case 27 rfl (fun hg => ?_) (fun hg => ?_))
    · cases hg
    · refine wl_pk I_ok 2 rfl ?_
      refine wl (st_ld I_ok rfl (hb3.cell rfl) (wl_pk I_ok 3 rfl (wl (st_call Tryd.call20 rfl rfl rfl rfl rfl rfl (dk_arm w3 hlv.at_ (IntKind.i64.wrap ((IntKind.u64.wrap o.num).tmod 20))) fun v4 w4 hr4 => ?_))))
      obtain ⟨rfl, hA4, hE4⟩ := hr4
      rw [show IntKind.i64.wrap ((IntKind.u64.wrap o.num).tmod 20) = ((u64N o.num % 20 : Nat) : Int) from u64_mod o.num 20 (by decide) (by decide), arm_calm hlive.calm] at hA4
      rw [show IntKind.i64.wrap ((IntKind.u64.wrap o.num).tmod 20) = ((u64N o.num % 20 : Nat) : Int) from u64_mod o.num 20 (by decide) (by decide), arm_calm hlive.calm]
      have hX := hlv.no hwqs hX hE4
      have hb3 := hb3.ext hE4 fun e => by have := (hlv.lo b3 (.inl e)).1; omega
      have hlv := hlv.disk hq0 hA4 hE4
      refine wl_pk I_ok 2 rfl (wl_nil ?_)
      exact f_cut (decide ((0 : Int) ≠ 0)) rfl ⟨⟨by simp, hlv⟩, hb3, hX⟩
  rintro z w5 ⟨⟨rfl, hlv⟩, hb3, hX⟩
  refine c_condF rfl (c_skip (f_then (c_seq (c_region (wl_p I_ok rfl (wl (st_ldB I_ok hb3 rfl rfl ?_)))))))
  have hwu : wq.heap.size ≤ w5.heap.size := by have := (hlv.lo x (.inr (.inl hlv.log.own))); omega
  refine wl (st_call Tryd.call14 rfl rfl rfl rfl rfl rfl (lput_calls w5 o hlv.log hlv.at_ (dsk_armed hlive.dk (by omega)) (by omega) (hlive.ok.armed _) hlv.rt (fun e => by have := (hlv.lo 0 (.inl e)).1; omega) hlv.hf) fun v6 w6 hr6 => ?_)
  obtain ⟨rfl, hq2⟩ := hr6
  obtain ⟨_, hXp, hEp, F3, H3, hlv3⟩ := hlv.put2 hwqs hwu hq0 hX ⟨rfl, hq2⟩
  have hb3 := hb3.ext hEp fun e => e.elim (fun e => by have := (hlv.lo b3 (.inl e)).1; omega) fun e => by have := (hlv.lo b3 (.inr (.inl e))).1; omega
  have hX := hXp
  have hdv := hlv3.dv
  dsimp only at hdv
  have hput := put_armed hlive hfirm.1 hfirm.2 (n := u64N o.num % 20) (by omega) o (keepD o)
  have hpok := (put_fine (W := armW W0 (u64N o.num % 20)) (dsk_armed hlive.dk (by omega)) (hlive.ok.armed _) o).1
  obtain ⟨W2, hW2⟩ : ∃ W2, W2 = putD (armW W0 (u64N o.num % 20)) o := ⟨_, rfl⟩
  rw [← hW2] at hdv hput hpok ⊢
  refine wl_nil (f_then (c_seq (c_seq (c_region (wl_p I_ok rfl (wl (st_ldB I_ok hb3 rfl rfl ?_)))))))
  have hFl := hdv.at_.lt
  refine wl (st_call Tryd.call22 rfl rfl rfl rfl rfl rfl (keep_calls w6 o (hkw.extNo hX) hkc) fun v7 w7 hr7 => ?_)
  obtain ⟨kq, kc, rfl, hks, hkn, hE7⟩ := hr7
  have hb3 := hb3.extNo hE7
  have hdv := hdv.extNo hE7
  have hX := hX.thenNo hE7
  have hwu7 := hdv.size
  refine wl (st_call Tryd.call21 rfl rfl rfl rfl rfl rfl (dk_crash w7 hdv.at_ hpok (by omega) rfl hks (fun b off e hF => by have := hFl b hF; have := hkn b off e; omega)) fun v8 w8 hr8 => ?_)
  obtain ⟨rfl, hA7, hE8⟩ := hr8
  have hX := hdv.no hwqs hX hE8
  have hb3 := hb3.ext hE8 fun e => by have := hdv.lo b3 e; omega
  have hdv := hdv.to ⟨hq0, hwu7⟩ hA7 hE8 fun y hy => .inl hy
  obtain ⟨t, ps, hdown, _, _, _⟩ := hput
  refine wl_p I_ok rfl (wl_nil (f_then (c_condF rfl (c_skip (f_then (c_seq (c_region (wl_p I_ok rfl ?_))))))))
  have hwu9 := hdv.size
  refine wl (st_call Tryd.call23 rfl rfl rfl rfl rfl rfl (open_calls w8 hdv.at_ hdown.ok (by omega) hdv.rt (fun e => by have := hdv.lo 0 e; omega)) fun v9 w9 hr9 => ?_)
  obtain ⟨xa, F9, rfl, hA9, hE9, hF9, _, hlo9⟩ := hr9
  have hX := hdv.no hwqs hX hE9
  have hb3 := hb3.ext hE9 fun e => by have := hdv.lo b3 e; omega
  have hdv := hdv.to ⟨hq0, hwu9⟩ hA9 hE9 hF9
  obtain ⟨D9, hop, hdown9, hz9, hW9, hopW⟩ := hdown.opens
  rw [hopW, hop] at hlo9
  rw [hop] at hdv ⊢
  dsimp only at hdv hlo9 ⊢
  obtain ⟨xA, HA, rfl, hlA, hHA⟩ := hlo9 rfl
  have hHA' : ∀ y, HA y → wq.heap.size ≤ y ∧ ¬ F9 y := fun y hy => ⟨by have := (hHA y hy).1; omega, (hHA y hy).2⟩
  refine wl_p I_ok rfl (wl_nil (f_then (c_seq ?_)))
  refine c_cutK (α := Bool) [5, 9] rfl (fun z => [(56, .bool z)]) (fun z u => (z = false ∧ DvI wq u d F9 { D9 with fuse := ((0 : Nat) : Int) } ∧ LogAt u xA d HA (upW D9 t 11 ps)) ∧ Blk u b3 36 (o.cells) ∧ Ext No w u) ?_ ?_
  · refine c_region ?_
    refine wl_p I_ok rfl (wl_case 52 rfl (fun hg => ?_) (fun hg => ?_))
    · cases hg
    · refine wl_pk I_ok 1 rfl ?_
      have hwu10 := hdv.size
      refine wl (st_call Tryd.call20 rfl rfl rfl rfl rfl rfl (dk_arm w9 hdv.at_ ((0 : Nat) : Int)) fun v10 w10 hr10 => ?_)
      obtain ⟨rfl, hA10, hE10⟩ := hr10
      rw [arm_calm hdown9.calm] at hA10
      rw [arm_calm hdown9.calm]
      have hX := hdv.no hwqs hX hE10
      have hb3 := hb3.ext hE10 fun e => by have := hdv.lo b3 e; omega
      have hlA := hlA.ext hE10 fun y hy e => (hHA' y hy).2 e
      have hdv := hdv.to ⟨hq0, hwu10⟩ hA10 hE10 fun y hy => .inl hy
      refine wl_pk I_ok 2 rfl (wl_nil ?_)
      exact f_cut (decide ((0 : Int) ≠ 0)) rfl ⟨⟨by simp, hdv, hlA⟩, hb3, hX⟩
  rintro z w11 ⟨⟨rfl, hdv, hlA⟩, hb3, hX⟩
  refine c_condF rfl (c_skip (f_then (c_seq (c_region (wl_p I_ok rfl (wl (st_call Tryd.call32 rfl rfl rfl rfl rfl rfl (dk_ops w11 hdv.at_) fun v12 w12 hr12 => ?_)))))))
  obtain ⟨rfl, rfl⟩ := hr12
  refine wl_p I_ok rfl (wl_nil (f_then (c_seq (c_region (wl_p I_ok rfl ?_)))))
  have hwu13 := hdv.size
  refine wl (st_call Tryd.call23 rfl rfl rfl rfl rfl rfl (open_calls w12 hdv.at_ (dsk_armed hdown9.ok (n := 0) (by omega)) (by omega) hdv.rt (fun e => by have := hdv.lo 0 e; omega)) fun v13 w13 hr13 => ?_)
  obtain ⟨xb, F13, rfl, hA13, hE13, hF13, _, hlo13⟩ := hr13
  have hX := hdv.no hwqs hX hE13
  have hb3 := hb3.ext hE13 fun e => by have := hdv.lo b3 e; omega
  have hlA := hlA.ext hE13 fun y hy e => (hHA' y hy).2 e
  have hdv := hdv.to ⟨hq0, hwu13⟩ hA13 hE13 hF13
  rw [hdown9.again hz9 (k := 0) (by omega)] at hlo13 hdv
  rw [hdown9.again hz9 (k := 0) (by omega)]
  obtain ⟨D13, hD13⟩ : ∃ D13 : Dsk, D13 = { D9 with fuse := ((0 : Nat) : Int), done := D9.done + 2 + ((11 : Nat) : Int) } := ⟨_, rfl⟩
  have hd13 : D13.dead = false := by rw [hD13]; exact hdown9.calm.1
  have ho13 : D13.done = D9.done + 2 + 11 := by rw [hD13]; rfl
  have hs13 : D13.secs = D9.secs := by rw [hD13]
  rw [← hD13] at hdv hlo13 ⊢
  dsimp only at hdv hlo13 ⊢
  obtain ⟨xB, HB, rfl, hlB, hHB⟩ := hlo13 rfl
  refine wl_p I_ok rfl (wl_nil (f_then (c_seq (c_cutK (α := Bool) [9, 12] rfl (fun z => [(77, .bool z)]) (fun z u => (z = false ∧ LogAt u xA d HA (upW D9 t 11 ps) ∧ LogAt u xB d HB (upW D13 t 11 ps)) ∧ Blk u b3 36 (o.cells) ∧ Ext No w u) ?_ ?_))))
  · refine c_region ?_
    refine wl_p I_ok rfl (wl_case 66 rfl (fun hg => ?_) (fun hg => ?_))
    · cases hg
    · refine wl_pk I_ok 1 rfl ?_
      refine wl (st_call Tryd.call33 rfl rfl rfl rfl rfl rfl (dk_dead w13 hdv.at_) fun v14 w14 hr14 => ?_)
      obtain ⟨rfl, rfl⟩ := hr14
      rw [hd13]
      refine wl_p I_ok rfl (wl_case 70 rfl (fun hg => ?_) (fun hg => ?_))
      · cases hg
      · refine wl_pk I_ok 1 rfl ?_
        have hdone := hdown9.ok.done
        refine wl (st_call Tryd.call32 rfl rfl rfl rfl rfl rfl (dk_ops w14 hdv.at_) fun v15 w15 hr15 => ?_)
        obtain ⟨rfl, rfl⟩ := hr15
        rw [ho13]
        refine wl_pk I_ok 5 rfl (wl_nil ?_)
        exact f_cut (decide (D9.done + 2 + 11 ≠ IntKind.i64.wrap (IntKind.i64.wrap (D9.done + 2) + 11))) rfl ⟨⟨by rw [IntWalk.i64_in (D9.done + 2) (by omega), IntWalk.i64_in (D9.done + 2 + 11) (by omega)]; simp, hlA, hlB⟩, hb3, hX⟩
  rintro z w16 ⟨⟨rfl, hlA, hlB⟩, hb3, hX⟩
  refine c_condF rfl (c_skip (f_then (c_seq (c_region (wl_p I_ok rfl ?_)))))
  have hu9 : usedB ps ≤ 11 := hW9.room
  refine wl (st_call Tryd.call16 rfl rfl rfl rfl rfl rfl (tells_calls w16 hlA hW9) fun v17 w17 hr17 => ?_)
  obtain ⟨ta, GA, rfl, htA, hGA, hE17⟩ := hr17
  have hb3 := hb3.extNo hE17
  have hlA := hlA.extNo hE17
  have hlB := hlB.extNo hE17
  have hX := hX.thenNo hE17
  refine wl_p I_ok rfl (wl_nil (f_then (c_seq (c_region (wl_p I_ok rfl (wl (st_call Tryd.call16 rfl rfl rfl rfl rfl rfl (tells_calls w17 hlB (Wl.Ok.rid hW9 hs13)) fun v18 w18 hr18 => ?_)))))))
  obtain ⟨tb, GB, rfl, htB, hGB, hE18⟩ := hr18
  have hb3 := hb3.extNo hE18
  have hlA := hlA.extNo hE18
  have hlB := hlB.extNo hE18
  have htA := htA.extNo hE18
  have hX := hX.thenNo hE18
  refine wl_p I_ok rfl (wl_nil (f_then (c_cutK (α := Bool) [] rfl (fun z => [(4, .bool z)]) (fun z u => (z = true) ∧ Blk u b3 36 (o.cells) ∧ Ext No w u) ?_ ?_)))
  · refine c_region ?_
    refine wl_p I_ok rfl (wl_case 89 rfl (fun hg => ?_) (fun hg => ?_))
    · refine wl_pk I_ok 3 rfl ?_
      refine wl_case 92 rfl (fun hg => ?_) (fun hg => ?_)
      · refine wl_pk I_ok 2 rfl ?_
        refine wl (st_call Tryd.call17 rfl rfl rfl rfl rfl rfl (is_calls w18 htA htB (by have := hW9.few; have := hW9.size.2; omega)) fun v19 w19 hr19 => ?_)
        obtain ⟨rfl, hE19⟩ := hr19
        have hb3 := hb3.extNo hE19
        have hlA := hlA.extNo hE19
        have hlB := hlB.extNo hE19
        have htA := htA.extNo hE19
        have htB := htB.extNo hE19
        have hX := hX.thenNo hE19
        rw [decide_eq_true rfl]
        refine wl_p I_ok rfl (wl_case 97 rfl (fun hg => ?_) (fun hg => ?_))
        · refine wl_pk I_ok 1 rfl ?_
          refine wl (st_call Tryd.call10 rfl rfl rfl rfl rfl rfl (left_calls w19 hlA (show 11 < 1000000000 by decide) (show usedB ps < 1000000000 by omega)) fun v20 w20 hr20 => ?_)
          obtain ⟨rfl, hE20⟩ := hr20
          have hb3 := hb3.extNo hE20
          have hlA := hlA.extNo hE20
          have hlB := hlB.extNo hE20
          have htA := htA.extNo hE20
          have htB := htB.extNo hE20
          have hX := hX.thenNo hE20
          dsimp only
          refine wl_pk I_ok 1 rfl (wl (st_call Tryd.call10 rfl rfl rfl rfl rfl rfl (left_calls w20 hlB (show 11 < 1000000000 by decide) (show usedB ps < 1000000000 by omega)) fun v21 w21 hr21 => ?_))
          obtain ⟨rfl, hE21⟩ := hr21
          have hb3 := hb3.extNo hE21
          have hlA := hlA.extNo hE21
          have hlB := hlB.extNo hE21
          have htA := htA.extNo hE21
          have htB := htB.extNo hE21
          have hX := hX.thenNo hE21
          dsimp only
          refine wl_pk I_ok 3 rfl (wl_caseD 104 rfl (fun hg => ?_) (fun hg => ?_))
          · refine wl_pk I_ok 1 rfl ?_
            refine wl (st_call Tryd.call18 rfl rfl rfl rfl rfl rfl (turn_calls w21 hlA) fun v22 w22 hr22 => ?_)
            obtain ⟨rfl, hE22⟩ := hr22
            have hb3 := hb3.extNo hE22
            have hlA := hlA.extNo hE22
            have hlB := hlB.extNo hE22
            have htA := htA.extNo hE22
            have htB := htB.extNo hE22
            have hX := hX.thenNo hE22
            dsimp only
            refine wl_pk I_ok 1 rfl (wl (st_call Tryd.call18 rfl rfl rfl rfl rfl rfl (turn_calls w22 hlB) fun v23 w23 hr23 => ?_))
            obtain ⟨rfl, hE23⟩ := hr23
            have hb3 := hb3.extNo hE23
            have hlA := hlA.extNo hE23
            have hlB := hlB.extNo hE23
            have htA := htA.extNo hE23
            have htB := htB.extNo hE23
            have hX := hX.thenNo hE23
            dsimp only
            refine wl_pk I_ok 3 rfl (wl_caseD 111 rfl (fun hg => ?_) (fun hg => ?_))
            · refine wl_pk I_ok 1 rfl ?_
              refine wl (st_call Tryd.call19 rfl rfl rfl rfl rfl rfl (broken_calls w23 hlB) fun v24 w24 hr24 => ?_)
              obtain ⟨rfl, hE24⟩ := hr24
              have hb3 := hb3.extNo hE24
              have hlA := hlA.extNo hE24
              have hlB := hlB.extNo hE24
              have htA := htA.extNo hE24
              have htB := htB.extNo hE24
              have hX := hX.thenNo hE24
              refine wl_pk I_ok 3 rfl (wl_nil ?_)
              exact f_cut (true) rfl ⟨rfl, hb3, hX⟩
            · exact absurd hg (by omega)
          · exact absurd hg (by omega)
        · cases hg
      · cases hg
    · cases hg
  rintro z w25 ⟨rfl, hb3, hX⟩
  refine c_ret (f_ret1 rfl rfl ?_)
  exact ⟨rfl, hX⟩
end Go.Proofs.YtlfdlodcjiaiiaaDoor
namespace Go.Proofs.YtlfdlodcjiaiiaaDoor
open Go.Vc Go.ChangeShapes Go.WideShapes Go.ChangeAt Go.RowKit Go

set_option maxRecDepth 100000 in
theorem again_lifted (os : Os) (started : os.Started) (H : Type) (enc : TypeId × Value → H) :
    ReturnsInHanded {} Tryd.checked os 6 .any (fun w args => (Rows.walAgainSpec.pre enc Tryd.prog Tryd.f6 [] false w args ∧ laidMetH Tryd.prog laidR w) ∧ sizedMet enc Tryd.prog Tryd.f6 (OpenSpec.ofChange Rows.walAgainSpec) false w args)
      (Rows.walAgainSpec.post enc Tryd.prog Tryd.f6 false true false false) := by
  refine returnsInHanded_of_change_and (C := Tryd.checked) (X := fun w _ => laidMetH Tryd.prog laidR w) (fun _ _ _ hh h => h.of_heap hh) own started (by kernel_rfl) Tryd.func6
    (ChangeSpec.witness_shaped (enc := enc) (C := Tryd.checked) (os := os) (X := fun w _ => laidMetH Tryd.prog laidR w) false (World.doorLaid Tryd.prog 400 os) #[.slice none 0 0, ti36.zero] 40 rfl (World.shaped_of_RefB (by kernel_rfl) (by kernel_rfl)) (by kernel_rfl) (by kernel_rfl) (by kernel_rfl) (door_met os _)) ?_
  intro W base args ds gs before hval0 hW _ _ hL _
  have hval : ∀ (j : Nat) t v, Tryd.f6.params[j]? = some t → args[j]? = some v → Value.okWide Tryd.prog W .any base t v := hval0
  have hW' := hW
  obtain ⟨p, q, hA0, hV, rfl, hfz, hnd⟩ := hW
  have hA : DataW.TrodAll enc Tryd.prog W 0 (fun _ => true) true Tryd.f6.params.toList args.toList ds p := hA0
  rw [Tryd.params6] at hA hval
  obtain ⟨v0, vs0, d0, ds0, p0, q0, hargs, rfl, rfl, h0, r0⟩ := trodAll_cons hA
  obtain ⟨v1, vs1, d1, ds1, p1, q1, rfl, rfl, rfl, h1, r1⟩ := trodAll_cons r0
  obtain ⟨rfl, rfl, rfl⟩ := trodAll_nil r1
  obtain rfl : args = #[v0, v1] := by cases args; simp_all
  obtain ⟨rfl, rfl⟩ := trodVars_none hV
  have w0 := hval 0 22 v0 rfl rfl
  have w1 := hval 1 36 v1 rfl rfl
  obtain ⟨k0, h0⟩ := h0
  obtain ⟨k1, h1⟩ := h1
  obtain ⟨a0, len, cap, rfl⟩ := okWide_slice Tryd.underlying22 w0
  obtain ⟨c1, rfl, _⟩ := okWide_struct Tryd.underlying36 w1
  obtain ⟨p9, l9, c9, e0, hc9, hs, hin, _⟩ := open_deeds h0
  obtain ⟨o, e1, ho, hoc, _⟩ := open_deed h1
  simp only [Value.cells, List.cons.injEq, and_true, Value.slice.injEq] at e0
  obtain ⟨rfl, rfl, rfl⟩ := e0
  have e1 : c1.toList = o.cells := by simpa [Value.cells] using e1
  obtain rfl : c1 = o.cells.toArray := by rw [← e1]
  clear hA0 hval0
  simp only [List.append_nil] at hW'
  refine Calls.mono (again_calls W (roots_of hL) hs hc9 o ho hoc) fun e W' he => ?_
  cases e with
  | returned v =>
    obtain ⟨rfl, hE⟩ : v = .bool true ∧ Ext No W W' := he
    refine ⟨_, rfl, post_true (by kernel_rfl) (by kernel_rfl) (by kernel_rfl) hW' rfl (by kernel_rfl) (by kernel_rfl) Tryd.underlying4 rfl rfl rfl hE⟩
  | panicked _ => exact he.elim
  | outgrown => exact he.elim
theorem again_row : Rows.WalAgainSaid :=
  OpenClaim.holds_of_wide 6 Tryd.f6 rfl rfl rfl rfl rfl rfl rfl ⟨rfl, rfl, rfl, rfl, rfl⟩ rfl rfl rfl rfl rfl (by kernel_rfl) Tryd.func6 (by kernel_rfl)
    (of_decide_eq_true (by kernel_rfl)) (by unfold Func.isWrapper; first | (rw [if_pos (by decide +kernel)]; kernel_rfl) | (rw [if_neg (by decide +kernel)]; exact ⟨rfl, rfl⟩))
    (fun os started H enc _ => again_lifted os started H enc)
theorem again_holds : Rows.WalAgainCardSaid :=
  Claim7.holds_tied_plain_at .later [] [.data] true Rows.walAgainCard.stood.harness false
    again_row (fun _ h => by cases h) (by kernel_rfl) (fun _ h => by cases h) walAgain_row_tie rfl ⟨rfl, rfl⟩ (by kernel_rfl) rfl
    (fun f fn hf hfn => by
      obtain rfl : f = 6 := Option.some.inj ((show Tryd.prog.funcNamed "confluence/confluencelaw04.WalAgain" = some 6 by kernel_rfl).symm.trans hf) |>.symm
      obtain rfl : fn = Tryd.f6 := (Option.some.inj (Tryd.func6.symm.trans hfn)).symm
      exact ⟨by kernel_rfl, fun j t ht => by
        rw [Tryd.params6] at ht
        have hm : t ∈ [22, 36] := by have := Array.mem_of_getElem? ht; simpa using this
        have hall : ([22, 36].all fun u => !Tryd.prog.wantsStandIn u) = true := by kernel_rfl
        exact (show Tryd.prog.wantsStandIn t = false by simpa using List.all_eq_true.1 hall t hm)⟩)
    (by kernel_rfl)

end Go.Proofs.YtlfdlodcjiaiiaaDoor
