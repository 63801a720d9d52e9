/-
  Walks and laws towards: WalGoes: whatever is done to a log, with areas of any size, whatever fails, and whenever the power goes: what is told, and what stands on the disk, is as the document says, write by write.
-/
import Derived.OrdersIn
import Derived.Test.YtlfdlodcjiaiiaaGreatDoorSamB
namespace Go.Proofs.YtlfdlodcjiaiiaaGreatDoor
open Go.Vc

theorem offR_ok {l : List UInt8} {n : Nat} (h : n ≤ l.length) : offR l 0 (n : Int) = (l.take n, l.drop n, 0) := by
  unfold offR
  rw [if_neg (by simp), if_neg (by omega), if_neg (by omega)]
  simp
theorem drawn_calls (w : World) {b : List UInt8} (hb : b.length = 64) :
    CallsV Tryz.prog 111 [.agg (bytesU b).toArray] w fun v w' => v = .agg (wordsV (sched b 64)).toArray ∧ Ext No w w' := by
  refine calls_enter Tryz.func111 rfl rfl rfl rfl ?_
  have hX := Ext.refl No w
  refine c_seq (c_region (wl (st_al I_ok rfl fun b1 w1 hn1 hb1 hE1 => ?_)))
  have fr1 := Nat.le_trans hX.size hn1
  have hX := hX.thenNo hE1
  refine wl (st_al I_ok rfl fun b2 w2 hn2 hb2 hE2 => ?_)
  have ne1_2 : b1 ≠ b2 := Nat.ne_of_lt (Nat.lt_of_lt_of_le hb1.lt hn2)
  have fr2 := Nat.le_trans hX.size hn2
  have hb1 := hb1.extNo hE2
  have hX := hX.thenNo hE2
  have hb2 : Blk w2 b2 161 (wordsV (sched b 0 ++ List.replicate (64 - 0) 0)) := hb2
  refine wl_nil (f_then (c_seq (c_region (wl (st_sa I_ok rfl 0 64 64 1 rfl ⟨.inr ⟨rfl, rfl⟩, .inr ⟨rfl, rfl⟩, .inr ⟨rfl, rfl⟩, by decide, by decide, by decide⟩ ?_)))))
  rw [slBase_zero, Nat.sub_zero]
  rw [show Value.slice (some ⟨b1, 0, none⟩) 64 64 = .slice (some ⟨b1, 0, none⟩) b.length b.length from by rw [hb]]
  have hX0 := hX
  refine wl (st_call Tryz.call90 rfl rfl rfl rfl rfl rfl (read_calls w2 (p := some ⟨b1, 0, none⟩) (c := b.length) (l := b) ⟨by simp [bytesU_len], .inr ⟨b1, 0, rfl, hb1.seg⟩⟩ (by omega)) fun v3 w3 hr3 => ?_)
  obtain ⟨rb, rfl, hrb, hR, hE3⟩ := hr3
  have hb1 := hb1.extNo hE3
  have hb2 := hb2.extNo hE3
  have hX := hX.thenNo hE3
  have hrw := Nat.le_trans hX0.size hrb
  refine wl_p I_ok rfl (wl_nil (f_then (c_seq (c_seq (c_region (wl_p I_ok rfl (wl_nil (f_then (c_block ?_)))))))))
  refine c_loopK (α := Nat) [2, 3] rfl (fun z => [(9, .int .i64 (z : Int))]) (fun z u => (z ≤ 64 ∧ Rd u rb (b.drop (4 * min z 16)) 0) ∧ Blk u b2 161 (wordsV (sched b z ++ List.replicate (64 - z) 0)) ∧ Ext No w u) (fun z u => 64 - z) (0) rfl ⟨⟨by decide, by simpa using hR⟩, hb2, hX⟩ ?_
  rintro t w4 ⟨⟨ht, hR⟩, hb2, hX⟩
  refine c_seq (c_region (wl_p I_ok rfl (wl_nil (f_then (c_seq (c_if rfl (fun hc => ?_) (fun hc => ?_)))))))
  · have ht : t < 64 := by omega
    refine c_skip (f_then (c_cutK (α := Unit) [2, 3, 9] rfl (fun z => []) (fun z u => (Rd u rb (b.drop (4 * min (t + 1) 16)) 0) ∧ Blk u b2 161 (wordsV (sched b (t + 1) ++ List.replicate (64 - (t + 1)) 0)) ∧ Ext No w u) ?_ ?_))
    · refine c_block ?_
      refine c_seq (c_region (wl_p I_ok rfl (wl_nil (f_then (c_seq (c_seq (c_region (wl_p I_ok rfl (wl_nil (f_then (c_if rfl (fun hc => ?_) (fun hc => ?_))))))))))))
      · have ht16 : t < 16 := by omega
        have e4 : min t 16 = t := by omega
        have e5 : min (t + 1) 16 = t + 1 := by omega
        rw [e4] at hR
        refine c_seq (c_region (wl_p I_ok rfl ?_))
        have hne := hR.ne hb2 (by decide)
        refine wl (st_call Tryz.call92 rfl rfl rfl rfl rfl rfl (u32_calls w4 hR (by rw [List.length_drop]; omega)) fun v5 w5 hr5 => ?_)
        obtain ⟨rfl, hR, hE5⟩ := hr5
        have hb2 := hb2.ext hE5 (fun e => hne e.symm)
        have hX := hX.thenNew hE5 hrw
        have e6 := offR_ok (l := b.drop (4 * t)) (n := 4) (by rw [List.length_drop]; omega)
        have e6 : offR (b.drop (4 * t)) 0 4 = _ := e6
        rw [e6] at hR
        rw [e6]
        have e7 : List.drop 4 (b.drop (4 * t)) = b.drop (4 * min (t + 1) 16) := by rw [List.drop_drop, e5, Nat.mul_add]
        rw [e7] at hR
        have e8 : (num ((b.drop (4 * t)).take 4) : Int) = ((nextW b (sched b t)).toNat : Int) := by
          rw [nextW_raw (by rw [sched_len]; exact ht16), sched_len, BitVec.toNat_ofNat]
          have := num_lt ((b.drop (4 * t)).take 4)
          rw [List.length_take, List.length_drop] at this
          have h4 : min 4 (b.length - 4 * t) = 4 := by omega
          rw [h4] at this
          omega
        dsimp only
        rw [e8]
        refine wl (st_ix I_ok rfl 1 rfl t rfl (by omega) (0 + t * 1) rfl ?_)
        have hb2o := hb2
        refine wl (st_set I_ok hb2 rfl rfl (by rw [wordsV_len, List.length_append, sched_len, List.length_replicate]; omega) fun w6 hb2 hE6 hs6 => ?_)
        have hX := hX.thenNew hE6 fr2
        have hb2 : Blk w6 b2 161 (wordsV (sched b (t + 1) ++ List.replicate (64 - (t + 1)) 0)) := by
          have e : 64 - t = (64 - (t + 1)) + 1 := by omega
          have e2 := hb2
          rw [e, words_set _ _ _ _ (sched_len b t).symm] at e2
          exact e2
        have hne := hR.ne hb2o (by decide)
        have hR := hR.ext hE6 (fun e => hne e) (fun b' L h e => h.ne hb2o (by decide) e)
        refine wl_nil (f_then (c_exit ?_))
        exact f_thenE (f_blockE (f_cut (()) rfl ⟨hR, hb2, hX⟩))
      · have ht16 : ¬ t < 16 := by omega
        have e4 : min t 16 = min (t + 1) 16 := by omega
        rw [e4] at hR
        have w_nx := nextW_mix (b := b) (l := sched b t) (by rw [sched_len]; exact ht16)
        rw [sched_len] at w_nx
        have hnx : IntKind.u32.wrap (IntKind.u32.wrap (IntKind.u32.wrap ((((sched b t).getD (t - 16) 0).toNat : Int) + (((sched b t).getD (t - 7) 0).toNat : Int)) + bitI .xor .u32 ((mixW ((sched b t).getD (t - 2) 0) [17, 19]).toNat : Int) (Int.fdiv (((sched b t).getD (t - 2) 0).toNat : Int) (2 ^ min (10 : Int).toNat IntKind.u32.bits))) + bitI .xor .u32 ((mixW ((sched b t).getD (t - 15) 0) [7, 18]).toNat : Int) (Int.fdiv (((sched b t).getD (t - 15) 0).toNat : Int) (2 ^ min (3 : Int).toNat IntKind.u32.bits))) = ((nextW b (sched b t)).toNat : Int) := by
          rw [w_nx, w_add, w_shr, w_xor, w_add, w_shr, w_xor, w_add]
          rfl
        refine c_skip (f_then (c_seq (c_draw rfl 10 [(0, true), (1, true), (2, true), (3, true), (4, true), (5, true), (6, true), (7, true), (8, true), (9, true)] [] (No) (by kernel_rfl) fun w7 hE7 hs7 => ?_)))
        have hd2 := hb2
        have hRd := hR
        have hXd := hX
        have hb2 := hb2.extNo hE7
        have hR := hR.extNo hE7
        have hX := hX.thenNo hE7
        have hC : Ext (No) _ w7 := hE7.no
        refine wd_k I_ok 2 rfl ?_
        rw [IntWalk.i64_in _ (by omega)]
        refine wd_ix I_ok rfl rfl 1 rfl (t - 2) (by omega) (by omega) (0 + (t - 2) * 1) rfl ?_
        refine wd_ld I_ok rfl rfl (fun w' hw' => (hd2.extNo hw').cell (i := 0 + (t - 2) * 1) (v := wordV ((sched b t).getD (t - 2) 0)) (words_at _ _ (by rw [sched_len]; omega))) ?_
        refine wd_k I_ok 2 rfl ?_
        rw [IntWalk.i64_in _ (by omega)]
        refine wd_ix I_ok rfl rfl 1 rfl (t - 15) (by omega) (by omega) (0 + (t - 15) * 1) rfl ?_
        refine wd_ld I_ok rfl rfl (fun w' hw' => (hd2.extNo hw').cell (i := 0 + (t - 15) * 1) (v := wordV ((sched b t).getD (t - 15) 0)) (words_at _ _ (by rw [sched_len]; omega))) ?_
        refine wd_k I_ok 2 rfl (wd_sw (wb_nil (f_then (c_drawX rfl 25 25 [25] (No) (by kernel_rfl) fun w8 hE8 hs8 => ?_))))
        have hd2 := hb2
        have hRd := hR
        have hXd := hX
        have hb2 := hb2.extNo hE8
        have hR := hR.extNo hE8
        have hX := hX.thenNo hE8
        have hC : Ext No _ w8 := hE8
        refine wx_plan [(0, true), (1, true), (2, true), (3, true), (4, true), (5, true), (6, true), (7, true), (8, true), (9, true), (10, true), (13, true), (14, true), (17, true), (20, true), (21, true)] 9 rfl (by kernel_rfl) (wd_k I_ok 3 rfl ?_)
        rw [IntWalk.i64_in _ (by omega)]
        refine wd_ix I_ok rfl rfl 1 rfl (t - 16) (by omega) (by omega) (0 + (t - 16) * 1) rfl ?_
        refine wd_ld I_ok rfl rfl (fun w' hw' => (hd2.extNo hw').cell (i := 0 + (t - 16) * 1) (v := wordV ((sched b t).getD (t - 16) 0)) (words_at _ _ (by rw [sched_len]; omega))) ?_
        refine wd_k I_ok 2 rfl ?_
        rw [IntWalk.i64_in _ (by omega)]
        refine wd_ix I_ok rfl rfl 1 rfl (t - 7) (by omega) (by omega) (0 + (t - 7) * 1) rfl ?_
        refine wd_ld I_ok rfl rfl (fun w' hw' => (hd2.extNo hw').cell (i := 0 + (t - 7) * 1) (v := wordV ((sched b t).getD (t - 7) 0)) (words_at _ _ (by rw [sched_len]; omega))) ?_
        refine wd_k I_ok 7 rfl (wd_tail rfl (wx_alt [11, 18] rfl (by kernel_rfl) ⟨⟨_, rfl, ?_⟩, ⟨_, rfl, ?_⟩, trivial⟩))
        · refine st_bs I_ok rfl 1 rfl rfl rfl (by decide) (by decide) (by simp [partsOk]) rfl fun b37 w9 hn37 hb37 hE9 hs9 => ⟨hC.thenNo hE9, ?_⟩
          have ne2_37 : b2 ≠ b37 := Nat.ne_of_lt (Nat.lt_of_lt_of_le hb2.lt hn37)
          have fr37 := Nat.le_trans hX.size hn37
          have frhC37 := Nat.le_trans hC.size hn37
          have hb2 := hb2.extNo hE9
          have hR := hR.extNo hE9
          have hX := hX.thenNo hE9
          have hC := hC.thenNo hE9
          refine wx_plan [] 8 rfl (by kernel_rfl) (wd_tail rfl (wx_alt [12, 18] rfl (by kernel_rfl) ⟨⟨_, rfl, ?_⟩, ⟨_, rfl, ?_⟩, trivial⟩))
          · refine st_call Tryz.call112 rfl rfl rfl rfl rfl rfl (mixed_calls w9 _ (p := some ⟨b37, 0, none⟩) (c := 2) (ns := [17, 19]) ⟨rfl, .inr ⟨b37, 0, rfl, hb37.seg⟩⟩ (by decide) (by decide)) fun v10 w10 hr10 => ⟨(by obtain ⟨rfl, hE10⟩ := hr10; exact hC.thenNo hE10), ?_⟩
            obtain ⟨rfl, hE10⟩ := hr10
            have hb2 := hb2.extNo hE10
            have hb37 := hb37.extNo hE10
            have hR := hR.extNo hE10
            have hX := hX.thenNo hE10
            have hC := hC.thenNo hE10
            refine wx_plan [(15, true), (16, true), (18, false), (19, false), (22, true), (23, true), (24, true)] 0 rfl (by kernel_rfl) (wd_k I_ok 2 rfl ?_)
            refine wd_l rfl (st_bs I_ok rfl 1 rfl rfl rfl (by decide) (by decide) (by simp [partsOk]) rfl fun b44 w11 hn44 hb44 hE11 hs11 => ⟨hC.thenNo hE11, ?_⟩)
            have ne2_44 : b2 ≠ b44 := Nat.ne_of_lt (Nat.lt_of_lt_of_le hb2.lt hn44)
            have ne37_44 : b37 ≠ b44 := Nat.ne_of_lt (Nat.lt_of_lt_of_le hb37.lt hn44)
            have fr44 := Nat.le_trans hX.size hn44
            have frhC44 := Nat.le_trans hC.size hn44
            have hb2 := hb2.extNo hE11
            have hb37 := hb37.extNo hE11
            have hR := hR.extNo hE11
            have hX := hX.thenNo hE11
            have hC := hC.thenNo hE11
            refine wd_l rfl (st_call Tryz.call112 rfl rfl rfl rfl rfl rfl (mixed_calls w11 _ (p := some ⟨b44, 0, none⟩) (c := 2) (ns := [7, 18]) ⟨rfl, .inr ⟨b44, 0, rfl, hb44.seg⟩⟩ (by decide) (by decide)) fun v12 w12 hr12 => ⟨(by obtain ⟨rfl, hE12⟩ := hr12; exact hC.thenNo hE12), ?_⟩)
            obtain ⟨rfl, hE12⟩ := hr12
            have hb2 := hb2.extNo hE12
            have hb37 := hb37.extNo hE12
            have hb44 := hb44.extNo hE12
            have hR := hR.extNo hE12
            have hX := hX.thenNo hE12
            have hC := hC.thenNo hE12
            refine wd_k I_ok 2 rfl ?_
            rw [hnx]
            refine wd_ix I_ok rfl rfl 1 rfl t rfl (by omega) (0 + t * 1) rfl (wd_sw ?_)
            have hb2o := hb2
            refine wb rfl (st_set I_ok hb2 rfl rfl (by rw [wordsV_len, List.length_append, sched_len, List.length_replicate]; omega) fun w13 hb2 hE13 hs13 => ?_)
            have hb37 := hb37.ext1 hE13 ne2_37.symm
            have hb44 := hb44.ext1 hE13 ne2_44.symm
            have hX := hX.thenNew hE13 fr2
            have hb2 : Blk w13 b2 161 (wordsV (sched b (t + 1) ++ List.replicate (64 - (t + 1)) 0)) := by
              have e : 64 - t = (64 - (t + 1)) + 1 := by omega
              have e2 := hb2
              rw [e, words_set _ _ _ _ (sched_len b t).symm] at e2
              exact e2
            have hne := hR.ne hb2o (by decide)
            have hR := hR.ext hE13 (fun e => hne e) (fun b' L h e => h.ne hb2o (by decide) e)
            refine wb_nil ?_
            exact f_blockN (f_cut (()) rfl ⟨hR, hb2, hX⟩)
          · refine st_bs I_ok rfl 1 rfl rfl rfl (by decide) (by decide) (by simp [partsOk]) rfl fun b44 w14 hn44 hb44 hE14 hs14 => ⟨hC.thenNo hE14, ?_⟩
            have ne2_44 : b2 ≠ b44 := Nat.ne_of_lt (Nat.lt_of_lt_of_le hb2.lt hn44)
            have ne37_44 : b37 ≠ b44 := Nat.ne_of_lt (Nat.lt_of_lt_of_le hb37.lt hn44)
            have fr44 := Nat.le_trans hX.size hn44
            have frhC44 := Nat.le_trans hC.size hn44
            have hb2 := hb2.extNo hE14
            have hb37 := hb37.extNo hE14
            have hR := hR.extNo hE14
            have hX := hX.thenNo hE14
            have hC := hC.thenNo hE14
            refine wx_plan [(12, false), (15, true), (16, true), (19, false), (22, true), (23, true), (24, true)] 0 rfl (by kernel_rfl) ?_
            refine wd_l rfl (st_call Tryz.call112 rfl rfl rfl rfl rfl rfl (mixed_calls w14 _ (p := some ⟨b37, 0, none⟩) (c := 2) (ns := [17, 19]) ⟨rfl, .inr ⟨b37, 0, rfl, hb37.seg⟩⟩ (by decide) (by decide)) fun v15 w15 hr15 => ⟨(by obtain ⟨rfl, hE15⟩ := hr15; exact hC.thenNo hE15), ?_⟩)
            obtain ⟨rfl, hE15⟩ := hr15
            have hb2 := hb2.extNo hE15
            have hb37 := hb37.extNo hE15
            have hb44 := hb44.extNo hE15
            have hR := hR.extNo hE15
            have hX := hX.thenNo hE15
            have hC := hC.thenNo hE15
            refine wd_k I_ok 2 rfl ?_
            refine wd_l rfl (st_call Tryz.call112 rfl rfl rfl rfl rfl rfl (mixed_calls w15 _ (p := some ⟨b44, 0, none⟩) (c := 2) (ns := [7, 18]) ⟨rfl, .inr ⟨b44, 0, rfl, hb44.seg⟩⟩ (by decide) (by decide)) fun v16 w16 hr16 => ⟨(by obtain ⟨rfl, hE16⟩ := hr16; exact hC.thenNo hE16), ?_⟩)
            obtain ⟨rfl, hE16⟩ := hr16
            have hb2 := hb2.extNo hE16
            have hb37 := hb37.extNo hE16
            have hb44 := hb44.extNo hE16
            have hR := hR.extNo hE16
            have hX := hX.thenNo hE16
            have hC := hC.thenNo hE16
            refine wd_k I_ok 2 rfl ?_
            rw [hnx]
            refine wd_ix I_ok rfl rfl 1 rfl t rfl (by omega) (0 + t * 1) rfl (wd_sw ?_)
            have hb2o := hb2
            refine wb rfl (st_set I_ok hb2 rfl rfl (by rw [wordsV_len, List.length_append, sched_len, List.length_replicate]; omega) fun w17 hb2 hE17 hs17 => ?_)
            have hb37 := hb37.ext1 hE17 ne2_37.symm
            have hb44 := hb44.ext1 hE17 ne2_44.symm
            have hX := hX.thenNew hE17 fr2
            have hb2 : Blk w17 b2 161 (wordsV (sched b (t + 1) ++ List.replicate (64 - (t + 1)) 0)) := by
              have e : 64 - t = (64 - (t + 1)) + 1 := by omega
              have e2 := hb2
              rw [e, words_set _ _ _ _ (sched_len b t).symm] at e2
              exact e2
            have hne := hR.ne hb2o (by decide)
            have hR := hR.ext hE17 (fun e => hne e) (fun b' L h e => h.ne hb2o (by decide) e)
            refine wb_nil ?_
            exact f_blockN (f_cut (()) rfl ⟨hR, hb2, hX⟩)
        · refine st_bs I_ok rfl 1 rfl rfl rfl (by decide) (by decide) (by simp [partsOk]) rfl fun b44 w18 hn44 hb44 hE18 hs18 => ⟨hC.thenNo hE18, ?_⟩
          have ne2_44 : b2 ≠ b44 := Nat.ne_of_lt (Nat.lt_of_lt_of_le hb2.lt hn44)
          have fr44 := Nat.le_trans hX.size hn44
          have frhC44 := Nat.le_trans hC.size hn44
          have hb2 := hb2.extNo hE18
          have hR := hR.extNo hE18
          have hX := hX.thenNo hE18
          have hC := hC.thenNo hE18
          refine wx_plan [(11, false), (12, false), (15, true), (16, true), (19, false), (22, true), (23, true), (24, true)] 0 rfl (by kernel_rfl) ?_
          refine wd_l rfl (st_bs I_ok rfl 1 rfl rfl rfl (by decide) (by decide) (by simp [partsOk]) rfl fun b37 w19 hn37 hb37 hE19 hs19 => ⟨hC.thenNo hE19, ?_⟩)
          have ne2_37 : b2 ≠ b37 := Nat.ne_of_lt (Nat.lt_of_lt_of_le hb2.lt hn37)
          have ne44_37 : b44 ≠ b37 := Nat.ne_of_lt (Nat.lt_of_lt_of_le hb44.lt hn37)
          have fr37 := Nat.le_trans hX.size hn37
          have frhC37 := Nat.le_trans hC.size hn37
          have hb2 := hb2.extNo hE19
          have hb44 := hb44.extNo hE19
          have hR := hR.extNo hE19
          have hX := hX.thenNo hE19
          have hC := hC.thenNo hE19
          refine wd_l rfl (st_call Tryz.call112 rfl rfl rfl rfl rfl rfl (mixed_calls w19 _ (p := some ⟨b37, 0, none⟩) (c := 2) (ns := [17, 19]) ⟨rfl, .inr ⟨b37, 0, rfl, hb37.seg⟩⟩ (by decide) (by decide)) fun v20 w20 hr20 => ⟨(by obtain ⟨rfl, hE20⟩ := hr20; exact hC.thenNo hE20), ?_⟩)
          obtain ⟨rfl, hE20⟩ := hr20
          have hb2 := hb2.extNo hE20
          have hb44 := hb44.extNo hE20
          have hb37 := hb37.extNo hE20
          have hR := hR.extNo hE20
          have hX := hX.thenNo hE20
          have hC := hC.thenNo hE20
          refine wd_k I_ok 2 rfl ?_
          refine wd_l rfl (st_call Tryz.call112 rfl rfl rfl rfl rfl rfl (mixed_calls w20 _ (p := some ⟨b44, 0, none⟩) (c := 2) (ns := [7, 18]) ⟨rfl, .inr ⟨b44, 0, rfl, hb44.seg⟩⟩ (by decide) (by decide)) fun v21 w21 hr21 => ⟨(by obtain ⟨rfl, hE21⟩ := hr21; exact hC.thenNo hE21), ?_⟩)
          obtain ⟨rfl, hE21⟩ := hr21
          have hb2 := hb2.extNo hE21
          have hb44 := hb44.extNo hE21
          have hb37 := hb37.extNo hE21
          have hR := hR.extNo hE21
          have hX := hX.thenNo hE21
          have hC := hC.thenNo hE21
          refine wd_k I_ok 2 rfl ?_
          rw [hnx]
          refine wd_ix I_ok rfl rfl 1 rfl t rfl (by omega) (0 + t * 1) rfl (wd_sw ?_)
          have hb2o := hb2
          refine wb rfl (st_set I_ok hb2 rfl rfl (by rw [wordsV_len, List.length_append, sched_len, List.length_replicate]; omega) fun w22 hb2 hE22 hs22 => ?_)
          have hb44 := hb44.ext1 hE22 ne2_44.symm
          have hb37 := hb37.ext1 hE22 ne2_37.symm
          have hX := hX.thenNew hE22 fr2
          have hb2 : Blk w22 b2 161 (wordsV (sched b (t + 1) ++ List.replicate (64 - (t + 1)) 0)) := by
            have e : 64 - t = (64 - (t + 1)) + 1 := by omega
            have e2 := hb2
            rw [e, words_set _ _ _ _ (sched_len b t).symm] at e2
            exact e2
          have hne := hR.ne hb2o (by decide)
          have hR := hR.ext hE22 (fun e => hne e) (fun b' L h e => h.ne hb2o (by decide) e)
          refine wb_nil ?_
          exact f_blockN (f_cut (()) rfl ⟨hR, hb2, hX⟩)
    rintro z w23 ⟨hR, hb2, hX⟩
    refine c_region (wl_p I_ok rfl ?_)
    rw [IntWalk.i64_in _ (by omega)]
    refine wl_nil ?_
    exact f_round (t + 1) rfl ⟨⟨by omega, hR⟩, hb2, hX⟩ (by first | omega | (dsimp only; omega))
  · have h0 : t = 64 := by omega
    subst h0
    have hb2 : Blk w4 b2 161 (wordsV (sched b 64)) := by simpa using hb2
    have hlen : (wordsV (sched b 64)).length = 64 := by rw [wordsV_len, sched_len]
    generalize sched b 64 = S at hb2 hlen ⊢
    refine c_exit (f_thenE (f_thenE (f_blockE (f_then (c_seq (c_region (wl (st_ldB I_ok hb2 rfl hlen (wl (st_stW (l' := wordsV S) I_ok hb2 rfl rfl hlen rfl OneC.h fun w24 hb2 hE24 hs24 => ?_))))))))))
    have hX := hX.thenNew hE24 fr2
    refine wl_nil (f_then (c_ret (f_ret [_] ⟨⟨b2, 0, rfl, ld_all I_ok rfl rfl hb2.seg hlen⟩, trivial⟩ ?_)))
    exact ⟨rfl, hX⟩
end Go.Proofs.YtlfdlodcjiaiiaaGreatDoor
namespace Go.Proofs.YtlfdlodcjiaiiaaGreatDoor
open Go.Vc
theorem into_calls (w : World) {sb : Nat} {h : List W32} (hs : Blk w sb 155 (wordsV h)) (hl : h.length = 8) {b : List UInt8} (hb : b.length = 64) (hg : Seg w 0 0 (wordsV rootsW)) :
    CallsV Tryz.prog 106 [.pointer (some ⟨sb, 0, none⟩), .agg (bytesU b).toArray] w fun _ w' => Blk w' sb 155 (wordsV (intoW rootsW h b)) ∧ Ext (One sb) w w' := by
  have hs0 := hs
  have hlt := hs.lt
  have hglt : 0 < w.heap.size := Nat.zero_lt_of_lt hlt
  refine calls_enter Tryz.func106 rfl rfl rfl rfl ?_
  have hX := Ext.refl (One sb) w
  refine c_seq (c_region (wl (st_al I_ok rfl fun b3 w1 hn3 hb3 hE1 => ?_)))
  have fr3 := Nat.le_trans hX.size hn3
  have hX := hX.thenNo hE1
  have hb3 : Blk w1 b3 36 (bytesU b) := hb3
  refine wl_nil (f_then (c_seq (c_region (wl_p I_ok rfl ?_))))
  have hs := hs.extNo hE1
  have hg := hg.extNo hE1
  refine wl (st_ldN I_ok rfl hs.seg (by rw [wordsV_len, hl]) (wl (st_al I_ok rfl fun b4 w2 hn4 hb4 hE2 => ?_)))
  have ne3_4 : b3 ≠ b4 := Nat.ne_of_lt (Nat.lt_of_lt_of_le hb3.lt hn4)
  have fr4 := Nat.le_trans hX.size hn4
  have hb3 := hb3.extNo hE2
  have hs := hs.extNo hE2
  have hg := hg.extNo hE2
  have hX := hX.thenNo hE2
  have hsb4 : ¬ One b4 sb := fun e => by have e : sb = b4 := e; omega
  have h0b4 : ¬ One b4 0 := fun e => by have e : 0 = b4 := e; omega
  refine wl (st_stW (l' := wordsV h) I_ok hb4 rfl rfl (by rw [wordsV_len, hl]) (by rw [wordsV_len, hl]; rfl) OneC.h fun w3 hb4 hE3 hs3 => ?_)
  have hb3 := hb3.ext1 hE3 ne3_4
  have hs := hs.ext hE3 hsb4
  have hg := hg.ext hE3 h0b4
  have hX := hX.thenNew hE3 fr4
  refine wl_nil (f_then (c_seq (c_seq (c_region (wl (st_ldN I_ok rfl hb3.seg (by rw [bytesU_len, hb]) (wl (st_call Tryz.call111 rfl rfl rfl rfl rfl rfl (drawn_calls w3 hb) fun v4 w4 hr4 => ?_))))))))
  obtain ⟨rfl, hE4⟩ := hr4
  have hb4 := hb4.extNo hE4
  have hs := hs.extNo hE4
  have hg := hg.extNo hE4
  have hX := hX.thenNo hE4
  have hWl := sched_len b 64
  have hi : intoW rootsW h b = List.zipWith (· + ·) h (turnsW h rootsW (sched b 64) 64) := rfl
  rw [hi]
  generalize sched b 64 = W at hWl ⊢
  refine wl_p I_ok rfl (wl_nil (f_then (c_block ?_)))
  refine c_loopK (α := Nat) [0, 4, 19] rfl (fun z => [(20, .int .i64 (z : Int))]) (fun z u => (z ≤ 64 ∧ Blk u sb 155 (wordsV h) ∧ Seg u 0 0 (wordsV rootsW)) ∧ Blk u b4 150 (wordsV (turnsW h rootsW W z)) ∧ Ext (One sb) w u) (fun z u => 64 - z) (0) rfl ⟨⟨by decide, hs, hg⟩, hb4, hX⟩ ?_
  rintro t w5 ⟨⟨ht, hs, hg⟩, hb4, hX⟩
  refine c_seq (c_region (wl_p I_ok rfl (wl_nil (f_then (c_seq (c_if rfl (fun hc => ?_) (fun hc => ?_)))))))
  · have ht : t < 64 := by omega
    obtain ⟨a0, a1, a2, a3, a4, a5, a6, a7, h8⟩ := eight (l := turnsW h rootsW W t) (by rw [turnsW_len, hl])
    rw [h8] at hb4
    have hW := wordsV_get W (i := t) (by omega)
    have hk := wordsV_get rootsW (i := t) ht
    refine c_skip (f_then (c_seq (c_block (c_seq (c_region (wl_p I_ok rfl (wl (st_id I_ok rfl t rfl ht (.inl ⟨rfl, by simpa using hW⟩) (wl_p I_ok rfl (wl_nil (f_then (c_seq ?_))))))))))))
    refine c_draw rfl 6 [(0, true), (1, true), (2, true), (3, true), (4, true), (5, true)] [] (No) (by kernel_rfl) fun w6 hE6 hs6 => ?_
    have hd4 := hb4
    have hsd := hs
    have hgd := hg
    have hXd := hX
    have hb4 := hb4.extNo hE6
    have hs := hs.extNo hE6
    have hg := hg.extNo hE6
    have hX := hX.thenNo hE6
    have hC : Ext (No) _ w6 := hE6.no
    refine wd_ix I_ok rfl rfl 1 rfl 0 rfl (by decide) 0 rfl (wd_ld I_ok rfl rfl (fun w' hw' => (hd4.extNo hw').cell rfl) ?_)
    refine wd_ix I_ok rfl rfl 1 rfl 4 rfl (by decide) 4 rfl (wd_ld I_ok rfl rfl (fun w' hw' => (hd4.extNo hw').cell rfl) ?_)
    refine wd_k I_ok 2 rfl (wd_sw (wb_nil (f_then (c_seq ?_))))
    refine c_draw rfl 24 [(0, true), (1, true), (2, true), (6, true), (7, true), (8, true), (9, true), (10, true), (11, true), (12, true), (13, true), (14, true), (15, true), (17, true), (18, true), (19, true), (21, true), (3, false), (4, false), (5, true), (16, true), (20, true), (22, true), (23, true)] [] (No) (by kernel_rfl) fun w7 hE7 hs7 => ?_
    have hd4 := hb4
    have hsd := hs
    have hgd := hg
    have hXd := hX
    have hb4 := hb4.extNo hE7
    have hs := hs.extNo hE7
    have hg := hg.extNo hE7
    have hX := hX.thenNo hE7
    have hC : Ext (No) _ w7 := hE7.no
    refine wd_ix I_ok rfl rfl 1 rfl 7 rfl (by decide) 7 rfl (wd_ld I_ok rfl rfl (fun w' hw' => (hd4.extNo hw').cell rfl) ?_)
    refine wd_k I_ok 1 rfl (wd_ix I_ok rfl rfl 1 rfl 6 rfl (by decide) 6 rfl (wd_ld I_ok rfl rfl (fun w' hw' => (hd4.extNo hw').cell rfl) ?_))
    refine wd_k I_ok 1 rfl (wd_ix I_ok rfl rfl 1 rfl 5 rfl (by decide) 5 rfl (wd_ld I_ok rfl rfl (fun w' hw' => (hd4.extNo hw').cell rfl) ?_))
    refine wd_ix I_ok rfl rfl 1 rfl 6 rfl (by decide) 6 rfl (wd_ld I_ok rfl rfl (fun w' hw' => (hd4.extNo hw').cell rfl) ?_)
    refine wd_k I_ok 4 rfl (wd_ix I_ok rfl rfl 1 rfl t rfl ht (0 + t) (by omega) (wd_ld I_ok rfl rfl (fun w' hw' => (hgd.extNo hw') t _ hk) ?_))
    refine wd_k I_ok 1 rfl (wd_l rfl (st_bs I_ok rfl 1 rfl rfl rfl (by decide) (by decide) (by simp [partsOk]) rfl fun b31 w8 hn31 hb31 hE8 hs8 => ⟨hC.thenNo hE8, ?_⟩))
    have ne4_31 : b4 ≠ b31 := Nat.ne_of_lt (Nat.lt_of_lt_of_le hb4.lt hn31)
    have fr31 := Nat.le_trans hX.size hn31
    have hb4 := hb4.extNo hE8
    have hs := hs.extNo hE8
    have hg := hg.extNo hE8
    have hX := hX.thenNo hE8
    have hC := hC.thenNo hE8
    refine wd_l rfl (st_call Tryz.call112 rfl rfl rfl rfl rfl rfl (mixed_calls w8 _ (p := some ⟨b31, 0, none⟩) (c := 3) (ns := [6, 11, 25]) ⟨rfl, .inr ⟨b31, 0, rfl, hb31.seg⟩⟩ (by decide) (by decide)) fun v9 w9 hr9 => ⟨(by obtain ⟨rfl, hE9⟩ := hr9; exact hC.thenNo hE9), ?_⟩)
    obtain ⟨rfl, hE9⟩ := hr9
    have hb4 := hb4.extNo hE9
    have hb31 := hb31.extNo hE9
    have hs := hs.extNo hE9
    have hg := hg.extNo hE9
    have hX := hX.thenNo hE9
    have hC := hC.thenNo hE9
    refine wd_k I_ok 4 rfl ?_
    rw [w_xor, w_and, w_xor, w_add, w_add, w_add, w_add]
    refine wd_k I_ok 1 rfl (wd_sw (wb_nil (f_then (c_seq ?_))))
    refine c_draw rfl 17 [(0, true), (3, true), (4, true), (5, true), (6, true), (7, true), (8, true), (9, true), (10, true), (11, true), (12, true), (13, true), (14, true), (1, false), (2, false), (15, true), (16, true)] [] (No) (by kernel_rfl) fun w10 hE10 hs10 => ?_
    have hd4 := hb4
    have hsd := hs
    have hgd := hg
    have hXd := hX
    have hb4 := hb4.extNo hE10
    have hs := hs.extNo hE10
    have hg := hg.extNo hE10
    have hX := hX.thenNo hE10
    have hC : Ext (No) _ w10 := hE10.no
    refine wd_k I_ok 2 rfl (wd_ix I_ok rfl rfl 1 rfl 1 rfl (by decide) 1 rfl (wd_ld I_ok rfl rfl (fun w' hw' => (hd4.extNo hw').cell rfl) ?_))
    refine wd_k I_ok 1 rfl (wd_ix I_ok rfl rfl 1 rfl 2 rfl (by decide) 2 rfl (wd_ld I_ok rfl rfl (fun w' hw' => (hd4.extNo hw').cell rfl) ?_))
    refine wd_k I_ok 1 rfl (wd_ix I_ok rfl rfl 1 rfl 1 rfl (by decide) 1 rfl (wd_ld I_ok rfl rfl (fun w' hw' => (hd4.extNo hw').cell rfl) ?_))
    refine wd_k I_ok 3 rfl (wd_l rfl (st_bs I_ok rfl 1 rfl rfl rfl (by decide) (by decide) (by simp [partsOk]) rfl fun b52 w11 hn52 hb52 hE11 hs11 => ⟨hC.thenNo hE11, ?_⟩))
    have ne4_52 : b4 ≠ b52 := Nat.ne_of_lt (Nat.lt_of_lt_of_le hb4.lt hn52)
    have fr52 := Nat.le_trans hX.size hn52
    have hb4 := hb4.extNo hE11
    have hs := hs.extNo hE11
    have hg := hg.extNo hE11
    have hX := hX.thenNo hE11
    have hC := hC.thenNo hE11
    refine wd_l rfl (st_call Tryz.call112 rfl rfl rfl rfl rfl rfl (mixed_calls w11 _ (p := some ⟨b52, 0, none⟩) (c := 3) (ns := [2, 13, 22]) ⟨rfl, .inr ⟨b52, 0, rfl, hb52.seg⟩⟩ (by decide) (by decide)) fun v12 w12 hr12 => ⟨(by obtain ⟨rfl, hE12⟩ := hr12; exact hC.thenNo hE12), ?_⟩)
    obtain ⟨rfl, hE12⟩ := hr12
    have hb4 := hb4.extNo hE12
    have hb52 := hb52.extNo hE12
    have hs := hs.extNo hE12
    have hg := hg.extNo hE12
    have hX := hX.thenNo hE12
    have hC := hC.thenNo hE12
    refine wd_k I_ok 1 rfl ?_
    rw [w_and, w_or, w_and, w_or, w_add]
    refine wd_k I_ok 1 rfl (wd_sw (wb_nil (f_then (c_seq (c_draw rfl 3 [(0, true), (1, true), (2, false)] [] (One b4) (by kernel_rfl) fun w13 hE13 hs13 => ?_)))))
    have hd4 := hb4
    have hsd := hs
    have hgd := hg
    have hXd := hX
    have hb4 := hb4.extNo hE13
    have hs := hs.extNo hE13
    have hg := hg.extNo hE13
    have hX := hX.thenNo hE13
    have hC : Ext (One b4) _ w13 := hE13.no
    refine wd_sa I_ok rfl rfl 1 8 8 1 rfl ⟨.inr ⟨rfl, rfl⟩, .inr ⟨rfl, rfl⟩, .inl rfl, by decide, by decide, by decide⟩ (wd_sa I_ok rfl rfl 0 7 8 1 rfl ⟨.inr ⟨rfl, rfl⟩, .inl rfl, .inr ⟨rfl, rfl⟩, by decide, by decide, by decide⟩ ?_)
    refine wd_l rfl (st_cp I_ok rfl 1 rfl hb4 (Src.slice (m := 7) (news := wordsV [a0, a1, a2, a3, a4, a5, a6]) ⟨rfl, .inr ⟨b4, 0, rfl, (hb4.seg.take 7)⟩⟩ OneC.h) (show 7 ≤ 7 from by decide) (show 8 ≤ 8 from by decide) fun w14 hc4 hE14 hs14 => ⟨hC.then hE14, ?_⟩)
    have hb4 : Blk w14 b4 150 (wordsV [a0, a0, a1, a2, a3, a4, a5, a6]) := hc4
    have hs := hs.ext hE14 hsb4
    have hg := hg.ext hE14 h0b4
    have hX := hX.thenNew hE14 fr4
    refine wd_sw (wb_nil (f_then (c_seq (c_region (wl_p I_ok rfl ?_)))))
    rw [w_add]
    refine wl (st_ix I_ok rfl 1 rfl 0 rfl (by decide) 0 rfl (wl (st_set I_ok hb4 rfl rfl (show 0 < 8 from by decide) fun w15 hb4 hE15 hs15 => ?_)))
    have hs := hs.ext hE15 hsb4
    have hg := hg.ext hE15 h0b4
    have hX := hX.thenNew hE15 fr4
    refine wl_nil (f_then (c_region (wl (st_ix I_ok rfl 1 rfl 4 rfl (by decide) 4 rfl (wl (st_ldb I_ok hb4 rfl rfl (wl_p I_ok rfl ?_)))))))
    rw [w_add]
    refine wl (st_ix I_ok rfl 1 rfl 4 rfl (by decide) 4 rfl (wl (st_set I_ok hb4 rfl rfl (show 4 < 8 from by decide) fun w16 hb4 hE16 hs16 => ?_)))
    have hs := hs.ext hE16 hsb4
    have hg := hg.ext hE16 h0b4
    have hX := hX.thenNew hE16 fr4
    have hb4 : Blk w16 b4 150 (wordsV (turnsW h rootsW W (t + 1))) := by
      have e1 : W.getD t 0 = W[t]'(by omega) := by rw [List.getD_eq_getElem?_getD, List.getElem?_eq_getElem (by omega)]; rfl
      have e2 : rootsW.getD t 0 = rootsW[t]'ht := by rw [List.getD_eq_getElem?_getD, List.getElem?_eq_getElem ht]; rfl
      rw [turnsW, h8, e1, e2]
      exact hb4
    refine wl_nil (f_blockN (f_then (c_region (wl_p I_ok rfl ?_))))
    rw [IntWalk.i64_in _ (by omega)]
    refine wl_nil ?_
    exact f_round (t + 1) rfl ⟨⟨by omega, hs, hg⟩, hb4, hX⟩ (by first | omega | (dsimp only; omega))
  · have h0 : t = 64 := by omega
    subst h0
    have hLl : (turnsW h rootsW W 64).length = 8 := by rw [turnsW_len, hl]
    generalize turnsW h rootsW W 64 = L at hb4 hLl ⊢
    refine c_exit (f_thenE (f_thenE (f_blockE (f_then (c_seq (c_region (wl (st_ldB I_ok hb4 rfl (by rw [wordsV_len, hLl]) (wl_p I_ok rfl (wl_nil (f_then (c_block ?_))))))))))))
    refine c_loopK (α := Nat) [0, 80] rfl (fun z => [(81, .int .i64 (z : Int))]) (fun z u => (z ≤ 8 ∧ Blk u sb 155 (wordsV (List.zipWith (· + ·) (h.take z) (L.take z) ++ h.drop z))) ∧ Ext (One sb) w u) (fun z u => 8 - z) (0) rfl ⟨⟨by decide, by simpa using hs⟩, hX⟩ ?_
    rintro i w17 ⟨⟨hi8, hs⟩, hX⟩
    refine c_seq (c_region (wl_p I_ok rfl (wl_nil (f_then (c_seq (c_if rfl (fun hc => ?_) (fun hc => ?_)))))))
    · have hi8 : i < 8 := by omega
      have h1 : i < h.length := by omega
      have h2 : i < L.length := by omega
      have hLw := wordsV_get L h2
      refine c_skip (f_then (c_seq (c_block (c_seq (c_region (wl_p I_ok rfl (wl (st_id I_ok rfl i rfl hi8 (.inl ⟨rfl, by simpa using hLw⟩) (wl_p I_ok rfl (wl_nil (f_then ?_)))))))))))
      refine c_draw rfl 13 [(0, true), (1, true), (2, true), (3, true), (4, true), (5, true), (6, true), (7, true), (8, true), (9, true), (10, true), (11, true), (12, true)] [13] (No) (by kernel_rfl) fun w18 hE18 hs18 => ?_
      have hsd := hs
      have hXd := hX
      have hs := hs.extNo hE18
      have hX := hX.thenNo hE18
      have hC : Ext (No) _ w18 := hE18.no
      refine wd_k I_ok 5 rfl (wd_ix I_ok rfl rfl 1 rfl i rfl hi8 (0 + i * 1) rfl (wd_ld I_ok rfl rfl (fun w' hw' => (hsd.extNo hw').cell (i := 0 + i * 1) (v := wordV h[i]) (zip_at h1 h2)) ?_))
      refine wd_k I_ok 2 rfl ?_
      rw [w_add]
      refine wd_k I_ok 3 rfl (wd_ix I_ok rfl rfl 1 rfl i rfl hi8 (0 + i * 1) rfl (wd_sw ?_))
      refine wb rfl (st_set I_ok hs rfl rfl (by rw [wordsV_len, List.length_append, List.length_zipWith, List.length_take, List.length_take, List.length_drop]; omega) fun w19 hs2 hE19 hs19 => ?_)
      rw [zip_set h1 h2] at hs2
      have hs := hs2
      have hX := hX.then hE19
      refine wb_nil (f_blockN (f_then (c_region (wl_p I_ok rfl ?_))))
      rw [IntWalk.i64_in _ (by omega)]
      refine wl_nil ?_
      exact f_round (i + 1) rfl ⟨⟨by omega, hs⟩, hX⟩ (by first | omega | (dsimp only; omega))
    · have h0 : i = 8 := by omega
      subst h0
      have e1 : h.take 8 = h := List.take_of_length_le (by omega)
      have e2 : L.take 8 = L := List.take_of_length_le (by omega)
      have e3 : h.drop 8 = [] := List.drop_eq_nil_of_le (by omega)
      rw [e1, e2, e3, List.append_nil] at hs
      refine c_exit (f_thenE (f_thenE (f_blockE (f_end0 rfl ?_))))
      exact ⟨hs, hX⟩
end Go.Proofs.YtlfdlodcjiaiiaaGreatDoor
namespace Go.Proofs.YtlfdlodcjiaiiaaGreatDoor
open Go.Vc
theorem start_calls (w : World) :
    CallsV Tryz.prog 105 [] w fun v w' => v = .agg (wordsV startW).toArray ∧ Ext No w w' := by
  refine calls_enter Tryz.func105 rfl rfl rfl rfl ?_
  have hX := Ext.refl No w
  refine c_seq (c_region (wl (st_al I_ok rfl fun b0 w1 hn0 hb0 hE1 => ?_)))
  have fr0 := Nat.le_trans hX.size hn0
  have hX := hX.thenNo hE1
  refine wl_nil (f_then (c_seq (c_region (wl (st_bd I_ok rfl (by simp [partsOk]; decide) (l' := wordsV startW) rfl (wl (st_stW (l' := wordsV startW) I_ok hb0 rfl rfl rfl rfl OneC.h fun w2 hb0 hE2 hs2 => ?_)))))))
  have hX := hX.thenNew hE2 fr0
  refine wl_nil (f_then (c_ret (f_ret [_] ⟨⟨b0, 0, rfl, ld_all I_ok rfl rfl hb0.seg rfl⟩, trivial⟩ ?_)))
  exact ⟨rfl, hX⟩

theorem pad_calls (w : World) {p : Option Addr} {c : Nat} {l : List UInt8} (h : SlB w p l) (hl : l.length < 100000000) :
    CallsV Tryz.prog 107 [.slice p l.length c] w fun v w' => ∃ b, v = .slice (some ⟨b, 0, none⟩) (padW l).length (padW l).length ∧ w.heap.size ≤ b ∧ Blk w' b 5 (bytesU (padW l)) ∧ Ext No w w' := by
  obtain ⟨F, hF⟩ : ∃ F, F = (l.length + 72) / 64 * 64 - 8 := ⟨_, rfl⟩
  have hF1 : l.length + 1 ≤ F := by omega
  obtain ⟨k, hk⟩ : ∃ k, F = l.length + (k + 1) := ⟨F - (l.length + 1), by omega⟩
  have e1 : IntKind.i64.wrap (IntKind.i64.wrap ((IntKind.i64.wrap ((l.length : Int) + 72)).tdiv 64) * 64) = ((F + 8 : Nat) : Int) := by
    rw [IntWalk.i64_in ((l.length : Int) + 72) (by omega), IntWalk.i64_quo _ _ (by omega), IntWalk.i64_in _ (by omega)]
    omega
  refine calls_enter Tryz.func107 rfl rfl rfl rfl ?_
  have hX := Ext.refl No w
  refine c_seq (c_region (wl_p I_ok rfl (wl_nil (f_then (c_seq (c_region (wl_p I_ok rfl ?_)))))))
  rw [e1]
  refine wl_nil (f_then (c_seq (c_region (wl_p I_ok rfl ?_))))
  rw [show IntKind.i64.wrap (((F + 8 : Nat) : Int) - 8) = (F : Int) from by rw [IntWalk.i64_in _ (by omega)]; omega]
  refine wl (st_mk I_ok rfl F F 1 rfl rfl rfl (by decide) rfl rfl (Nat.le_refl _) (by omega) (by unfold maxLen; omega) fun b12 w1 hn12 hb12 hE1 hs1 => ?_)
  have fr12 := Nat.le_trans hX.size hn12
  have hX := hX.thenNo hE1
  have hb12 : Blk w1 b12 5 (bytesU (List.replicate F 0)) := by (have e : rep F (cellsOf ti5.zero) = bytesU (List.replicate F 0) := rep_bytes _); rw [← e]; exact hb12
  refine wl_p I_ok rfl (wl_nil (f_then (c_seq (c_region (wl_p I_ok rfl (wl (st_cp I_ok rfl 1 rfl hb12 (Src.slice (h.extNo hX) OneC.h) (by dsimp only; omega) (by rw [bytesU_len, List.length_replicate]; dsimp only; omega) fun w2 hc2 hE2 hs2 => ?_)))))))
  have hb12 : Blk w2 b12 5 (bytesU (l ++ (List.replicate (k + 1) 0 ++ []))) := by
    have e : Vc.put (bytesU (List.replicate F 0)) 0 (bytesU l) = bytesU (l ++ (List.replicate (k + 1) 0 ++ [])) := by
      rw [put_eq _ _ _ (by simp [bytesU_len]; omega)]
      rw [bytesU_drop]
      subst hk
      simp [bytesU_append, bytesU_len]
    rw [← e]; exact hc2
  have hX := hX.thenNew hE2 fr12
  refine wl_nil (f_then (c_seq (c_region (wl_p I_ok rfl (wl (st_ix I_ok rfl 1 rfl l.length rfl (by omega) (0 + l.length * 1) rfl (wl (st_set I_ok hb12 rfl rfl (by rw [bytesU_len]; simp) fun w3 hb12 hE3 hs3 => ?_))))))))
  have hX := hX.thenNew hE3 fr12
  have hpad : l ++ (128 :: (List.replicate k 0 ++ [])) ++ be 8 (8 * l.length) = padW l := by
    have hk2 : k = (l.length + 72) / 64 * 64 - 8 - (l.length + 1) := by omega
    rw [padW, hk2]
    simp
  have hb12 : Blk w3 b12 5 (bytesU (l ++ (128 :: (List.replicate k 0 ++ [])))) := by
    rw [Nat.zero_add, Nat.mul_one, show (Value.int .u8 128) = byteV 128 from rfl, bytesU, ← List.map_set, List.set_append_right _ _ (Nat.le_refl _), Nat.sub_self, List.replicate_succ] at hb12
    exact hb12
  have hlen2 : (l ++ (128 :: (List.replicate k 0 ++ []))).length = F := by simp; omega
  refine wl_nil (f_then (c_seq (c_region (wl_p I_ok rfl ?_))))
  rw [show IntKind.u64.wrap (IntKind.u64.wrap (l.length : Int) * 2 ^ min (3 : Int).toNat IntKind.u64.bits) = ((8 * l.length : Nat) : Int) from by rw [show (2 : Int) ^ min (3 : Int).toNat IntKind.u64.bits = 8 from rfl, IntWalk.u64_in (l.length : Int) (by omega), IntWalk.u64_in _ (by omega)]; omega]
  rw [show Value.slice (some ⟨b12, 0, none⟩) F F = .slice (some ⟨b12, 0, none⟩) (l ++ (128 :: (List.replicate k 0 ++ []))).length F from by rw [hlen2]]
  have hX0 := hX
  refine wl (st_call Tryz.call113 rfl rfl rfl rfl rfl rfl (put64_calls w3 (l := l ++ (128 :: (List.replicate k 0 ++ []))) ⟨by simp [bytesU_len], .inr ⟨b12, 0, rfl, hb12.seg⟩⟩ (by omega) (8 * l.length) (by omega)) fun v4 w4 hr4 => ?_)
  obtain ⟨b, rfl, hnb, hb, hE4⟩ := hr4
  have hb12 := hb12.extNo hE4
  have hX := hX.thenNo hE4
  rw [hpad] at hb ⊢
  refine wl_p I_ok rfl (wl_nil (f_then (c_ret (f_ret1 rfl rfl ?_))))
  exact ⟨b, rfl, Nat.le_trans hX0.size hnb, hb, hX⟩

theorem sum_calls (w : World) {p : Option Addr} {c : Nat} {l : List UInt8} (h : SlB w p l) (hl : l.length < 100000000) (hg : Seg w 0 0 (wordsV rootsW)) :
    CallsV Tryz.prog 100 [.slice p l.length c] w fun v w' => v = .agg (bytesU (sumW l)).toArray ∧ Ext No w w' := by
  have hglt : 0 < w.heap.size := hg.lt (by decide)
  refine calls_enter Tryz.func100 rfl rfl rfl rfl ?_
  have hX := Ext.refl No w
  refine c_seq (c_region (wl (st_al I_ok rfl fun b2 w1 hn2 hb2 hE1 => ?_)))
  have fr2 := Nat.le_trans hX.size hn2
  have hg := hg.extNo hE1
  have hX := hX.thenNo hE1
  refine wl_nil (f_then (c_seq (c_region (wl (st_call Tryz.call105 rfl rfl rfl rfl rfl rfl (start_calls w1) fun v2 w2 hr2 => ?_)))))
  obtain ⟨rfl, hE2⟩ := hr2
  have hb2 := hb2.extNo hE2
  have hg := hg.extNo hE2
  have hX := hX.thenNo hE2
  refine wl (st_bd I_ok rfl (by simp [partsOk]; decide) (l' := wordsV startW) rfl (wl (st_bd I_ok rfl (by simp [partsOk]; decide) (l' := wordsV startW) rfl (wl (st_al I_ok rfl fun b3 w3 hn3 hb3 hE3 => ?_)))))
  have ne2_3 : b2 ≠ b3 := Nat.ne_of_lt (Nat.lt_of_lt_of_le hb2.lt hn3)
  have fr3 := Nat.le_trans hX.size hn3
  have hb2 := hb2.extNo hE3
  have hg := hg.extNo hE3
  have hX := hX.thenNo hE3
  have h0b3 : ¬ One b3 0 := fun e => by have e : 0 = b3 := e; have := hE1.size; omega
  have hne32 : ¬ One b3 b2 := fun e => by have e : b2 = b3 := e; omega
  refine wl (st_stW (l' := wordsV startW) I_ok hb3 rfl rfl rfl rfl OneC.h fun w4 hb3 hE4 hs4 => ?_)
  have hb2 := hb2.ext1 hE4 ne2_3
  have hg := hg.ext hE4 h0b3
  have hX := hX.thenNew hE4 fr3
  have hE4 := hX
  refine wl_nil (f_then (c_seq (c_region (wl (st_mf rfl (wl_p I_ok rfl (wl_nil (f_then (c_seq (c_seq (c_region (wl_p I_ok rfl ?_))))))))))))
  have hX0 := hX
  refine wl (st_call Tryz.call107 rfl rfl rfl rfl rfl rfl (pad_calls w4 (h.extNo hX) hl) fun v5 w5 hr5 => ?_)
  obtain ⟨bp, rfl, hnp, hbp, hE5⟩ := hr5
  have hb2 := hb2.extNo hE5
  have hg := hg.extNo hE5
  have hX := hX.thenNo hE5
  have hb3 := hb3.extNo hE5
  have hnp := Nat.le_trans hX0.size hnp
  have hPl : (padW l).length % 64 = 0 := by rw [padW_len]; omega
  have hPm : (padW l).length < 200000000 := by rw [padW_len]; omega
  have hsum : sumW l = (blocksW rootsW startW (padW l) ((padW l).length / 64)).flatMap fun x => be 4 x.toNat := rfl
  rw [hsum]
  generalize padW l = P at hbp hPl hPm ⊢
  refine wl_p I_ok rfl (wl_nil (f_then (c_block ?_)))
  refine c_loopK (α := Nat × Option Addr × Nat) [2, 3, 4] rfl (fun z => [(5, .slice z.2.1 (P.drop (64 * z.1)).length z.2.2)]) (fun z u => (64 * z.1 ≤ P.length ∧ SlB u z.2.1 (P.drop (64 * z.1)) ∧ TyU u z.2.1 ∧ (P.drop (64 * z.1)).length ≤ z.2.2 ∧ Blk u b3 155 (wordsV (blocksW rootsW startW P z.1)) ∧ Seg u 0 0 (wordsV rootsW)) ∧ Blk u b2 142 (cellsOf ti142.zero) ∧ Ext No w u) (fun z u => (P.drop (64 * z.1)).length) (0, some ⟨bp, 0, none⟩, P.length) rfl ⟨⟨Nat.zero_le _, ⟨by simp [bytesU_len], .inr ⟨bp, 0, rfl, hbp.seg⟩⟩, TyU.of hbp _ _, Nat.le_refl _, hb3, hg⟩, hb2, hX⟩ ?_
  rintro ⟨k, q, cq⟩ w6 ⟨⟨hk, hq, hty, hcq, hb3, hg⟩, hb2, hX⟩
  try dsimp only
  dsimp only at hk hq hty hcq hb3
  refine c_seq (c_seq (c_region (wl_p I_ok rfl (wl_nil (f_then (c_if rfl (fun hc => ?_) (fun hc => ?_)))))))
  · have hdl : (P.drop (64 * k)).length = P.length - 64 * k := List.length_drop
    have h64 : 64 ≤ (P.drop (64 * k)).length := by omega
    obtain ⟨bq, off, rfl, hseg⟩ : ∃ bq off, q = some ⟨bq, off, none⟩ ∧ Seg w6 bq off (bytesU (P.drop (64 * k))) := by
      rcases hq.2 with h0 | h1
      · omega
      · exact h1
    have hseg := hseg.take 64
    rw [bytesU_take] at hseg
    have htl : ((P.drop (64 * k)).take 64).length = 64 := by rw [List.length_take]; omega
    refine c_skip (f_then (c_seq (c_block (c_region (wl_p I_ok rfl (wl (st_sl I_ok rfl 0 64 64 1 rfl (.inl ⟨rfl, rfl⟩) (.inl rfl) (.inr ⟨rfl, rfl⟩) (Nat.zero_le _) (Nat.le_refl _) (by dsimp only; omega) ?_)))))))
    dsimp only
    rw [slBase_zero]
    refine wl (st_sp I_ok rfl (show 64 ≤ 64 - 0 from Nat.le_refl _) (wl (st_ldN I_ok rfl hseg (by rw [bytesU_len, htl]) (wl (st_call Tryz.call106 rfl rfl rfl rfl rfl rfl (into_calls w6 hb3 (by rw [blocksW_len]; rfl) htl hg) fun v7 w7 hr7 => ?_)))))
    obtain ⟨hb3n, hE7⟩ := hr7
    have hb2 := hb2.ext hE7 hne32
    have hX := hX.thenNew hE7 fr3
    have hg := hg.ext hE7 h0b3
    have hq : SlB _ _ _ := SlB.extTy hq hty hE7 (fun b L hb e => hb.ne hb3 (by decide) e)
    have hty := hty.ext hE7 (fun b L hb e => hb.ne hb3 (by decide) e)
    have hb3 := hb3n
    refine wl_nil (f_blockN (f_then (c_region (wl_p I_ok rfl (wl (st_sl I_ok rfl 64 (P.drop (64 * k)).length cq 1 rfl (.inr ⟨rfl, rfl⟩) (.inr ⟨rfl, rfl⟩) (.inl rfl) h64 hcq (Nat.le_refl _) ?_))))))
    dsimp only
    have e2 : (P.drop (64 * k)).length - 64 = (P.drop (64 * (k + 1))).length := by simp only [List.length_drop]; omega
    have hq2 := Sl.slice hq 64 (P.drop (64 * k)).length cq h64 hcq (Nat.le_refl _)
    rw [Nat.mul_one, Nat.mul_one, bytesU_drop, bytesU_take, List.drop_drop, e2] at hq2
    rw [show 64 * k + 64 = 64 * (k + 1) from rfl, List.take_of_length_le (Nat.le_refl _)] at hq2
    rw [e2]
    refine wl_p I_ok rfl (wl_nil ?_)
    exact f_round (k + 1, slBase (some ⟨bq, off, none⟩) 64 cq 1, cq - 64) rfl ⟨⟨by dsimp only; omega, hq2, hty.sub _ _ _, by dsimp only; omega, hb3, hg⟩, hb2, hX⟩ (by dsimp only; simp only [List.length_drop]; omega)
  · have hdl : (P.drop (64 * k)).length = P.length - 64 * k := List.length_drop
    have h0 : k = P.length / 64 := by omega
    subst h0
    have hHl : (blocksW rootsW startW P (P.length / 64)).length = 8 := by rw [blocksW_len]; rfl
    generalize blocksW rootsW startW P (P.length / 64) = H at hb3 hHl ⊢
    refine c_exit (f_thenE (f_thenE (f_blockE (f_then (c_seq (c_region (wl_p I_ok rfl (wl_nil (f_then (c_seq (c_seq (c_region (wl_p I_ok rfl (wl (st_ldN I_ok rfl hb3.seg (by rw [wordsV_len, hHl]) (wl_p I_ok rfl (wl_nil (f_then ?_))))))))))))))))))
    refine c_block ?_
    refine c_loopK (α := Nat × Option Addr × Nat × List UInt8) [2, 28] rfl (fun z => [(6, .slice z.2.1 z.2.2.2.length z.2.2.1), (29, .int .i64 (z.1 : Int))]) (fun z u => (z.1 ≤ 8 ∧ SlB u z.2.1 z.2.2.2 ∧ z.2.2.2 = (H.take z.1).flatMap (fun x => be 4 x.toNat)) ∧ Blk u b2 142 (cellsOf ti142.zero) ∧ Ext No w u) (fun z u => 8 - z.1) (0, none, 0, []) rfl ⟨⟨by decide, Sl.nil _ _ _, by simp⟩, hb2, hX⟩ ?_
    rintro ⟨i, q, cq, O⟩ w8 ⟨⟨hi8, hO, hOe⟩, hb2, hX⟩
    try dsimp only
    dsimp only at hi8 hO hOe
    refine c_seq (c_region (wl_p I_ok rfl (wl_nil (f_then (c_seq (c_if rfl (fun hc => ?_) (fun hc => ?_)))))))
    · have hi8 : i < 8 := by omega
      have hHw := wordsV_get H (i := i) (by omega)
      have hOl : O.length = 4 * i := by rw [hOe, flat4_len, List.length_take]; omega
      refine c_skip (f_then (c_seq (c_block (c_seq (c_region (wl (st_id I_ok rfl i rfl hi8 (.inl ⟨rfl, by simpa using hHw⟩) (wl_p I_ok rfl (wl_nil (f_then (c_region (wl_p I_ok rfl ?_))))))))))))
      refine wl (st_call Tryz.call87 rfl rfl rfl rfl rfl rfl (put32_calls w8 hO (by omega) _ (BitVec.isLt _)) fun v9 w9 hr9 => ?_)
      obtain ⟨bo, rfl, hno, hbo, hE9⟩ := hr9
      have hb2 := hb2.extNo hE9
      have hX := hX.thenNo hE9
      refine wl_p I_ok rfl (wl_nil (f_blockN (f_then (c_region (wl_p I_ok rfl ?_)))))
      rw [IntWalk.i64_in _ (by omega)]
      refine wl_nil ?_
      exact f_round (i + 1, some ⟨bo, 0, none⟩, (O ++ be 4 (H[i]).toNat).length, O ++ be 4 (H[i]).toNat) rfl ⟨⟨by dsimp only; omega, ⟨by simp [bytesU_len], .inr ⟨bo, 0, rfl, hbo.seg⟩⟩, by dsimp only; rw [List.take_succ_eq_append_getElem (by omega), List.flatMap_append, hOe]; simp⟩, hb2, hX⟩ (by first | omega | (dsimp only; omega))
    · have h0 : i = 8 := by omega
      subst h0
      have hOl : O.length = 32 := by rw [hOe, flat4_len, List.length_take]; omega
      have hOe : O = H.flatMap (fun x => be 4 x.toNat) := by rw [hOe, List.take_of_length_le (by omega)]
      obtain ⟨bq, off, rfl, hseg⟩ : ∃ bq off, q = some ⟨bq, off, none⟩ ∧ Seg w8 bq off (bytesU O) := by
        rcases hO.2 with h0 | h1
        · omega
        · exact h1
      refine c_exit (f_thenE (f_thenE (f_blockE (f_then (c_seq (c_region (wl_p I_ok rfl (wl (st_sp I_ok rfl (Nat.le_of_eq hOl.symm) (wl (st_ldN I_ok rfl hseg (by rw [bytesU_len, hOl]) ?_)))))))))))
      refine wl (st_stW (l' := bytesU O) I_ok hb2 rfl rfl (by rw [bytesU_len, hOl]) (by rw [bytesU_len, hOl]; rfl) OneC.h fun w10 hb2 hE10 hs10 => ?_)
      have hX := hX.thenNew hE10 fr2
      refine wl_nil (f_then (c_ret (f_ret [_] ⟨⟨b2, 0, rfl, ld_all I_ok rfl rfl hb2.seg (by rw [bytesU_len, hOl]; rfl)⟩, trivial⟩ ?_)))
      exact ⟨by rw [hOe]; rfl, hX⟩
end Go.Proofs.YtlfdlodcjiaiiaaGreatDoor
namespace Go.Proofs.YtlfdlodcjiaiiaaGreatDoor
open Go.Vc
theorem turned2_calls (w : World) (x : W32) :
    CallsV Tryz.prog 115 [wordV x, .int .u64 2] w fun v w' => v = wordV (rot x 2) ∧ w' = w := by
  refine calls_enter Tryz.func115 rfl rfl rfl rfl ?_
  have hX := Ext.refl No w
  refine c_seq (c_region (wl_p I_ok rfl (wl_nil (f_then (c_seq (c_region (wl_p I_ok rfl (wl_nil (f_then (c_seq (c_region (wl_p I_ok rfl (wl_nil (f_then (c_ret (f_ret1 rfl rfl ?_))))))))))))))))
  exact ⟨congrArg (Value.int .u32) (turn_eq x 2 (by decide)), rfl⟩

theorem turned6_calls (w : World) (x : W32) :
    CallsV Tryz.prog 115 [wordV x, .int .u64 6] w fun v w' => v = wordV (rot x 6) ∧ w' = w := by
  refine calls_enter Tryz.func115 rfl rfl rfl rfl ?_
  have hX := Ext.refl No w
  refine c_seq (c_region (wl_p I_ok rfl (wl_nil (f_then (c_seq (c_region (wl_p I_ok rfl (wl_nil (f_then (c_seq (c_region (wl_p I_ok rfl (wl_nil (f_then (c_ret (f_ret1 rfl rfl ?_))))))))))))))))
  exact ⟨congrArg (Value.int .u32) (turn_eq x 6 (by decide)), rfl⟩

theorem turned7_calls (w : World) (x : W32) :
    CallsV Tryz.prog 115 [wordV x, .int .u64 7] w fun v w' => v = wordV (rot x 7) ∧ w' = w := by
  refine calls_enter Tryz.func115 rfl rfl rfl rfl ?_
  have hX := Ext.refl No w
  refine c_seq (c_region (wl_p I_ok rfl (wl_nil (f_then (c_seq (c_region (wl_p I_ok rfl (wl_nil (f_then (c_seq (c_region (wl_p I_ok rfl (wl_nil (f_then (c_ret (f_ret1 rfl rfl ?_))))))))))))))))
  exact ⟨congrArg (Value.int .u32) (turn_eq x 7 (by decide)), rfl⟩

theorem turned11_calls (w : World) (x : W32) :
    CallsV Tryz.prog 115 [wordV x, .int .u64 11] w fun v w' => v = wordV (rot x 11) ∧ w' = w := by
  refine calls_enter Tryz.func115 rfl rfl rfl rfl ?_
  have hX := Ext.refl No w
  refine c_seq (c_region (wl_p I_ok rfl (wl_nil (f_then (c_seq (c_region (wl_p I_ok rfl (wl_nil (f_then (c_seq (c_region (wl_p I_ok rfl (wl_nil (f_then (c_ret (f_ret1 rfl rfl ?_))))))))))))))))
  exact ⟨congrArg (Value.int .u32) (turn_eq x 11 (by decide)), rfl⟩

theorem turned13_calls (w : World) (x : W32) :
    CallsV Tryz.prog 115 [wordV x, .int .u64 13] w fun v w' => v = wordV (rot x 13) ∧ w' = w := by
  refine calls_enter Tryz.func115 rfl rfl rfl rfl ?_
  have hX := Ext.refl No w
  refine c_seq (c_region (wl_p I_ok rfl (wl_nil (f_then (c_seq (c_region (wl_p I_ok rfl (wl_nil (f_then (c_seq (c_region (wl_p I_ok rfl (wl_nil (f_then (c_ret (f_ret1 rfl rfl ?_))))))))))))))))
  exact ⟨congrArg (Value.int .u32) (turn_eq x 13 (by decide)), rfl⟩

theorem turned17_calls (w : World) (x : W32) :
    CallsV Tryz.prog 115 [wordV x, .int .u64 17] w fun v w' => v = wordV (rot x 17) ∧ w' = w := by
  refine calls_enter Tryz.func115 rfl rfl rfl rfl ?_
  have hX := Ext.refl No w
  refine c_seq (c_region (wl_p I_ok rfl (wl_nil (f_then (c_seq (c_region (wl_p I_ok rfl (wl_nil (f_then (c_seq (c_region (wl_p I_ok rfl (wl_nil (f_then (c_ret (f_ret1 rfl rfl ?_))))))))))))))))
  exact ⟨congrArg (Value.int .u32) (turn_eq x 17 (by decide)), rfl⟩

theorem turned18_calls (w : World) (x : W32) :
    CallsV Tryz.prog 115 [wordV x, .int .u64 18] w fun v w' => v = wordV (rot x 18) ∧ w' = w := by
  refine calls_enter Tryz.func115 rfl rfl rfl rfl ?_
  have hX := Ext.refl No w
  refine c_seq (c_region (wl_p I_ok rfl (wl_nil (f_then (c_seq (c_region (wl_p I_ok rfl (wl_nil (f_then (c_seq (c_region (wl_p I_ok rfl (wl_nil (f_then (c_ret (f_ret1 rfl rfl ?_))))))))))))))))
  exact ⟨congrArg (Value.int .u32) (turn_eq x 18 (by decide)), rfl⟩

theorem turned19_calls (w : World) (x : W32) :
    CallsV Tryz.prog 115 [wordV x, .int .u64 19] w fun v w' => v = wordV (rot x 19) ∧ w' = w := by
  refine calls_enter Tryz.func115 rfl rfl rfl rfl ?_
  have hX := Ext.refl No w
  refine c_seq (c_region (wl_p I_ok rfl (wl_nil (f_then (c_seq (c_region (wl_p I_ok rfl (wl_nil (f_then (c_seq (c_region (wl_p I_ok rfl (wl_nil (f_then (c_ret (f_ret1 rfl rfl ?_))))))))))))))))
  exact ⟨congrArg (Value.int .u32) (turn_eq x 19 (by decide)), rfl⟩

theorem turned22_calls (w : World) (x : W32) :
    CallsV Tryz.prog 115 [wordV x, .int .u64 22] w fun v w' => v = wordV (rot x 22) ∧ w' = w := by
  refine calls_enter Tryz.func115 rfl rfl rfl rfl ?_
  have hX := Ext.refl No w
  refine c_seq (c_region (wl_p I_ok rfl (wl_nil (f_then (c_seq (c_region (wl_p I_ok rfl (wl_nil (f_then (c_seq (c_region (wl_p I_ok rfl (wl_nil (f_then (c_ret (f_ret1 rfl rfl ?_))))))))))))))))
  exact ⟨congrArg (Value.int .u32) (turn_eq x 22 (by decide)), rfl⟩

theorem turned25_calls (w : World) (x : W32) :
    CallsV Tryz.prog 115 [wordV x, .int .u64 25] w fun v w' => v = wordV (rot x 25) ∧ w' = w := by
  refine calls_enter Tryz.func115 rfl rfl rfl rfl ?_
  have hX := Ext.refl No w
  refine c_seq (c_region (wl_p I_ok rfl (wl_nil (f_then (c_seq (c_region (wl_p I_ok rfl (wl_nil (f_then (c_seq (c_region (wl_p I_ok rfl (wl_nil (f_then (c_ret (f_ret1 rfl rfl ?_))))))))))))))))
  exact ⟨congrArg (Value.int .u32) (turn_eq x 25 (by decide)), rfl⟩

theorem known_calls (w : World) :
    CallsV Tryz.prog 109 [] w fun v w' => ∃ b, v = .slice (some ⟨b, 0, none⟩) 64 64 ∧ w.heap.size ≤ b ∧ Blk w' b 95 (wordsV rootsW) ∧ Ext No w w' := by
  refine calls_enter Tryz.func109 rfl rfl rfl rfl ?_
  have hX := Ext.refl No w
  refine c_seq (c_region (wl_p I_ok rfl (wl_nil (f_then (c_seq (c_region (wl (st_bs I_ok rfl 1 rfl rfl rfl (by decide) (by decide) (by simp [partsOk]) rfl fun b1 w1 hn1 hb1 hE1 hs1 => ?_))))))))
  have fr1 := Nat.le_trans hX.size hn1
  have hX := hX.thenNo hE1
  refine wl_p I_ok rfl (wl_nil (f_then (c_ret (f_ret1 rfl rfl ?_))))
  exact ⟨b1, rfl, fr1, hb1, hX⟩
theorem mix2 (x : W32) (a b : Nat) : mixW x [a, b] = rot x a ^^^ rot x b := by simp [mixW]
theorem div1024 (x : W32) : IntKind.u32.wrap ((x.toNat : Int).tdiv 1024) = ((x >>> 10).toNat : Int) := div_eq x 10
theorem div8 (x : W32) : IntKind.u32.wrap ((x.toNat : Int).tdiv 8) = ((x >>> 3).toNat : Int) := div_eq x 3
theorem mix3 (x : W32) (a b c : Nat) : mixW x [a, b, c] = rot x a ^^^ rot x b ^^^ rot x c := by simp [mixW]
theorem out_calls (w : World) {p : Option Addr} {c : Nat} {b : List UInt8} (h : SlB w p b) (hb : b.length = 64) (hc : 64 ≤ c) :
    CallsV Tryz.prog 114 [.slice p b.length c] w fun v w' => ∃ q k, v = .slice q 64 k ∧ Own w' q 64 k 95 1 (wordsV (sched b 64)) ∧ (∀ x, OwnB q x → w.heap.size ≤ x) ∧ Ext No w w' := by
  refine calls_enter Tryz.func114 rfl rfl rfl rfl ?_
  have hX := Ext.refl No w
  refine c_seq (c_region (wl_p I_ok rfl (wl_nil (f_then (c_seq (c_region (wl_p I_ok rfl (wl_nil (f_then (c_seq (c_seq (c_region (wl_p I_ok rfl (wl_nil (f_then (c_block ?_))))))))))))))))
  refine c_loopK (α := Nat × Option Addr × Nat) [0] rfl (fun z => [(3, .slice z.2.1 z.1 z.2.2), (4, .int .i64 (z.1 : Int))]) (fun z u => (z.1 ≤ 64 ∧ Own u z.2.1 z.1 z.2.2 95 1 (wordsV (sched b z.1)) ∧ (∀ x, OwnB z.2.1 x → w.heap.size ≤ x)) ∧ Ext No w u) (fun z u => 64 - z.1) (0, none, 0) rfl ⟨⟨by decide, Own.nil _ _ _, fun x hx => by cases hx⟩, hX⟩ ?_
  rintro ⟨t, q, k⟩ w1 ⟨⟨ht, hq, hqn⟩, hX⟩
  try dsimp only
  dsimp only at ht hq hqn
  refine c_seq (c_seq (c_region (wl_p I_ok rfl (wl_nil (f_then (c_if rfl (fun hc => ?_) (fun hc => ?_)))))))
  · have ht : t < 64 := by omega
    refine c_skip (f_then (c_cutK (α := Option Addr × Nat) [0, 4] rfl (fun z => [(3, .slice z.1 (t + 1) z.2)]) (fun z u => (Own u z.1 (t + 1) z.2 95 1 (wordsV (sched b (t + 1))) ∧ (∀ x, OwnB z.1 x → w.heap.size ≤ x)) ∧ Ext No w u) ?_ ?_))
    · refine c_block ?_
      refine c_seq (c_seq (c_region (wl_p I_ok rfl (wl_nil (f_then (c_if rfl (fun hc => ?_) (fun hc => ?_)))))))
      · have ht16 : t < 16 := by omega
        have w_nx := nextW_raw (b := b) (l := sched b t) (by rw [sched_len]; exact ht16)
        rw [sched_len] at w_nx
        have h4l : ((b.drop (4 * t)).take 4).length = 4 := by rw [List.length_take, List.length_drop]; omega
        have hs4 : SlB w1 (slBase p (4 * t) c 1) ((b.drop (4 * t)).take 4) := by
          have e := Sl.slice (h.extNo hX) (4 * t) (4 * t + 4) c (by omega) (by omega) (by omega)
          rw [Nat.mul_one, Nat.mul_one, bytesU_drop, bytesU_take, show 4 * t + 4 - 4 * t = 4 from by omega] at e
          rw [SlB, h4l]
          exact e
        refine c_seq (c_region (wl_p I_ok rfl ?_))
        rw [IntWalk.i64_in (4 * (t : Int)) (by omega), IntWalk.i64_in _ (by omega)]
        refine wl (st_sl I_ok rfl (4 * t) (4 * t + 4) c 1 rfl (.inr ⟨rfl, rfl⟩) (.inl (congrArg some (by omega))) (.inl (congrArg some (by omega))) (by omega) (by omega) (Nat.le_refl _) ?_)
        dsimp only
        rw [show 4 * t + 4 - 4 * t = ((b.drop (4 * t)).take 4).length from by rw [h4l]; omega]
        refine wl (st_call Tryz.call97 rfl rfl rfl rfl rfl rfl (number_calls w1 hs4 (by rw [h4l]; decide)) fun v2 w2 hr2 => ?_)
        obtain ⟨rfl, rfl⟩ := hr2
        refine wl_p I_ok rfl ?_
        rw [w_wrap, ← w_nx]
        refine wl (st_bs I_ok rfl 1 rfl rfl rfl (by decide) (by decide) (by simp [partsOk]) rfl fun b23 w3 hn23 hb23 hE3 hs3 => ?_)
        have fr23 := Nat.le_trans hX.size hn23
        have hq := hq.ext hE3 fun _ _ => id
        have hX := hX.thenNo hE3
        have hb23 : Blk w3 b23 95 (wordsV [nextW b (sched b t)]) := hb23
        have hX1 := hX
        refine wl (st_app I_ok rfl 1 4 rfl rfl rfl (by decide) hq (Src.slice (m := 1) ⟨rfl, .inr ⟨b23, 0, rfl, hb23.seg⟩⟩ OneC.h) (by dsimp only [maxLen]; omega) (by dsimp only; omega) fun p4 c4 w4 ho4 hE4 hB4 => ?_)
        have hX := hX1.trans hE4 fun y hy hF => by have := hqn y hF; omega
        have hqn2 : ∀ x, OwnB p4 x → w.heap.size ≤ x := fun x hx => (hB4 x hx).elim (fun h => hqn x h) fun h => Nat.le_trans hX1.size h
        have hq2 : Own w4 p4 (t + 1) c4 95 1 (wordsV (sched b (t + 1))) := by
          rw [sched, wordsV_append]
          exact ho4
        refine wl_p I_ok rfl (wl_nil (f_then (c_exit ?_)))
        exact f_thenE (f_blockE (f_cut (p4, c4) rfl ⟨⟨hq2, hqn2⟩, hX⟩))
      · have ht16 : ¬ t < 16 := by omega
        have w_nx := nextW_mix (b := b) (l := sched b t) (by rw [sched_len]; exact ht16)
        rw [sched_len] at w_nx
        obtain ⟨bq, rfl, hseg⟩ : ∃ bq, q = some ⟨bq, 0, none⟩ ∧ Seg w1 bq 0 (wordsV (sched b t)) := by
          rcases hq with ⟨_, h0, _⟩ | ⟨bq, l, h1, h2, _, _, _, h3⟩
          · omega
          · refine ⟨bq, h1, ?_⟩
            rw [← h3]
            exact h2.seg.take _
        have hnx : (mixW ((sched b t).getD (t - 2) 0) [17, 19] ^^^ (sched b t).getD (t - 2) 0 >>> 10) + (sched b t).getD (t - 7) 0 + (mixW ((sched b t).getD (t - 15) 0) [7, 18] ^^^ (sched b t).getD (t - 15) 0 >>> 3) + (sched b t).getD (t - 16) 0 = nextW b (sched b t) := by
          rw [w_nx]
          ac_rfl
        refine c_skip (f_then (c_seq (c_draw rfl 12 [(0, true), (1, true), (2, true), (3, true), (4, true), (5, true), (6, true), (7, true), (8, true), (9, true), (10, true), (11, true)] [] (No) (by kernel_rfl) fun w5 hE5 hs5 => ?_)))
        have hqd := hq
        have hsegd := hseg
        have hXd := hX
        have hq := hq.ext hE5 fun _ _ => id
        have hseg := hseg.extNo hE5
        have hX := hX.thenNo hE5
        have hC : Ext (No) _ w5 := hE5.no
        refine wd_k I_ok 3 rfl ?_
        rw [IntWalk.i64_in _ (by omega)]
        refine wd_ix I_ok rfl rfl 1 rfl (t - 2) (by omega) (by omega) (0 + (t - 2)) (by omega) (wd_ld I_ok rfl rfl (fun w' hw' => (hsegd.extNo hw') (t - 2) _ (words_getD _ (by rw [sched_len]; omega))) ?_)
        refine wd_k I_ok 3 rfl ?_
        rw [IntWalk.i64_in _ (by omega)]
        refine wd_ix I_ok rfl rfl 1 rfl (t - 15) (by omega) (by omega) (0 + (t - 15)) (by omega) (wd_ld I_ok rfl rfl (fun w' hw' => (hsegd.extNo hw') (t - 15) _ (words_getD _ (by rw [sched_len]; omega))) ?_)
        refine wd_k I_ok 2 rfl (wd_sw (wb_nil (f_then (c_seq (c_region (wl_p I_ok rfl (wl (st_call Tryz.call115 rfl rfl rfl rfl rfl rfl (turned17_calls w5 _) fun v6 w6 hr6 => ?_))))))))
        obtain ⟨rfl, rfl⟩ := hr6
        refine wl_p I_ok rfl (wl (st_call Tryz.call115 rfl rfl rfl rfl rfl rfl (turned19_calls w6 _) fun v7 w7 hr7 => ?_))
        obtain ⟨rfl, rfl⟩ := hr7
        refine wl_p I_ok rfl ?_
        rw [w_xor, div1024, w_xor, ← mix2]
        refine wl_nil (f_then (c_seq (c_region (wl_p I_ok rfl (wl (st_call Tryz.call115 rfl rfl rfl rfl rfl rfl (turned7_calls w7 _) fun v8 w8 hr8 => ?_))))))
        obtain ⟨rfl, rfl⟩ := hr8
        refine wl_p I_ok rfl (wl (st_call Tryz.call115 rfl rfl rfl rfl rfl rfl (turned18_calls w8 _) fun v9 w9 hr9 => ?_))
        obtain ⟨rfl, rfl⟩ := hr9
        refine wl_p I_ok rfl ?_
        rw [w_xor, div8, w_xor, ← mix2]
        refine wl_nil (f_then ?_)
        refine c_draw rfl 17 [(0, true), (1, true), (2, true), (3, true), (4, true), (5, true), (6, true), (7, true), (8, true), (9, true), (10, true), (11, true), (12, true), (13, true), (14, true), (15, true), (16, false)] [17, 18] (No) (by kernel_rfl) fun w10 hE10 hs10 => ?_
        have hqd := hq
        have hsegd := hseg
        have hXd := hX
        have hq := hq.ext hE10 fun _ _ => id
        have hseg := hseg.extNo hE10
        have hX := hX.thenNo hE10
        have hC : Ext (No) _ w10 := hE10.no
        refine wd_k I_ok 5 rfl ?_
        rw [IntWalk.i64_in _ (by omega)]
        refine wd_ix I_ok rfl rfl 1 rfl (t - 7) (by omega) (by omega) (0 + (t - 7)) (by omega) (wd_ld I_ok rfl rfl (fun w' hw' => (hsegd.extNo hw') (t - 7) _ (words_getD _ (by rw [sched_len]; omega))) ?_)
        refine wd_k I_ok 6 rfl ?_
        rw [IntWalk.i64_in _ (by omega)]
        refine wd_ix I_ok rfl rfl 1 rfl (t - 16) (by omega) (by omega) (0 + (t - 16)) (by omega) (wd_ld I_ok rfl rfl (fun w' hw' => (hsegd.extNo hw') (t - 16) _ (words_getD _ (by rw [sched_len]; omega))) ?_)
        refine wd_k I_ok 1 rfl ?_
        rw [w_add, w_add, w_add, hnx]
        refine wd_l rfl (st_bs I_ok rfl 1 rfl rfl rfl (by decide) (by decide) (by simp [partsOk]) rfl fun b67 w11 hn67 hb67 hE11 hs11 => ⟨hC.thenNo hE11, ?_⟩)
        have fr67 := Nat.le_trans hX.size hn67
        have hq := hq.ext hE11 fun _ _ => id
        have hseg := hseg.extNo hE11
        have hX := hX.thenNo hE11
        have hC := hC.thenNo hE11
        have hb67 : Blk w11 b67 95 (wordsV [nextW b (sched b t)]) := hb67
        refine wd_sw ?_
        have hX1 := hX
        refine wb rfl (st_app I_ok rfl 1 4 rfl rfl rfl (by decide) hq (Src.slice (m := 1) ⟨rfl, .inr ⟨b67, 0, rfl, hb67.seg⟩⟩ OneC.h) (by dsimp only [maxLen]; omega) (by dsimp only; omega) fun p12 c12 w12 ho12 hE12 hB12 => ?_)
        have hX := hX1.trans hE12 fun y hy hF => by have := hqn y hF; omega
        have hqn2 : ∀ x, OwnB p12 x → w.heap.size ≤ x := fun x hx => (hB12 x hx).elim (fun h => hqn x h) fun h => Nat.le_trans hX1.size h
        have hq2 : Own w12 p12 (t + 1) c12 95 1 (wordsV (sched b (t + 1))) := by
          rw [sched, wordsV_append]
          exact ho12
        refine wb rfl (st_p I_ok rfl rfl rfl (wb_nil ?_))
        exact f_blockN (f_cut (p12, c12) rfl ⟨⟨hq2, hqn2⟩, hX⟩)
    rintro ⟨q, k⟩ w13 ⟨⟨hq, hqn⟩, hX⟩
    dsimp only at hq hqn
    refine c_region (wl_p I_ok rfl ?_)
    rw [IntWalk.i64_in _ (by omega)]
    refine wl_nil ?_
    exact f_round (t + 1, q, k) rfl ⟨⟨by dsimp only; omega, hq, hqn⟩, hX⟩ (by first | omega | (dsimp only; omega))
  · have h0 : t = 64 := by omega
    subst h0
    refine c_exit (f_thenE (f_thenE (f_blockE (f_then (c_seq (c_region (wl_p I_ok rfl (wl_nil (f_then (c_ret (f_ret1 rfl rfl ?_)))))))))))
    exact ⟨q, k, rfl, hq, hqn, hX⟩
end Go.Proofs.YtlfdlodcjiaiiaaGreatDoor
namespace Go.Proofs.YtlfdlodcjiaiiaaGreatDoor
open Go.Vc

theorem ch_eq (e f g : W32) : (e &&& f ||| ~~~e &&& g) = g ^^^ (e &&& (f ^^^ g)) := by
  apply BitVec.eq_of_getLsbD_eq
  intro i hi
  simp only [BitVec.getLsbD_or, BitVec.getLsbD_and, BitVec.getLsbD_xor, BitVec.getLsbD_not, hi, decide_true, Bool.true_and]
  cases e.getLsbD i <;> cases f.getLsbD i <;> cases g.getLsbD i <;> rfl
theorem maj_eq (a b c : W32) : (a &&& b ||| a &&& c ||| b &&& c) = (a &&& b ||| c &&& (a ||| b)) := by
  apply BitVec.eq_of_getLsbD_eq
  intro i hi
  simp only [BitVec.getLsbD_or, BitVec.getLsbD_and]
  cases a.getLsbD i <;> cases b.getLsbD i <;> cases c.getLsbD i <;> rfl
theorem refInto_calls (w : World) {h : List W32} (hl : h.length = 8) {p : Option Addr} {c : Nat} {b : List UInt8} (hsb : SlB w p b) (hb : b.length = 64) (hc : 64 ≤ c) {kb : Nat} {d : Nat} (hk : Seg w kb 0 (wordsV rootsW)) :
    CallsV Tryz.prog 110 [.agg (wordsV h).toArray, .slice p b.length c, .slice (some ⟨kb, 0, none⟩) 64 d] w fun v w' => v = .agg (wordsV (intoW rootsW h b)).toArray ∧ Ext No w w' := by
  have hkl := hk.lt (by decide)
  refine calls_enter Tryz.func110 rfl rfl rfl rfl ?_
  have hX := Ext.refl No w
  refine c_seq (c_region (wl (st_al I_ok rfl fun b3 w1 hn3 hb3 hE1 => ?_)))
  have fr3 := Nat.le_trans hX.size hn3
  have hk := hk.extNo hE1
  have hX := hX.thenNo hE1
  have hb3 : Blk w1 b3 150 (wordsV h) := hb3
  refine wl (st_al I_ok rfl fun b6 w2 hn6 hb6 hE2 => ?_)
  have ne3_6 : b3 ≠ b6 := Nat.ne_of_lt (Nat.lt_of_lt_of_le hb3.lt hn6)
  have fr6 := Nat.le_trans hX.size hn6
  have hb3 := hb3.extNo hE2
  have hk := hk.extNo hE2
  have hX := hX.thenNo hE2
  refine wl_nil (f_then (c_seq (c_region (wl_p I_ok rfl ?_))))
  have hX0 := hX
  refine wl (st_call Tryz.call114 rfl rfl rfl rfl rfl rfl (out_calls w2 (hsb.extNo hX) hb hc) fun v3 w3 hr3 => ?_)
  obtain ⟨q, kq, rfl, hq, hqn, hE3⟩ := hr3
  have hb3 := hb3.extNo hE3
  have hb6 := hb6.extNo hE3
  have hk := hk.extNo hE3
  have hX := hX.thenNo hE3
  obtain ⟨bq, rfl, hseg⟩ : ∃ bq, q = some ⟨bq, 0, none⟩ ∧ Seg w3 bq 0 (wordsV (sched b 64)) := by
    rcases hq with ⟨_, h0, _⟩ | ⟨bq, l, h1, h2, _, _, _, h3⟩
    · omega
    · refine ⟨bq, h1, ?_⟩
      rw [← h3]
      exact h2.seg.take _
  have hbqn := hqn bq rfl
  have hWl := sched_len b 64
  have hbql := hseg.lt (by intro e; have e := congrArg List.length e; rw [wordsV_len, hWl] at e; cases e)
  have hi : intoW rootsW h b = List.zipWith (· + ·) h (turnsW h rootsW (sched b 64) 64) := rfl
  rw [hi]
  generalize sched b 64 = W at hWl hseg ⊢
  refine wl_p I_ok rfl (wl_nil (f_then (c_seq (c_region (wl (st_ldB I_ok hb3 rfl (by rw [wordsV_len, hl]) (wl (st_al I_ok rfl fun b8 w4 hn8 hb8 hE4 => ?_))))))))
  have ne3_8 : b3 ≠ b8 := Nat.ne_of_lt (Nat.lt_of_lt_of_le hb3.lt hn8)
  have ne6_8 : b6 ≠ b8 := Nat.ne_of_lt (Nat.lt_of_lt_of_le hb6.lt hn8)
  have fr8 := Nat.le_trans hX.size hn8
  have hb3 := hb3.extNo hE4
  have hb6 := hb6.extNo hE4
  have hk := hk.extNo hE4
  have hseg := hseg.extNo hE4
  have hX := hX.thenNo hE4
  have hkb8 : ¬ One b8 kb := fun e => by have e : kb = b8 := e; omega
  have hbq8 : ¬ One b8 bq := fun e => by have e : bq = b8 := e; omega
  refine wl (st_stW (l' := wordsV h) I_ok hb8 rfl rfl (by rw [wordsV_len, hl]) (by rw [wordsV_len, hl]; rfl) OneC.h fun w5 hb8 hE5 hs5 => ?_)
  have hb3 := hb3.ext1 hE5 ne3_8
  have hb6 := hb6.ext1 hE5 ne6_8
  have hk := hk.ext hE5 hkb8
  have hseg := hseg.ext hE5 hbq8
  have hX := hX.thenNew hE5 fr8
  refine wl_nil (f_then (c_seq (c_seq (c_region (wl_p I_ok rfl (wl_nil (f_then (c_block ?_))))))))
  refine c_loopK (α := Nat) [2, 3, 6, 7, 8] rfl (fun z => [(9, .int .i64 (z : Int))]) (fun z u => (z ≤ 64 ∧ Seg u bq 0 (wordsV W) ∧ Seg u kb 0 (wordsV rootsW)) ∧ Blk u b3 150 (wordsV h) ∧ Blk u b6 150 (cellsOf ti150.zero) ∧ Blk u b8 150 (wordsV (turnsW h rootsW W z)) ∧ Ext No w u) (fun z u => 64 - z) (0) rfl ⟨⟨by decide, hseg, hk⟩, hb3, hb6, hb8, hX⟩ ?_
  rintro t w6 ⟨⟨ht, hseg, hk⟩, hb3, hb6, hb8, hX⟩
  refine c_seq (c_seq (c_region (wl_p I_ok rfl (wl_nil (f_then (c_if rfl (fun hc => ?_) (fun hc => ?_)))))))
  · have ht : t < 64 := by omega
    obtain ⟨a0, a1, a2, a3, a4, a5, a6, a7, h8⟩ := eight (l := turnsW h rootsW W t) (by rw [turnsW_len, hl])
    rw [h8] at hb8
    have hW := words_getD W (i := t) (by omega)
    have hkt := words_getD rootsW (i := t) ht
    refine c_skip (f_then (c_seq (c_block (c_seq (c_region (wl (st_ix I_ok rfl 1 rfl 4 rfl (by decide) 4 rfl (wl (st_ldb I_ok hb8 rfl rfl (wl_p I_ok rfl (wl_nil (f_then (c_seq ?_)))))))))))))
    refine c_draw rfl 33 [(0, true), (1, true), (2, true), (4, true), (7, true), (11, true), (12, true), (13, true), (14, true), (15, true), (16, true), (17, true), (18, true), (19, true), (20, true), (22, true), (23, true), (24, true), (25, true), (27, true), (28, true), (29, true), (30, true), (3, false), (5, false), (6, true), (8, false), (9, true), (10, true), (21, true), (26, true), (31, true), (32, true)] [] (No) (by kernel_rfl) fun w7 hE7 hs7 => ?_
    have hd3 := hb3
    have hd6 := hb6
    have hd8 := hb8
    have hkd := hk
    have hsegd := hseg
    have hXd := hX
    have hb3 := hb3.extNo hE7
    have hb6 := hb6.extNo hE7
    have hb8 := hb8.extNo hE7
    have hk := hk.extNo hE7
    have hseg := hseg.extNo hE7
    have hX := hX.thenNo hE7
    have hC : Ext (No) _ w7 := hE7.no
    refine wd_ix I_ok rfl rfl 1 rfl 7 rfl (by decide) 7 rfl (wd_ld I_ok rfl rfl (fun w' hw' => (hd8.extNo hw').cell rfl) ?_)
    refine wd_k I_ok 4 rfl (wd_ix I_ok rfl rfl 1 rfl 5 rfl (by decide) 5 rfl (wd_ld I_ok rfl rfl (fun w' hw' => (hd8.extNo hw').cell rfl) ?_))
    refine wd_k I_ok 3 rfl (wd_ix I_ok rfl rfl 1 rfl 6 rfl (by decide) 6 rfl (wd_ld I_ok rfl rfl (fun w' hw' => (hd8.extNo hw').cell rfl) ?_))
    refine wd_k I_ok 4 rfl (wd_ix I_ok rfl rfl 1 rfl t rfl ht (0 + t) (by omega) (wd_ld I_ok rfl rfl (fun w' hw' => (hkd.extNo hw') t _ hkt) ?_))
    refine wd_k I_ok 2 rfl (wd_ix I_ok rfl rfl 1 rfl t rfl ht (0 + t) (by omega) (wd_ld I_ok rfl rfl (fun w' hw' => (hsegd.extNo hw') t _ hW) ?_))
    refine wd_l rfl (st_call Tryz.call115 rfl rfl rfl rfl rfl rfl (turned6_calls w7 _) fun v8 w8 hr8 => ⟨(by obtain ⟨rfl, rfl⟩ := hr8; exact hC), ?_⟩)
    obtain ⟨rfl, rfl⟩ := hr8
    have hC := hC
    refine wd_l rfl (st_call Tryz.call115 rfl rfl rfl rfl rfl rfl (turned11_calls w8 _) fun v9 w9 hr9 => ⟨(by obtain ⟨rfl, rfl⟩ := hr9; exact hC), ?_⟩)
    obtain ⟨rfl, rfl⟩ := hr9
    have hC := hC
    refine wd_k I_ok 1 rfl (wd_l rfl (st_call Tryz.call115 rfl rfl rfl rfl rfl rfl (turned25_calls w9 _) fun v10 w10 hr10 => ⟨(by obtain ⟨rfl, rfl⟩ := hr10; exact hC), ?_⟩))
    obtain ⟨rfl, rfl⟩ := hr10
    have hC := hC
    refine wd_k I_ok 5 rfl ?_
    rw [w_xor, w_xor, w_not, w_and, w_and, w_or, w_add, w_add, w_add, w_add, ← mix3, ch_eq]
    refine wd_k I_ok 1 rfl (wd_sw (wb_nil (f_then (c_seq (c_region (wl (st_ix I_ok rfl 1 rfl 0 rfl (by decide) 0 rfl (wl (st_ldb I_ok hb8 rfl rfl (wl_p I_ok rfl (wl_nil (f_then (c_seq ?_)))))))))))))
    refine c_draw rfl 25 [(0, true), (2, true), (5, true), (8, true), (9, true), (10, true), (11, true), (12, true), (13, true), (14, true), (15, true), (16, true), (17, true), (18, true), (19, true), (20, true), (21, true), (22, true), (1, false), (3, false), (4, true), (6, false), (7, true), (23, true), (24, true)] [] (No) (by kernel_rfl) fun w11 hE11 hs11 => ?_
    have hd3 := hb3
    have hd6 := hb6
    have hd8 := hb8
    have hkd := hk
    have hsegd := hseg
    have hXd := hX
    have hb3 := hb3.extNo hE11
    have hb6 := hb6.extNo hE11
    have hb8 := hb8.extNo hE11
    have hk := hk.extNo hE11
    have hseg := hseg.extNo hE11
    have hX := hX.thenNo hE11
    have hC : Ext (No) _ w11 := hE11.no
    refine wd_k I_ok 4 rfl (wd_ix I_ok rfl rfl 1 rfl 1 rfl (by decide) 1 rfl (wd_ld I_ok rfl rfl (fun w' hw' => (hd8.extNo hw').cell rfl) ?_))
    refine wd_k I_ok 2 rfl (wd_ix I_ok rfl rfl 1 rfl 2 rfl (by decide) 2 rfl (wd_ld I_ok rfl rfl (fun w' hw' => (hd8.extNo hw').cell rfl) ?_))
    refine wd_k I_ok 2 rfl (wd_ix I_ok rfl rfl 1 rfl 1 rfl (by decide) 1 rfl (wd_ld I_ok rfl rfl (fun w' hw' => (hd8.extNo hw').cell rfl) ?_))
    refine wd_ix I_ok rfl rfl 1 rfl 2 rfl (by decide) 2 rfl (wd_ld I_ok rfl rfl (fun w' hw' => (hd8.extNo hw').cell rfl) ?_)
    refine wd_k I_ok 2 rfl (wd_l rfl (st_call Tryz.call115 rfl rfl rfl rfl rfl rfl (turned2_calls w11 _) fun v12 w12 hr12 => ⟨(by obtain ⟨rfl, rfl⟩ := hr12; exact hC), ?_⟩))
    obtain ⟨rfl, rfl⟩ := hr12
    have hC := hC
    refine wd_l rfl (st_call Tryz.call115 rfl rfl rfl rfl rfl rfl (turned13_calls w12 _) fun v13 w13 hr13 => ⟨(by obtain ⟨rfl, rfl⟩ := hr13; exact hC), ?_⟩)
    obtain ⟨rfl, rfl⟩ := hr13
    have hC := hC
    refine wd_k I_ok 1 rfl (wd_l rfl (st_call Tryz.call115 rfl rfl rfl rfl rfl rfl (turned22_calls w13 _) fun v14 w14 hr14 => ⟨(by obtain ⟨rfl, rfl⟩ := hr14; exact hC), ?_⟩))
    obtain ⟨rfl, rfl⟩ := hr14
    have hC := hC
    refine wd_k I_ok 2 rfl ?_
    rw [w_xor, w_xor, w_and, w_and, w_and, w_or, w_or, w_add, ← mix3, maj_eq]
    refine wd_k I_ok 1 rfl (wd_sw (wb_nil (f_then (c_region (wl_p I_ok rfl ?_)))))
    rw [w_add]
    refine wl (st_ix I_ok rfl 1 rfl 0 rfl (by decide) 0 rfl (wl (st_ldb I_ok hb8 rfl rfl (wl (st_ix I_ok rfl 1 rfl 1 rfl (by decide) 1 rfl (wl (st_ldb I_ok hb8 rfl rfl (wl (st_ix I_ok rfl 1 rfl 2 rfl (by decide) 2 rfl ?_)))))))))
    refine wl (st_ldb I_ok hb8 rfl rfl (wl (st_ix I_ok rfl 1 rfl 3 rfl (by decide) 3 rfl (wl (st_ldb I_ok hb8 rfl rfl (wl_p I_ok rfl ?_))))))
    rw [w_add]
    refine wl (st_ix I_ok rfl 1 rfl 4 rfl (by decide) 4 rfl (wl (st_ldb I_ok hb8 rfl rfl (wl (st_ix I_ok rfl 1 rfl 5 rfl (by decide) 5 rfl (wl (st_ldb I_ok hb8 rfl rfl (wl (st_ix I_ok rfl 1 rfl 6 rfl (by decide) 6 rfl ?_)))))))))
    refine wl (st_ldb I_ok hb8 rfl rfl ?_)
    refine wl (st_bd I_ok rfl (by simp [partsOk]; decide) (l' := wordsV [(a7 + mixW a4 [6, 11, 25] + (a6 ^^^ (a4 &&& (a5 ^^^ a6))) + rootsW.getD t 0 + W.getD t 0) + (mixW a0 [2, 13, 22] + ((a0 &&& a1) ||| (a2 &&& (a0 ||| a1)))), a0, a1, a2, a3 + (a7 + mixW a4 [6, 11, 25] + (a6 ^^^ (a4 &&& (a5 ^^^ a6))) + rootsW.getD t 0 + W.getD t 0), a4, a5, a6]) rfl ?_)
    refine wl (st_stW (l' := wordsV [(a7 + mixW a4 [6, 11, 25] + (a6 ^^^ (a4 &&& (a5 ^^^ a6))) + rootsW.getD t 0 + W.getD t 0) + (mixW a0 [2, 13, 22] + ((a0 &&& a1) ||| (a2 &&& (a0 ||| a1)))), a0, a1, a2, a3 + (a7 + mixW a4 [6, 11, 25] + (a6 ^^^ (a4 &&& (a5 ^^^ a6))) + rootsW.getD t 0 + W.getD t 0), a4, a5, a6]) I_ok hb8 rfl rfl rfl rfl OneC.h fun w15 hb8 hE15 hs15 => ?_)
    have hb3 := hb3.ext1 hE15 ne3_8
    have hb6 := hb6.ext1 hE15 ne6_8
    have hk := hk.ext hE15 hkb8
    have hseg := hseg.ext hE15 hbq8
    have hX := hX.thenNew hE15 fr8
    have hb8 : Blk w15 b8 150 (wordsV (turnsW h rootsW W (t + 1))) := by
      rw [turnsW, h8]
      exact hb8
    refine wl_nil (f_blockN (f_then (c_region (wl_p I_ok rfl ?_))))
    rw [IntWalk.i64_in _ (by omega)]
    refine wl_nil ?_
    exact f_round (t + 1) rfl ⟨⟨by omega, hseg, hk⟩, hb3, hb6, hb8, hX⟩ (by first | omega | (dsimp only; omega))
  · have h0 : t = 64 := by omega
    subst h0
    have hLl : (turnsW h rootsW W 64).length = 8 := by rw [turnsW_len, hl]
    generalize turnsW h rootsW W 64 = L at hb8 hLl ⊢
    refine c_exit (f_thenE (f_thenE (f_blockE (f_then (c_seq (c_seq (c_region (wl_p I_ok rfl (wl_nil (f_then (c_block ?_)))))))))))
    refine c_loopK (α := Nat) [3, 6, 8] rfl (fun z => [(14, .int .i64 (z : Int))]) (fun z u => (z ≤ 8) ∧ Blk u b3 150 (wordsV (List.zipWith (· + ·) (h.take z) (L.take z) ++ h.drop z)) ∧ Blk u b6 150 (cellsOf ti150.zero) ∧ Blk u b8 150 (wordsV L) ∧ Ext No w u) (fun z u => 8 - z) (0) rfl ⟨by decide, hb3, hb6, hb8, hX⟩ ?_
    rintro i w16 ⟨hi8, hb3, hb6, hb8, hX⟩
    refine c_seq (c_seq (c_region (wl_p I_ok rfl (wl_nil (f_then (c_if rfl (fun hc => ?_) (fun hc => ?_)))))))
    · have hi8 : i < 8 := by omega
      have h1 : i < h.length := by omega
      have h2 : i < L.length := by omega
      have hLw := wordsV_get L h2
      refine c_skip (f_then (c_seq (c_block (c_draw rfl 9 [(0, true), (1, true), (2, true), (3, true), (4, true), (5, true), (6, true), (7, true), (8, true)] [9] (No) (by kernel_rfl) fun w17 hE17 hs17 => ?_))))
      have hd3 := hb3
      have hd6 := hb6
      have hd8 := hb8
      have hXd := hX
      have hb3 := hb3.extNo hE17
      have hb6 := hb6.extNo hE17
      have hb8 := hb8.extNo hE17
      have hX := hX.thenNo hE17
      have hC : Ext (No) _ w17 := hE17.no
      refine wd_k I_ok 2 rfl (wd_ix I_ok rfl rfl 1 rfl i rfl hi8 (0 + i * 1) rfl (wd_ld I_ok rfl rfl (fun w' hw' => (hd3.extNo hw').cell (i := 0 + i * 1) (v := wordV h[i]) (zip_at h1 h2)) ?_))
      refine wd_k I_ok 1 rfl (wd_ix I_ok rfl rfl 1 rfl i rfl hi8 (0 + i) (by omega) (wd_ld I_ok rfl rfl (fun w' hw' => (hd8.extNo hw').cell (i := 0 + i) (v := wordV L[i]) (by rw [Nat.zero_add]; exact hLw)) ?_))
      refine wd_k I_ok 1 rfl ?_
      rw [w_add]
      refine wd_ix I_ok rfl rfl 1 rfl i rfl hi8 (0 + i * 1) rfl (wd_sw ?_)
      refine wb rfl (st_set I_ok hb3 rfl rfl (by rw [wordsV_len, List.length_append, List.length_zipWith, List.length_take, List.length_take, List.length_drop]; omega) fun w18 hb3 hE18 hs18 => ?_)
      have hb6 := hb6.ext1 hE18 ne3_6.symm
      have hb8 := hb8.ext1 hE18 ne3_8.symm
      have hX := hX.thenNew hE18 fr3
      rw [zip_set h1 h2] at hb3
      refine wb_nil (f_blockN (f_then (c_region (wl_p I_ok rfl ?_))))
      rw [IntWalk.i64_in _ (by omega)]
      refine wl_nil ?_
      exact f_round (i + 1) rfl ⟨by omega, hb3, hb6, hb8, hX⟩ (by first | omega | (dsimp only; omega))
    · have h0 : i = 8 := by omega
      subst h0
      have e1 : h.take 8 = h := List.take_of_length_le (by omega)
      have e2 : L.take 8 = L := List.take_of_length_le (by omega)
      have e3 : h.drop 8 = [] := List.drop_eq_nil_of_le (by omega)
      rw [e1, e2, e3, List.append_nil] at hb3
      have hZ : (wordsV (List.zipWith (· + ·) h L)).length = 8 := by rw [wordsV_len, List.length_zipWith]; omega
      refine c_exit (f_thenE (f_thenE (f_blockE (f_then (c_seq (c_region (wl (st_ldB I_ok hb3 rfl hZ (wl (st_stW (l' := wordsV (List.zipWith (· + ·) h L)) I_ok hb6 rfl rfl hZ (by rw [hZ]; rfl) OneC.h fun w19 hb6 hE19 hs19 => ?_))))))))))
      have hb3 := hb3.ext1 hE19 ne3_6
      have hb8 := hb8.ext1 hE19 ne6_8.symm
      have hX := hX.thenNew hE19 fr6
      refine wl_nil (f_then (c_ret (f_ret [_] ⟨⟨b6, 0, rfl, ld_all I_ok rfl rfl hb6.seg (by rw [hZ]; rfl)⟩, trivial⟩ ?_)))
      exact ⟨rfl, hX⟩
end Go.Proofs.YtlfdlodcjiaiiaaGreatDoor
namespace Go.Proofs.YtlfdlodcjiaiiaaGreatDoor
open Go.Vc

def padJ (l : List UInt8) (j : Nat) : List UInt8 := l ++ (128 :: List.replicate j 0)
theorem padJ_len (l : List UInt8) (j : Nat) : (padJ l j).length = l.length + 1 + j := by simp [padJ]; omega
theorem padJ_succ (l : List UInt8) (j : Nat) : padJ l (j + 1) = padJ l j ++ [0] := by rw [padJ, List.replicate_succ', padJ]; simp
theorem refPad_calls (w : World) {p : Option Addr} {c : Nat} {l : List UInt8} (h : SlB w p l) (hl : l.length < 100000000) :
    CallsV Tryz.prog 108 [.slice p l.length c] w fun v w' => ∃ q k, v = .slice q (padW l).length k ∧ Own w' q (padW l).length k 5 1 (bytesU (padW l)) ∧ (∀ b, OwnB q b → w.heap.size ≤ b) ∧ Ext No w w' := by
  obtain ⟨K, hK⟩ : ∃ K, K = (l.length + 72) / 64 * 64 - 8 - (l.length + 1) := ⟨_, rfl⟩
  have hpad : padJ l K ++ be 8 (8 * l.length) = padW l := by rw [padW, ← hK, padJ]; simp
  refine calls_enter Tryz.func108 rfl rfl rfl rfl ?_
  have hX := Ext.refl No w
  refine c_seq (c_region (wl_p I_ok rfl (wl_nil (f_then (c_seq (c_region (wl_p I_ok rfl (wl (st_bs I_ok rfl 1 rfl rfl rfl (by decide) (by decide) (by simp [partsOk]) rfl fun b5 w1 hn5 hb5 hE1 hs1 => ?_)))))))))
  have fr5 := Nat.le_trans hX.size hn5
  have hX := hX.thenNo hE1
  have hb5 : Blk w1 b5 5 (bytesU [128]) := hb5
  have hX0 := hX
  refine wl (st_call Tryz.call94 rfl rfl rfl rfl rfl rfl (both_calls w1 (m := [128]) (h.extNo hX) ⟨rfl, .inr ⟨b5, 0, rfl, hb5.seg⟩⟩ (by omega) (by decide)) fun v2 w2 hr2 => ?_)
  obtain ⟨q, k, rfl, hq, hqn, hE2⟩ := hr2
  have hb5 := hb5.extNo hE2
  have hX := hX.thenNo hE2
  have hqn : ∀ x, OwnB q x → w.heap.size ≤ x := fun x hx => Nat.le_trans hX0.size (hqn x hx)
  refine wl_p I_ok rfl (wl_nil (f_then (c_seq (c_block ?_))))
  refine c_loopK (α := Nat × Option Addr × Nat) [0] rfl (fun z => [(3, .slice z.2.1 (padJ l z.1).length z.2.2)]) (fun z u => (z.1 ≤ K ∧ Own u z.2.1 (padJ l z.1).length z.2.2 5 1 (bytesU (padJ l z.1)) ∧ (∀ x, OwnB z.2.1 x → w.heap.size ≤ x)) ∧ Ext No w u) (fun z u => K - z.1) (0, q, k) rfl ⟨⟨Nat.zero_le _, hq, hqn⟩, hX⟩ ?_
  rintro ⟨j, q, k⟩ w3 ⟨⟨hj, hq, hqn⟩, hX⟩
  try dsimp only
  dsimp only at hj hq hqn
  have hll := padJ_len l j
  have e8 : (IntKind.i64.wrap (((padJ l j).length : Int) + 8)).tmod 64 = (((l.length + 9 + j) % 64 : Nat) : Int) := by
    rw [IntWalk.i64_in _ (by omega), Int.tmod_eq_emod_of_nonneg (by omega)]
    omega
  refine c_seq (c_seq (c_region (wl_p I_ok rfl ?_)))
  rw [e8]
  refine wl_p I_ok rfl (wl_nil (f_then (c_if rfl (fun hc => ?_) (fun hc => ?_))))
  · have hjK : j < K := by omega
    refine c_skip (f_then (c_block (c_region (wl_p I_ok rfl (wl (st_bs I_ok rfl 1 rfl rfl rfl (by decide) (by decide) (by simp [partsOk]) rfl fun b13 w4 hn13 hb13 hE4 hs4 => ?_))))))
    have fr13 := Nat.le_trans hX.size hn13
    have hq := hq.ext hE4 fun _ _ => id
    have hX := hX.thenNo hE4
    have hb13 : Blk w4 b13 5 (bytesU [0]) := hb13
    have hX1 := hX
    refine wl (st_app I_ok rfl 1 1 rfl rfl rfl (by decide) hq (Src.slice (m := 1) ⟨rfl, .inr ⟨b13, 0, rfl, hb13.seg⟩⟩ OneC.h) (by dsimp only [maxLen]; omega) (by dsimp only; omega) fun p5 c5 w5 ho5 hE5 hB5 => ?_)
    have hX := hX1.trans hE5 fun y hy hF => by have := hqn y hF; omega
    have hqn2 : ∀ x, OwnB p5 x → w.heap.size ≤ x := fun x hx => (hB5 x hx).elim (fun h => hqn x h) fun h => Nat.le_trans hX1.size h
    have e9 := padJ_succ l j
    have e10 : (padJ l j).length + 1 = (padJ l (j + 1)).length := by rw [padJ_len, padJ_len]; omega
    have hq2 : Own w5 p5 (padJ l (j + 1)).length c5 5 1 (bytesU (padJ l (j + 1))) := by
      rw [← e10, e9, bytesU_append]
      exact ho5
    dsimp only
    rw [e10]
    refine wl_p I_ok rfl (wl_nil ?_)
    exact f_blockN (f_round (j + 1, p5, c5) rfl ⟨⟨by dsimp only; omega, hq2, hqn2⟩, hX⟩ (by first | omega | (dsimp only; omega)))
  · have h0 : j = K := by omega
    subst h0
    refine c_exit (f_thenE (f_thenE (f_blockE (f_then (c_seq (c_region (wl_p I_ok rfl ?_)))))))
    rw [show IntKind.u64.wrap (IntKind.u64.wrap (l.length : Int) * 8) = ((8 * l.length : Nat) : Int) from by rw [IntWalk.u64_in (l.length : Int) (by omega), IntWalk.u64_in _ (by omega)]; omega]
    refine wl (st_call Tryz.call95 rfl rfl rfl rfl rfl rfl (high_calls 8 (by decide) w3 (8 * l.length) (by omega)) fun v6 w6 hr6 => ?_)
    obtain ⟨qh, kh, rfl, hqh, hqhn, hE6⟩ := hr6
    have hq := hq.ext hE6 fun _ _ => id
    have hX := hX.thenNo hE6
    rw [show Value.slice qh 8 kh = .slice qh (be 8 (8 * l.length)).length kh from by rw [be_len]]
    have hX0 := hX
    refine wl (st_call Tryz.call94 rfl rfl rfl rfl rfl rfl (both_calls w6 hq.sl (by rw [SlB, be_len]; exact hqh.sl) (by omega) (by rw [be_len]; decide)) fun v7 w7 hr7 => ?_)
    obtain ⟨r, kr, rfl, hr, hrn, hE7⟩ := hr7
    have hq := hq.ext hE7 fun _ _ => id
    have hX := hX.thenNo hE7
    rw [hpad] at hr ⊢
    refine wl_p I_ok rfl (wl_nil (f_then (c_ret (f_ret1 rfl rfl ?_))))
    exact ⟨r, kr, rfl, hr, fun b hb => Nat.le_trans hX0.size (hrn b hb), hX⟩
theorem flat4_get (H : List W32) {j : Nat} (hj : j < 4 * H.length) : (H.flatMap fun x => be 4 x.toNat)[j]? = (be 4 (H.getD (j / 4) 0).toNat)[j % 4]? := by
  induction H generalizing j with
  | nil => simp at hj
  | cons x r ih =>
    rw [List.flatMap_cons]
    by_cases h4 : j < 4
    · rw [List.getElem?_append_left (by rw [be_len]; exact h4), Nat.div_eq_of_lt h4, Nat.mod_eq_of_lt h4]
      rfl
    · obtain ⟨i, rfl⟩ : ∃ i, j = i + 4 := ⟨j - 4, by omega⟩
      rw [List.getElem?_append_right (by rw [be_len]; omega), be_len, Nat.add_sub_cancel, ih (by rw [List.length_cons] at hj; omega), Nat.add_mod_right, Nat.add_div_right _ (by decide)]
      rfl
theorem bytes_set (D : List UInt8) {j n : Nat} (h1 : j < D.length) (h2 : j < n) : (bytesU (D.take j ++ List.replicate (n - j) 0)).set (0 + j * 1) (byteV D[j]) = bytesU (D.take (j + 1) ++ List.replicate (n - (j + 1)) 0) := by
  have e1 : (D.take j).length = j := by rw [List.length_take]; omega
  have e2 : n - j = (n - (j + 1)) + 1 := by omega
  rw [Nat.zero_add, Nat.mul_one, bytesU, ← List.map_set, List.set_append_right _ _ (by omega), e1, Nat.sub_self, e2, List.replicate_succ, List.set_cons_zero, List.take_succ_eq_append_getElem h1, List.append_assoc]
  rfl
theorem refSum_calls (w : World) {p : Option Addr} {c : Nat} {l : List UInt8} (h : SlB w p l) (hl : l.length < 100000000) :
    CallsV Tryz.prog 104 [.slice p l.length c] w fun v w' => v = .agg (bytesU (sumW l)).toArray ∧ Ext No w w' := by
  refine calls_enter Tryz.func104 rfl rfl rfl rfl ?_
  have hX := Ext.refl No w
  refine c_seq (c_region (wl (st_al I_ok rfl fun b2 w1 hn2 hb2 hE1 => ?_)))
  have fr2 := Nat.le_trans hX.size hn2
  have hX := hX.thenNo hE1
  refine wl_nil (f_then (c_seq (c_region (wl (st_bd I_ok rfl (by simp [partsOk]; decide) (l' := wordsV startW) rfl (wl (st_al I_ok rfl fun b3 w2 hn3 hb3 hE2 => ?_)))))))
  have ne2_3 : b2 ≠ b3 := Nat.ne_of_lt (Nat.lt_of_lt_of_le hb2.lt hn3)
  have fr3 := Nat.le_trans hX.size hn3
  have hb2 := hb2.extNo hE2
  have hX := hX.thenNo hE2
  refine wl (st_stW (l' := wordsV startW) I_ok hb3 rfl rfl rfl rfl OneC.h fun w3 hb3 hE3 hs3 => ?_)
  have hb2 := hb2.ext1 hE3 ne2_3
  have hX := hX.thenNew hE3 fr3
  refine wl_nil (f_then (c_seq (c_region (wl_p I_ok rfl ?_))))
  have hb3l := hb3.lt
  have hb2l := hb2.lt
  refine wl (st_call Tryz.call108 rfl rfl rfl rfl rfl rfl (refPad_calls w3 (h.extNo hX) hl) fun v4 w4 hr4 => ?_)
  obtain ⟨q, kq, rfl, hq, hqn, hE4⟩ := hr4
  have hb2 := hb2.extNo hE4
  have hb3 := hb3.extNo hE4
  have hX := hX.thenNo hE4
  have hPl : (padW l).length % 64 = 0 := by rw [padW_len]; omega
  have hPm : (padW l).length < 200000000 := by rw [padW_len]; omega
  have hsum : sumW l = (blocksW rootsW startW (padW l) ((padW l).length / 64)).flatMap fun x => be 4 x.toNat := rfl
  rw [hsum]
  have hcap := hq.cap
  have hP : SlB w4 q (padW l) := hq.sl
  have hqb3 : ∀ b off, q = some ⟨b, off, none⟩ → ¬ One b3 b := fun b off e hb => by
    have hb : b = b3 := hb
    rcases hq with ⟨_, h0, _⟩ | ⟨bq, _, h1, _⟩
    · rw [padW_len] at h0; omega
    · rw [h1] at e
      cases e
      have := hqn b h1
      omega
  clear hq
  generalize padW l = P at hP hPl hPm hcap ⊢
  have hb3l := Nat.lt_of_lt_of_le hb3l hE4.size
  refine wl_p I_ok rfl (wl_nil (f_then (c_seq (c_region (wl (st_call Tryz.call109 rfl rfl rfl rfl rfl rfl (known_calls w4) fun v5 w5 hr5 => ?_))))))
  obtain ⟨bk, rfl, hnk, hbk, hE5⟩ := hr5
  have hb2 := hb2.extNo hE5
  have hb3 := hb3.extNo hE5
  have hP := hP.extNo hE5
  have hX := hX.thenNo hE5
  have hsk : Seg w5 bk 0 (wordsV rootsW) := hbk.seg
  have hkb3 : ¬ One b3 bk := fun e => by have e : bk = b3 := e; omega
  refine wl_p I_ok rfl (wl_nil (f_then (c_seq (c_seq (c_region (wl_p I_ok rfl (wl_nil (f_then (c_block ?_)))))))))
  refine c_loopK (α := Nat) [2, 3, 4, 5] rfl (fun z => [(6, .int .i64 ((64 * z : Nat) : Int))]) (fun z u => (64 * z ≤ P.length ∧ SlB u q P ∧ Seg u bk 0 (wordsV rootsW)) ∧ Blk u b2 142 (cellsOf ti142.zero) ∧ Blk u b3 150 (wordsV (blocksW rootsW startW P z)) ∧ Ext No w u) (fun z u => P.length - 64 * z) (0) rfl ⟨⟨Nat.zero_le _, hP, hsk⟩, hb2, hb3, hX⟩ ?_
  rintro k w6 ⟨⟨hk, hP, hsk⟩, hb2, hb3, hX⟩
  refine c_seq (c_seq (c_region (wl_p I_ok rfl (wl_nil (f_then (c_if rfl (fun hc => ?_) (fun hc => ?_)))))))
  · have hk64 : 64 * k + 64 ≤ P.length := by omega
    have htl : ((P.drop (64 * k)).take 64).length = 64 := by rw [List.length_take, List.length_drop]; omega
    have hBl : (blocksW rootsW startW P k).length = 8 := by rw [blocksW_len]; rfl
    refine c_skip (f_then (c_seq (c_block (c_draw rfl 8 [(0, true), (1, true), (2, true), (3, true), (4, true), (5, true), (6, true), (7, false)] [8] (No) (by kernel_rfl) fun w7 hE7 hs7 => ?_))))
    have hd2 := hb2
    have hd3 := hb3
    have hPd := hP
    have hskd := hsk
    have hXd := hX
    have hb2 := hb2.extNo hE7
    have hb3 := hb3.extNo hE7
    have hP := hP.extNo hE7
    have hsk := hsk.extNo hE7
    have hX := hX.thenNo hE7
    have hC : Ext (No) _ w7 := hE7.no
    refine wd_ldN I_ok rfl rfl (fun w' hw' => (hd3.extNo hw').seg) (by rw [wordsV_len, hBl]) ?_
    refine wd_k I_ok 4 rfl ?_
    rw [IntWalk.i64_in _ (by omega)]
    refine wd_sl I_ok rfl rfl (64 * k) (64 * k + 64) kq 1 rfl (.inr ⟨rfl, rfl⟩) (.inl (congrArg some (by omega))) (.inl (congrArg some (by omega))) (by omega) (by omega) (Nat.le_refl _) ?_
    dsimp only
    rw [show 64 * k + 64 - 64 * k = ((P.drop (64 * k)).take 64).length from by rw [htl]; omega]
    refine wd_k I_ok 1 rfl ?_
    have hsp : SlB w7 (slBase q (64 * k) kq 1) ((P.drop (64 * k)).take 64) := by
      have e := Sl.slice hP (64 * k) (64 * k + 64) kq (by omega) (by omega) (by omega)
      rw [Nat.mul_one, Nat.mul_one, bytesU_drop, bytesU_take, show 64 * k + 64 - 64 * k = 64 from by omega] at e
      rw [SlB, htl]
      exact e
    refine wd_l rfl (st_call Tryz.call110 rfl rfl rfl rfl rfl rfl (refInto_calls w7 hBl (b := (P.drop (64 * k)).take 64) hsp htl (by omega) hsk) fun v8 w8 hr8 => ⟨(by obtain ⟨rfl, hE8⟩ := hr8; exact hC.thenNo hE8), ?_⟩)
    obtain ⟨rfl, hE8⟩ := hr8
    have hb2 := hb2.extNo hE8
    have hb3 := hb3.extNo hE8
    have hP := hP.extNo hE8
    have hsk := hsk.extNo hE8
    have hX := hX.thenNo hE8
    have hC := hC.thenNo hE8
    refine wd_sw ?_
    refine wb rfl (st_stW (l' := wordsV (intoW rootsW (blocksW rootsW startW P k) ((P.drop (64 * k)).take 64))) I_ok hb3 rfl rfl (by rw [wordsV_len, intoW_len, hBl]) (by rw [wordsV_len, intoW_len, hBl, wordsV_len, hBl]) OneC.h fun w9 hb3 hE9 hs9 => ?_)
    have hb2 := hb2.ext1 hE9 ne2_3
    have hP := hP.ext hE9 hqb3
    have hsk := hsk.ext hE9 hkb3
    have hX := hX.thenNew hE9 fr3
    refine wb_nil (f_blockN (f_then (c_region (wl_p I_ok rfl ?_))))
    rw [IntWalk.i64_in _ (by omega)]
    refine wl_nil ?_
    exact f_round (k + 1) rfl ⟨⟨by omega, hP, hsk⟩, hb2, hb3, hX⟩ (by first | omega | (dsimp only; omega))
  · have h0 : k = P.length / 64 := by omega
    subst h0
    have hHl : (blocksW rootsW startW P (P.length / 64)).length = 8 := by rw [blocksW_len]; rfl
    generalize blocksW rootsW startW P (P.length / 64) = H at hb3 hHl ⊢
    have hDl := flat4_len H
    have hDg : ∀ j, j < 4 * H.length → (H.flatMap fun x => be 4 x.toNat)[j]? = (be 4 (H.getD (j / 4) 0).toNat)[j % 4]? := fun j => flat4_get H
    generalize (H.flatMap fun x => be 4 x.toNat) = D at hDl hDg ⊢
    refine c_exit (f_thenE (f_thenE (f_blockE (f_then (c_seq (c_region (wl (st_al I_ok rfl fun b7 w10 hn7 hb7 hE10 => ?_))))))))
    have ne2_7 : b2 ≠ b7 := Nat.ne_of_lt (Nat.lt_of_lt_of_le hb2.lt hn7)
    have ne3_7 : b3 ≠ b7 := Nat.ne_of_lt (Nat.lt_of_lt_of_le hb3.lt hn7)
    have fr7 := Nat.le_trans hX.size hn7
    have hb2 := hb2.extNo hE10
    have hb3 := hb3.extNo hE10
    have hX := hX.thenNo hE10
    have hb7 : Blk w10 b7 142 (bytesU (D.take 0 ++ List.replicate (32 - 0) 0)) := hb7
    refine wl_nil (f_then (c_seq (c_seq (c_region (wl_p I_ok rfl (wl_nil (f_then (c_block ?_))))))))
    refine c_loopK (α := Nat) [2, 3, 7] rfl (fun z => [(8, .int .i64 (z : Int))]) (fun z u => (z ≤ 32) ∧ Blk u b2 142 (cellsOf ti142.zero) ∧ Blk u b3 150 (wordsV H) ∧ Blk u b7 142 (bytesU (D.take z ++ List.replicate (32 - z) 0)) ∧ Ext No w u) (fun z u => 32 - z) (0) rfl ⟨by decide, hb2, hb3, hb7, hX⟩ ?_
    rintro j w11 ⟨hj, hb2, hb3, hb7, hX⟩
    refine c_seq (c_seq (c_region (wl_p I_ok rfl (wl_nil (f_then (c_if rfl (fun hc => ?_) (fun hc => ?_)))))))
    · have hj32 : j < 32 := by omega
      have hDj := hDg j (by omega)
      rw [List.getElem?_eq_getElem (by omega)] at hDj
      have hHj := words_getD H (i := j / 4) (by omega)
      refine c_skip (f_then (c_seq (c_block (c_region (wl_p I_ok rfl ?_)))))
      rw [show IntKind.i64.wrap ((j : Int).tdiv 4) = ((j / 4 : Nat) : Int) from by rw [IntWalk.i64_quo _ _ (by omega)]; omega]
      refine wl (st_ix I_ok rfl 1 rfl (j / 4) rfl (by omega) (0 + j / 4) (by omega) (wl (st_ld I_ok rfl (hb3.cell (i := 0 + j / 4) (v := wordV (H.getD (j / 4) 0)) (by rw [Nat.zero_add]; exact hHj)) (wl_p I_ok rfl ?_))))
      rw [show IntKind.u64.wrap ((H.getD (j / 4) 0).toNat : Int) = ((H.getD (j / 4) 0).toNat : Int) from by have := (H.getD (j / 4) 0).isLt; rw [IntWalk.u64_in _ (by omega)]]
      refine wl (st_call Tryz.call95 rfl rfl rfl rfl rfl rfl (high_calls 4 (by decide) w11 (H.getD (j / 4) 0).toNat (by have := (H.getD (j / 4) 0).isLt; omega)) fun v12 w12 hr12 => ?_)
      obtain ⟨qh, kh, rfl, hqh, hqhn, hE12⟩ := hr12
      have hb2 := hb2.extNo hE12
      have hb3 := hb3.extNo hE12
      have hb7 := hb7.extNo hE12
      have hX := hX.thenNo hE12
      obtain ⟨bh, rfl, hsh⟩ : ∃ bh, qh = some ⟨bh, 0, none⟩ ∧ Seg w12 bh 0 (bytesU (be 4 (H.getD (j / 4) 0).toNat)) := by
        rcases hqh with ⟨_, h0, _⟩ | ⟨bh, l, h1, h2, _, _, _, h3⟩
        · omega
        · refine ⟨bh, h1, ?_⟩
          rw [← h3]
          exact h2.seg.take _
      have hbj : (bytesU (be 4 (H.getD (j / 4) 0).toNat))[j % 4]? = some (byteV (D[j]'(by omega))) := by rw [bytesU, List.getElem?_map, ← hDj]; rfl
      refine wl_p I_ok rfl ?_
      rw [show ((j : Int).tmod 4) = ((j % 4 : Nat) : Int) from rfl]
      refine wl (st_ix I_ok rfl 1 rfl (j % 4) rfl (by omega) (0 + j % 4) (by omega) (wl (st_ld I_ok rfl (hsh (j % 4) _ hbj) (wl (st_ix I_ok rfl 1 rfl j rfl hj32 (0 + j * 1) rfl ?_)))))
      refine wl (st_set I_ok hb7 rfl rfl (by rw [bytesU_len, List.length_append, List.length_take, List.length_replicate]; omega) fun w13 hb7 hE13 hs13 => ?_)
      have hb2 := hb2.ext1 hE13 ne2_7
      have hb3 := hb3.ext1 hE13 ne3_7
      have hX := hX.thenNew hE13 fr7
      rw [bytes_set D (by omega) hj32] at hb7
      refine wl_nil (f_blockN (f_then (c_region (wl_p I_ok rfl ?_))))
      rw [IntWalk.i64_in _ (by omega)]
      refine wl_nil ?_
      exact f_round (j + 1) rfl ⟨by omega, hb2, hb3, hb7, hX⟩ (by first | omega | (dsimp only; omega))
    · have h0 : j = 32 := by omega
      subst h0
      have e1 : D.take 32 ++ List.replicate (32 - 32) 0 = D := by rw [List.take_of_length_le (by omega)]; simp
      rw [e1] at hb7
      have hD32 : (bytesU D).length = 32 := by rw [bytesU_len]; omega
      refine c_exit (f_thenE (f_thenE (f_blockE (f_then (c_seq (c_region (wl (st_ldB I_ok hb7 rfl hD32 (wl (st_stW (l' := bytesU D) I_ok hb2 rfl rfl hD32 (by rw [hD32]; rfl) OneC.h fun w14 hb2 hE14 hs14 => ?_))))))))))
      have hb3 := hb3.ext1 hE14 ne2_3.symm
      have hb7 := hb7.ext1 hE14 ne2_7.symm
      have hX := hX.thenNew hE14 fr2
      refine wl_nil (f_then (c_ret (f_ret [_] ⟨⟨b2, 0, rfl, ld_all I_ok rfl rfl hb2.seg (by rw [hD32]; rfl)⟩, trivial⟩ ?_)))
      exact ⟨rfl, hX⟩
end Go.Proofs.YtlfdlodcjiaiiaaGreatDoor
namespace Go.Vc

section
variable {F : Fence} {n : Nat} {P : Program} {f : Fs} {Q : XPost} {env : Env} {w : World}
theorem WCI.keep {c : Code} (ls : List Nat) {env' : Env} (hp : pick env ls = some env') (h : WCI F n P f c Q env' w) : WCI F n P f c Q env w := fun a ha => h a (ha.sub (pick_subs hp))
theorem ci_seq {x y : Code} (h : WCI F n P f x (Exit.then (y.wpIn F n P Q) Q) env w) : WCI F n P f (.seq x y) Q env w := fun a ha => wpIn_seq (h a ha)
theorem ci_skip (h : Fin f Q .normal env w) : WCI F n P f .skip Q env w := fun a ha => wpIn_skip (h a ha)
theorem ci_label {l : Nat} (h : Fin f Q .normal env w) : WCI F n P f (.label l) Q env w := fun a ha => wpIn_label (h a ha)
theorem ci_exit {id : Nat} (h : Fin f Q (.exit id) env w) : WCI F n P f (.exit id) Q env w := fun a ha => wpIn_exit (h a ha)
theorem ci_ret (h : Fin f Q .ret env w) : WCI F n P f .ret Q env w := fun a ha => wpIn_ret (h a ha)
theorem ci_cond {c : Operand} {x y : Code} {b : Bool} (hc : evO env c = some (.bool b)) (ht : b = true → WCI F n P f x Q env w) (hf : b = false → WCI F n P f y Q env w) : WCI F n P f (.cond c x y) Q env w :=
  fun a ha => wpIn_cond_split (ha.eval hc) (fun h => ht h a ha) (fun h => hf h a ha)
theorem ci_condT {c : Operand} {x y : Code} (hc : evO env c = some (.bool true)) (ht : WCI F n P f x Q env w) : WCI F n P f (.cond c x y) Q env w :=
  fun a ha => wpIn_cond_true (ha.eval hc) (ht a ha)
theorem ci_condF {c : Operand} {x y : Code} (hc : evO env c = some (.bool false)) (ht : WCI F n P f y Q env w) : WCI F n P f (.cond c x y) Q env w :=
  fun a ha => wpIn_cond_false (ha.eval hc) (ht a ha)
theorem ci_if {c : Operand} {x y : Code} {p : Prop} [Decidable p] (hc : evO env c = some (.bool (decide p))) (ht : p → WCI F n P f x Q env w) (hf : ¬ p → WCI F n P f y Q env w) : WCI F n P f (.cond c x y) Q env w :=
  ci_cond hc (fun h => ht (of_decide_eq_true h)) (fun h => hf (of_decide_eq_false h))
theorem ci_cut {x y : Code} {α : Type} (J : α → World → Prop) (E : α → Env)
    (hx : WCI F n P f x (Exit.then (fun a w => ∃ z, Ag f (E z) a ∧ J z w) Q) env w) (hy : ∀ z w', J z w' → WCI F n P f y Q (E z) w') : WCI F n P f (.seq x y) Q env w :=
  fun a ha => wpIn_seq (wpIn_mono (hx a ha) fun e a' w' h => by
    cases e <;> first | (obtain ⟨z, hz, hJ⟩ := h; exact hy z w' hJ a' hz) | exact h)
theorem ci_cutK {x y : Code} {α : Type} (ls : List Nat) {env0 : Env} (hp : pick env ls = some env0) (C : α → Env) (J : α → World → Prop)
    (hx : WCI F n P f x (Exit.then (fun a w => ∃ z, Ag f (C z ++ env0) a ∧ J z w) Q) env w) (hy : ∀ z w', J z w' → WCI F n P f y Q (C z ++ env0) w') : WCI F n P f (.seq x y) Q env w :=
  have _ := hp
  ci_cut J (fun z => C z ++ env0) hx hy
theorem ci_loop {c : Code} {α : Type} (I : α → World → Prop) (E : α → Env) (μ : α → World → Nat) (z : α) (hs : SubE (E z) env) (hI : I z w)
    (round : ∀ z w, I z w → WCI F n P f c (Exit.then (fun a' w' => ∃ z', Ag f (E z') a' ∧ I z' w' ∧ μ z' w' < μ z w) Q) (E z) w) : WCI F n P f (.loop c) Q env w := by
  intro a ha b k cs hro hb hr
  have key : ∀ j (z : α) (w : World) (a : Act), μ z w = j → I z w → Ag f (E z) a →
      ∃ e a' w', Q e a' w' ∧ ArrivesIn (Machine.fenced P F) P (lone (b.atR a (.code c :: .inLoop c :: k)) cs w) b k cs e a' w' := by
    intro j
    induction j using Nat.strongRecOn with
    | _ j ih =>
      intro z w a hn hI ha
      obtain ⟨e, a₁, w₁, hq, harr⟩ := round z w hI a ha b (.inLoop c :: k) cs hro hb hr
      cases e with
      | normal =>
        obtain ⟨z', ha', hI', hlt⟩ := hq
        obtain ⟨e₂, a₂, w₂, hq₂, harr₂⟩ := ih (μ z' w₁) (hn ▸ hlt) z' w₁ a₁ rfl hI' ha'
        exact ⟨e₂, a₂, w₂, hq₂, .of_steps (StepsIn.trans harr (.one (fenced_calm hb hr rfl) stepR_inLoop)) harr₂⟩
      | exit id => exact ⟨_, a₁, w₁, hq, .pass (x := .inLoop c) rfl (fun _ _ => .inl (by simp)) harr⟩
      | goto l => exact ⟨_, a₁, w₁, hq, .pass (x := .inLoop c) rfl (fun _ _ => .inl (by simp)) harr⟩
      | ret => exact ⟨_, a₁, w₁, hq, .pass (x := .inLoop c) rfl (fun _ _ => .inl (by simp)) harr⟩
      | panic ch => exact ⟨_, a₁, w₁, hq, .pass (x := .inLoop c) rfl (fun _ _ => .inl (by simp)) harr⟩
      | outgrown => exact ⟨_, a₁, w₁, hq, .pass (x := .inLoop c) rfl (fun _ _ => .inl (by simp)) harr⟩
  obtain ⟨e, a', w', hq, harr⟩ := key _ z w a rfl hI (ha.sub hs.subs)
  exact ⟨e, a', w', hq, .of_steps (.one (fenced_calm hb hr rfl) stepR_loop) harr⟩
theorem ci_loopK {c : Code} {α : Type} (ls : List Nat) {env0 : Env} (hp : pick env ls = some env0) (C : α → Env) (I : α → World → Prop) (μ : α → World → Nat) (z : α) (hs : SubE (C z ++ env0) env) (hI : I z w)
    (round : ∀ z w, I z w → WCI F n P f c (Exit.then (fun a' w' => ∃ z', Ag f (C z' ++ env0) a' ∧ I z' w' ∧ μ z' w' < μ z w) Q) (C z ++ env0) w) : WCI F n P f (.loop c) Q env w :=
  have _ := hp
  ci_loop I (fun z => C z ++ env0) μ z hs hI round
theorem fi_then {y : Code} (h : WCI F n P f y Q env w) : Fin f (Exit.then (y.wpIn F n P Q) Q) .normal env w := fun a ha => h a ha
end

/-! ### Regions whose order is open, within a fence -/
section
variable {F : Fence} {n : Nat} {P : Program}
theorem upon_in' (hF : WideF F) {o : Oper} {a : Act} {next : Act → World → Prop} {K : Act → World → Prop} {Q : Exit → Act → World → Prop} {r : Result Next} (h : o.upon P a next (NQ K) r) : o.uponIn F n P a next Q r := by
  refine upon_in hF ?_
  cases r with
  | ok x w' =>
    cases x <;> simp only [Oper.upon] at h ⊢
    all_goals first
      | exact h
      | exact Calls.mono h fun e w'' he => by cases e <;> first | exact he | exact he.elim
  | halt x w' =>
    cases x <;> simp only [Oper.upon] at h ⊢
    all_goals first
      | exact h
      | exact h.elim
theorem op_in (hF : WideF F) {ops : Array Oper} {Q : XPost} {K K' : Act → World → Prop} {i : Nat} {o : Oper} (ho : ops[i]? = some o) (hnd : nd o.op = true) {a : Act} {w : World}
    (h : if Region.wanted o (yielded ops a.tmps) then o.wp P a w K' (NQ K) ∨ (o.asks P a w ∧ LetsOut (NQ K)) else K' (a.put o.dst undef) w) : wpOpIn F n P ops Q i K' a w := by
  unfold wpOpIn
  simp only [ho]
  split
  · rename_i hw
    rw [if_pos hw] at h
    rcases h with h | ⟨_, _, _, hf⟩
    · refine ⟨fun g _ => hF.fn g, ?_⟩
      rw [Oper.semAt_eq _ _ _ (fun c e => by rw [e] at hnd; cases hnd)]
      exact upon_in' hF h
    · exact hf.elim
  · rename_i hw
    rw [if_neg hw] at h
    exact ⟨fun g _ => hF.fn g, h⟩
theorem nds_get {l : List Oper} (h : nds l = true) {i : Nat} {o : Oper} (ho : l.toArray[i]? = some o) : nd o.op = true := by
  have := List.all_eq_true.1 h o (List.mem_of_getElem? (by simpa using ho))
  simpa using this
theorem any_in (hF : WideF F) {l : List Oper} (hnd : nds l = true) {Q : XPost} {K : Act → World → Prop} (hQ : ∀ a w, K a w → Q .normal a w) : ∀ (fuel : Nat) (listed : Array Bool) (a : Act) (w : World),
    wpAny P .any l.toArray (NQ K) fuel listed a w → wpAnyIn F n P .any l.toArray Q fuel listed a w
  | 0, _, _, _, h => ⟨h.1, hQ _ _ h.2⟩
  | fuel + 1, listed, a, w, h => by
    refine ⟨fun h0 => hQ _ _ (h.1 h0), fun i hi => ?_⟩
    have h1 := h.2 i hi
    obtain ⟨_, o, ho, _⟩ := mem_ready.1 hi
    unfold wpOp at h1
    simp only [ho] at h1
    refine wpOpIn_mono (fun a' w' h2 => any_in hF hnd hQ fuel _ a' w' h2) (op_in hF ho (nds_get hnd ho) h1)
variable {f : Fs} {env : Env} {w : World}
theorem ci_draw (hF : WideF F) {Q : XPost} {id : Nat} {l : List Oper} (hnd : nds l = true) (hm : P.follows .mixedOrders = true) (nA : Nat) (pl : List (Nat × Bool)) (pb : List Nat) (S : Nat → Prop)
    (hok : (plansOk l.toArray (Nat.blt · nA) 0 pl pb [] && barOk l.toArray (Nat.blt · nA) [] && Region.noSelect l.toArray && Nat.beq (pl.length + pb.length) l.length) = true)
    (h : ∀ w1, Ext No w w1 → w1.heap.size = w.heap.size → WD P f l.toArray (Q .normal) ⟨(Nat.blt · nA), pb, Ext S w, [], 0⟩ pl [] env w1) : WCI F n P f (.region id l.toArray true) Q env w := by
  intro a ha
  simp only [Bool.and_eq_true] at hok
  obtain ⟨⟨⟨h1, h2⟩, h3⟩, h4⟩ := hok
  have hG := h _ (Ext.drew' w) rfl h1 ⟨h2, fun _ hj => (by cases hj), closed_nil _ _⟩ h3 (Ext.drew' w).no a ha
  have hl : pl.length + pb.length = l.toArray.size := by simpa using Nat.eq_of_beq_eq_true h4
  refine wpIn_region_any hm (any_in hF hnd (fun _ _ h => h) _ _ _ _ ?_)
  have := wpAny_of_G _ _ _ _ hG
  simp only [Nat.add_zero] at this
  rwa [hl] at this

/-! A part of the region ahead of a yield's call -/
def backOk (ops : Array Oper) : Bool := (List.range ops.size).all fun i => match ops[i]? with
  | some o => o.after.all fun e => !Region.binds .any e || Nat.blt e.on i
  | none => true
theorem backOk_spec {ops : Array Oper} (h : backOk ops = true) {i : Nat} {o : Oper} (ho : ops[i]? = some o) {e : Edge} (he : e ∈ o.after) (hb : Region.binds .any e = true) : e.on < i := by
  have hlt : i < ops.size := (Array.getElem?_eq_some_iff.1 ho).1
  have h1 := List.all_eq_true.1 h i (List.mem_range.2 hlt)
  simp only [ho] at h1
  rw [← Array.all_toList, List.all_eq_true] at h1
  have h2 := h1 e (by simpa using he)
  rw [hb] at h2
  exact Nat.le_of_ble_eq_true h2
theorem ready_nil {ops : Array Oper} {listed : Array Bool} (hsz : listed.size = ops.size) (hb : backOk ops = true) (h : Region.ready .any ops listed = []) : ∀ i, i < ops.size → listed.getD i true = true := by
  intro i
  induction i using Nat.strongRecOn with
  | _ i ih =>
    intro hi
    cases hv : listed.getD i true with
    | true => rfl
    | false =>
      have ho : ops[i]? = some ops[i] := by simp [hi]
      have : i ∈ Region.ready .any ops listed := mem_ready.2 ⟨hv, _, ho, fun e he hbd => by
        have hlt := backOk_spec hb ho he hbd
        have h1 := ih e.on hlt (by omega)
        rw [Array.getD_eq_getD_getElem?] at h1 ⊢
        have h2 : e.on < listed.size := by omega
        rw [Array.getElem?_eq_getElem h2] at h1 ⊢
        exact h1⟩
      rw [h] at this
      cases this
def tailOk (ops : Array Oper) (y : Nat) : Bool := (List.range ops.size).all fun j => Nat.blt j y || (List.range y).all fun i => reachB ops 16 j i
def guardOk (l : List Oper) : Bool := (List.range l.length).all fun i => match l[i]? with
  | some o => match o.guard with
    | some (j, _) => Nat.blt j i
    | none => true
  | none => true
theorem mk_getD (n : Nat) : ∀ (l : List Nat) (i : Nat), i < n → (mk n l).getD i true = decide (i ∈ l)
  | [], i, hi => by simp [mk, hi]
  | j :: l, i, hi => by
    have ih := mk_getD n l i hi
    by_cases e : j = i
    · subst e
      simp [mk, mk_size, hi]
    · rw [mk, getD_set_ne true e, ih]
      simp [Ne.symm e]
theorem yielded_take {l : List Oper} {y : Nat} {tmps : Array Value} {o : Oper} {i : Nat} (hi : i < y) (ho : l[i]? = some o) (hg : guardOk l = true) : Region.wanted o (yielded (l.take y).toArray tmps) = Region.wanted o (yielded l.toArray tmps) := by
  have hlt : i < l.length := (List.getElem?_eq_some_iff.1 ho).1
  have h1 := List.all_eq_true.1 hg i (List.mem_range.2 hlt)
  simp only [ho] at h1
  unfold Region.wanted
  cases hgd : o.guard with
  | none => rfl
  | some p =>
    obtain ⟨j, want⟩ := p
    rw [hgd] at h1
    have hj : j < i := Nat.le_of_ble_eq_true h1
    simp only
    unfold yielded
    have : (l.take y).toArray[j]? = l.toArray[j]? := by
      simp only [List.getElem?_toArray, List.getElem?_take]
      rw [if_pos (by omega)]
    rw [this]
theorem any_prefix (hF : WideF F) {l : List Oper} {y : Nat} (hnd : nds (l.take y) = true) (hy : y ≤ l.length) (hb : backOk (l.take y).toArray = true) (ht : tailOk l.toArray y = true) (hg : guardOk l = true) {Q : XPost} {K : Act → World → Prop} {t : Nat}
    (hK : ∀ a w, K a w → ∀ fuel, t ≤ fuel → wpAnyIn F n P .any l.toArray Q fuel (mk l.length (List.range y).reverse) a w) :
    ∀ (k : Nat) (listed' listed : Array Bool) (a : Act) (w : World), listed'.size = y → listed.size = l.length → (∀ i, i < y → listed.getD i true = listed'.getD i true) → (∀ i, y ≤ i → i < l.length → listed.getD i true = false) → Closed l.toArray listed →
      wpAny P .any (l.take y).toArray (NQ K) k listed' a w → wpAnyIn F n P .any l.toArray Q (k + t) listed a w := by
  have hsz' : (l.take y).toArray.size = y := by simp; omega
  have all_of : ∀ (listed' listed : Array Bool), listed'.size = y → listed.size = l.length → (∀ i, i < y → listed.getD i true = listed'.getD i true) → (∀ i, y ≤ i → i < l.length → listed.getD i true = false) → Region.ready .any (l.take y).toArray listed' = [] → listed = mk l.length (List.range y).reverse := by
    intro listed' listed h1 h2 h3 h4 h0
    have hall := ready_nil (h1.trans hsz'.symm) hb h0
    refine Array.ext (by rw [h2, mk_size]) fun i hi hi' => ?_
    have e1 : listed.getD i true = listed[i] := by simp [hi]
    have e2 : (mk l.length (List.range y).reverse).getD i true = (mk l.length (List.range y).reverse)[i] := by simp [hi']
    rw [← e1, ← e2, mk_getD _ _ _ (by omega)]
    by_cases hiy : i < y
    · rw [h3 i hiy, hall i (by omega)]
      simp [hiy]
    · rw [h4 i (by omega) (by omega)]
      simp [hiy]
  intro k
  induction k with
  | zero =>
    intro listed' listed a w h1 h2 h3 h4 hc h
    rw [all_of listed' listed h1 h2 h3 h4 h.1]
    exact hK a w h.2 _ (by omega)
  | succ k ih =>
    intro listed' listed a w h1 h2 h3 h4 hc h
    by_cases h0 : Region.ready .any (l.take y).toArray listed' = []
    · rw [all_of listed' listed h1 h2 h3 h4 h0]
      exact hK a w (h.1 h0) _ (by omega)
    obtain ⟨i0, hi0⟩ := List.exists_mem_of_ne_nil _ h0
    obtain ⟨hu0, o0, ho0, _⟩ := mem_ready.1 hi0
    have hi0y : i0 < y := by have := (Array.getElem?_eq_some_iff.1 ho0).1; omega
    have memb : ∀ i, i ∈ Region.ready .any l.toArray listed → i < y ∧ i ∈ Region.ready .any (l.take y).toArray listed' := by
      intro i hi
      obtain ⟨hu, o, ho, hall⟩ := mem_ready.1 hi
      have hilt : i < l.length := by have := (Array.getElem?_eq_some_iff.1 ho).1; simpa using this
      have hiy : i < y := by
        rcases Nat.lt_or_ge i y with h' | h'
        · exact h'
        · have h5 := List.all_eq_true.1 ht i (List.mem_range.2 (by simpa using hilt))
          have : Nat.blt i y = false := by cases hb' : Nat.blt i y with
            | false => rfl
            | true => have := Nat.le_of_ble_eq_true hb'; omega
          rw [this, Bool.false_or, List.all_eq_true] at h5
          have h6 := reachB_listed hc 16 ho hall (h5 i0 (List.mem_range.2 hi0y))
          have h7 := h3 i0 hi0y
          rw [hu0, Array.getD_eq_getD_getElem?] at h7
          rw [Array.getD_eq_getD_getElem?] at h6
          rw [Array.getElem?_eq_getElem (by omega)] at h6 h7
          simp only [Option.getD_some] at h6 h7
          rw [h6] at h7
          cases h7
      refine ⟨hiy, mem_ready.2 ⟨by rw [← h3 i hiy]; exact hu, o, ?_, fun e he hbd => ?_⟩⟩
      · simp only [List.getElem?_toArray, List.getElem?_take, if_pos hiy]
        simpa using ho
      · have ho' : (l.take y).toArray[i]? = some o := by
          simp only [List.getElem?_toArray, List.getElem?_take, if_pos hiy]
          simpa using ho
        have hlt := backOk_spec hb ho' he hbd
        have h8 := hall e he hbd
        have h9 := h3 e.on (by omega)
        rw [Array.getD_eq_getD_getElem?, Array.getD_eq_getD_getElem?] at h9
        rw [Array.getD_eq_getD_getElem?] at h8 ⊢
        rw [Array.getElem?_eq_getElem (by omega)] at h8 h9
        rw [Array.getElem?_eq_getElem (by omega)] at h9 ⊢
        simp only [Option.getD_some] at h8 h9 ⊢
        rw [← h9, h8]
    have hback : i0 ∈ Region.ready .any l.toArray listed := by
      obtain ⟨_, o, ho, hall⟩ := mem_ready.1 hi0
      have ho' : l.toArray[i0]? = some o := by
        simp only [List.getElem?_toArray, List.getElem?_take, if_pos hi0y] at ho
        simpa using ho
      refine mem_ready.2 ⟨by rw [h3 i0 hi0y]; exact hu0, o, ho', fun e he hbd => ?_⟩
      have hlt := backOk_spec hb ho he hbd
      have h8 := hall e he hbd
      have h9 := h3 e.on (by omega)
      rw [Array.getD_eq_getD_getElem?, Array.getD_eq_getD_getElem?] at h9
      rw [Array.getD_eq_getD_getElem?] at h8 ⊢
      rw [Array.getElem?_eq_getElem (by omega)] at h9 ⊢
      rw [Array.getElem?_eq_getElem (by omega)] at h8 h9
      simp only [Option.getD_some] at h8 h9 ⊢
      rw [h9, h8]
    rw [show k + 1 + t = (k + t) + 1 from by omega]
    refine ⟨fun h5 => (by rw [h5] at hback; cases hback), fun i hi => ?_⟩
    obtain ⟨hiy, hi'⟩ := memb i hi
    have h6 := h.2 i hi'
    obtain ⟨_, o, ho, _⟩ := mem_ready.1 hi
    have hol : l[i]? = some o := by simpa using ho
    have ho' : (l.take y).toArray[i]? = some o := by
      simp only [List.getElem?_toArray, List.getElem?_take, if_pos hiy]
      exact hol
    unfold wpOp at h6
    simp only [ho'] at h6
    rw [yielded_take hiy hol hg] at h6
    refine wpOpIn_mono (fun a' w' h7 => ih (listed'.setIfInBounds i true) (listed.setIfInBounds i true) a' w' (by simpa using h1) (by simpa using h2) (fun j hj => ?_) (fun j hj hj' => ?_) (hc.set hi) h7) (op_in hF ho (nds_get hnd ho') h6)
    · by_cases e : i = j
      · subst e
        simp [h1, h2, hiy, show i < l.length from by omega]
      · rw [getD_set_ne true e, getD_set_ne true e]
        exact h3 j hj
    · rw [getD_set_ne true (by omega)]
      exact h4 j hj hj'
/-- behind it, one after the other -/
def WBI (F : Fence) (n : Nat) (P : Program) (f : Fs) (ops : Array Oper) (Q : XPost) (pl : List Nat) (dn : List Nat) (env : Env) (w : World) : Prop :=
  planB ops pl dn = true → ∀ a, Ag f env a → ∀ fuel, pl.length ≤ fuel → wpAnyIn F n P .any ops Q fuel (mk ops.size dn) a w
variable {ops : Array Oper} {Q : XPost}
theorem wbi_nil {dn : List Nat} (h : Fin f Q .normal env w) : WBI F n P f ops Q [] dn env w := fun hp a ha fuel _ => by
  have h0 : Region.ready .any ops (mk ops.size dn) = [] := by simpa [planB] using hp
  cases fuel with
  | zero => exact ⟨h0, h a ha⟩
  | succ k => exact ⟨fun _ => h a ha, fun i hi => by rw [h0] at hi; cases hi⟩
theorem wbi {hF : WideF F} {i : Nat} {o : Oper} {pl dn : List Nat} (ho : ops[i]? = some o) (hnd : nd o.op = true) (h : St P f ops o env w (WBI F n P f ops Q pl (i :: dn))) : WBI F n P f ops Q (i :: pl) dn env w := by
  intro hp a ha fuel hfu
  have hlt : Nat.blt i ops.size = true := by
    have : i < ops.size := (Array.getElem?_eq_some_iff.1 ho).1
    simpa using this
  simp only [planB, hlt, Bool.and_eq_true, beq_iff_eq] at hp
  obtain ⟨hr, hp'⟩ := hp
  obtain ⟨k, rfl⟩ : ∃ k, fuel = k + 1 := ⟨fuel - 1, by simp at hfu; omega⟩
  refine ⟨fun h0 => (by rw [hr] at h0; cases h0), fun j hj => ?_⟩
  rw [hr] at hj
  obtain rfl : j = i := by simpa using hj
  exact op_in (K := fun _ _ => True) hF ho hnd (h a (NQ fun _ _ => True) _ ha fun env' a' w' ha' hK => hK hp' a' ha' k (by simp at hfu; omega))
theorem wbi_yield {i : Nat} {o : Oper} {pl dn : List Nat} (ho : ops[i]? = some o) {g : Nat} {x : Operand} {xs : Array Operand} {ts : Array TypeId} {d : Nat} {vs : List Value} {R : Bool → World → Prop} (hop : o.op = .call { callee := .value x, args := xs, argTypes := ts })
    (hg : takes ops env o = true) (hd : o.dst = some d) (hdn : Nat.blt d f.n = true) (hx : evO env x = some (.func (.yield g) #[] #[])) (hvs : evs env xs.toList = some vs)
    (hY : YieldAt Fence.wide (n - 1) P g vs.toArray w fun e w' => ∃ b, e = .returned (.bool b) ∧ R b w') (k : ∀ b w', R b w' → WBI Fence.wide n P f ops Q pl (i :: dn) ((d, .bool b) :: env) w') : WBI Fence.wide n P f ops Q (i :: pl) dn env w := by
  intro hp a ha fuel hfu
  have hlt : Nat.blt i ops.size = true := by
    have : i < ops.size := (Array.getElem?_eq_some_iff.1 ho).1
    simpa using this
  simp only [planB, hlt, Bool.and_eq_true, beq_iff_eq] at hp
  obtain ⟨hr, hp'⟩ := hp
  obtain ⟨m, rfl⟩ : ∃ k, fuel = k + 1 := ⟨fuel - 1, by simp at hfu; omega⟩
  refine ⟨fun h0 => (by rw [hr] at h0; cases h0), fun j hj => ?_⟩
  rw [hr] at hj
  obtain rfl : j = i := by simpa using hj
  unfold wpOpIn
  simp only [ho]
  rw [if_pos (takes_wanted ha hg)]
  have hevs : ∀ (l : List Operand) vs, evs env l = some vs → l.map a.eval = vs := by
    intro l
    induction l with
    | nil => intro vs h; simp [evs] at h; subst h; rfl
    | cons y r ih =>
      intro vs h
      simp only [evs] at h
      split at h
      · rename_i u hu
        split at h
        · rename_i l' hl'
          simp at h; subst h
          simp [ha.eval hu, ih _ hl']
        · simp at h
      · simp at h
  have h1 : xs.map a.eval = vs.toArray := by
    apply Array.ext'
    rw [Array.toList_map, hevs _ _ hvs]
  obtain ⟨fn, tmps, assign, body, hrr, hR⟩ := hY
  have hrun : (execOp a.eval o).run P w = .ok (.round g fn tmps assign body) w := by
    simp only [execOp, hop, resolve, h1, ha.eval hx, Deferred.ofValue, Sem.run_bind, Sem.run_pure, Result.andThen_ok, invoke]
    simpa using hrr
  refine ⟨fun _ _ => trivial, ?_⟩
  rw [Oper.semAt_eq _ _ _ (fun c e => by rw [hop] at e; cases e), hrun, Oper.uponIn_round]
  refine ⟨fun h => (by cases h), hR.mono ?_⟩
  rintro e w' ⟨b, rfl, hb⟩
  refine k b w' hb hp' _ ?_ m (by simp at hfu; omega)
  have := ha.put (dst := some d) (v := .bool b) (by rw [dOk]; exact hdn)
  rw [hd]
  exact this
/-- the region with a yield's call: the part ahead of it, then one after the other -/
theorem c_drawY {id : Nat} {l : List Oper} (y : Nat) (hm : P.follows .mixedOrders = true) (nA : Nat) (pl : List (Nat × Bool)) (pb : List Nat) (S : Nat → Prop)
    (hok : (plansOk (l.take y).toArray (Nat.blt · nA) 0 pl pb [] && barOk (l.take y).toArray (Nat.blt · nA) [] && Region.noSelect (l.take y).toArray && Nat.beq (pl.length + pb.length) y) = true)
    (hY : (Nat.ble y l.length && nds (l.take y) && backOk (l.take y).toArray && tailOk l.toArray y && guardOk l) = true) (tl : List Nat) (htl : Nat.beq (y + tl.length) l.length = true)
    (h : ∀ w1, Ext No w w1 → w1.heap.size = w.heap.size → WD P f (l.take y).toArray (NQ (fun a w => ∀ fuel, tl.length ≤ fuel → wpAnyIn Fence.wide 9 P .any l.toArray Q fuel (mk l.length (List.range y).reverse) a w) .normal) ⟨(Nat.blt · nA), pb, Ext S w, [], 0⟩ pl [] env w1) : WC P f (.region id l.toArray true) Q env w := by
  intro a ha
  have htl := Nat.eq_of_beq_eq_true htl
  simp only [Bool.and_eq_true] at hok hY
  obtain ⟨⟨⟨h1, h2⟩, h3⟩, h4⟩ := hok
  obtain ⟨⟨⟨⟨y1, y2⟩, y3⟩, y4⟩, y5⟩ := hY
  have hyl := Nat.le_of_ble_eq_true y1
  have hG := h _ (Ext.drew' w) rfl h1 ⟨h2, fun _ hj => (by cases hj), closed_nil _ _⟩ h3 (Ext.drew' w).no a ha
  have hl : pl.length + pb.length = y := Nat.eq_of_beq_eq_true h4
  have hany := wpAny_of_G _ _ _ _ hG
  simp only [Nat.add_zero] at hany
  have hsz : (l.take y).toArray.size = y := by simp; omega
  refine wpIn_wide.1 (wpIn_region_any (n := 9) hm ?_)
  have e1 : mk (l.take y).toArray.size [] = Array.replicate y false := by rw [hsz]; rfl
  rw [e1, hl] at hany
  have := any_prefix (n := 9) WideF.none y2 hyl y3 y4 y5 (Q := Q) (t := tl.length) (fun a w h => h) y (Array.replicate y false) (Array.replicate l.length false) a _ (by simp) (by simp) (fun i hi => by simp [hi, show i < l.length from by omega]) (fun i _ hi => by simp [hi]) (closed_nil l.toArray l.length) hany
  rw [htl] at this
  simpa using this
theorem f_tail {y : Nat} {l : List Oper} {tl : List Nat} (hp : planB l.toArray tl (List.range y).reverse = true) (h : WBI Fence.wide 9 P f l.toArray Q tl (List.range y).reverse env w) :
    Fin f (NQ (fun a w => ∀ fuel, tl.length ≤ fuel → wpAnyIn Fence.wide 9 P .any l.toArray Q fuel (mk l.length (List.range y).reverse) a w)) .normal env w := fun a ha => h hp a ha
end

/-! ### Iterators -/
/-- who takes what an iterator hands over: l its loop's record; n0: what lay when the iterator began is below; F: all that a round may turn -/
structure Cons (P : Program) (l n0 N : Nat) (args : Nat → Array Value) (J Jx : Nat → (Nat → Prop) → World → Prop) : Prop where
  st : ∀ {k : Nat} {F S : Nat → Prop} {w w' : World}, J k F w → Ext S w w' → (∀ x, S x → n0 ≤ x ∧ ¬ F x) → J k F w'
  stx : ∀ {k : Nat} {F S : Nat → Prop} {w w' : World}, Jx k F w → Ext S w w' → (∀ x, S x → n0 ≤ x ∧ ¬ F x) → Jx k F w'
  lt : ∀ {k : Nat} {F : Nat → Prop} {w : World}, J k F w → ∀ x, F x → x < w.heap.size
  ltx : ∀ {k : Nat} {F : Nat → Prop} {w : World}, Jx k F w → ∀ x, F x → x < w.heap.size
  round : ∀ {k : Nat} {F : Nat → Prop} {w : World}, J k F w → k < N → YieldAt Fence.wide 8 P l (args k) w fun e w' => ∃ b, e = .returned (.bool b) ∧ ∃ F' : Nat → Prop, Ext F w w' ∧ (∀ x, F' x → F x ∨ w.heap.size ≤ x) ∧ (b = true → J (k + 1) F' w') ∧ (b = false → Jx k F' w')
/-- a function that hands over so many things and no more, if it is not stopped; own: what it looks at -/
def Iter (P : Program) (gf : Nat) (cap : List Value) (N : Nat) (args : Nat → Array Value) (own : Nat → Prop) (w : World) : Prop :=
  ∀ (l : Nat) (J Jx : Nat → (Nat → Prop) → World → Prop) (F : Nat → Prop), Cons P l w.heap.size N args J Jx → J 0 F w → (∀ x, own x → ¬ F x) →
    CallsV P gf (.func (.yield l) #[] #[] :: cap) w fun _ w' => ∃ F' : Nat → Prop, Ext F w w' ∧ (∀ x, F' x → F x ∨ w.heap.size ≤ x) ∧ (J N F' w' ∨ ∃ k, k < N ∧ Jx k F' w')

/-- what a loop's body keeps between its rounds, and how it is left: z its own state; Fp: the blocks that it may turn -/
structure CoS (α : Type) (w : World) where
  Fp : α → Nat → Prop
  J : Nat → α → World → Prop
  Jx : Nat → Code → α → World → Prop
  st : ∀ {k : Nat} {z : α} {S : Nat → Prop} {u u' : World}, J k z u → Ext S u u' → (∀ x, S x → w.heap.size ≤ x ∧ ¬ Fp z x) → J k z u'
  stx : ∀ {k : Nat} {c : Code} {z : α} {S : Nat → Prop} {u u' : World}, Jx k c z u → Ext S u u' → (∀ x, S x → w.heap.size ≤ x ∧ ¬ Fp z x) → Jx k c z u'
  lt : ∀ {k : Nat} {z : α} {u : World}, J k z u → ∀ x, Fp z x → x < u.heap.size
  ltx : ∀ {k : Nat} {c : Code} {z : α} {u : World}, Jx k c z u → ∀ x, Fp z x → x < u.heap.size
abbrev mark0 : Obj := .deferred (some [])
abbrev busy (r : Loop) : Loop := { r with state := .busy }
section
variable {α : Type} {w : World} {P : Program}
def CJ (C : CoS α w) (z0 : α) (l D : Nat) (r : Loop) (k : Nat) (F : Nat → Prop) (u : World) : Prop :=
  ∃ z, F = (fun x => C.Fp z x ∨ x = l ∨ x = D) ∧ C.J k z u ∧ (∀ x, C.Fp z x → x ≠ l ∧ x ≠ D) ∧ u.heap[l]? = some (.loop r) ∧ u.heap[D]? = some mark0 ∧ Ext (C.Fp z0) w u ∧ (∀ x, C.Fp z x → C.Fp z0 x ∨ w.heap.size ≤ x)
def CJx (C : CoS α w) (z0 : α) (l D : Nat) (r : Loop) (k : Nat) (F : Nat → Prop) (u : World) : Prop :=
  ∃ c z, F = (fun x => C.Fp z x ∨ x = l ∨ x = D) ∧ C.Jx k c z u ∧ (∀ x, C.Fp z x → x ≠ l ∧ x ≠ D) ∧ u.heap[l]? = some (.loop { r with state := .done, pending := some c }) ∧ u.heap[D]? = some mark0 ∧ Ext (C.Fp z0) w u ∧ (∀ x, C.Fp z x → C.Fp z0 x ∨ w.heap.size ≤ x)
/-- what a round may lean on -/
structure RdC (C : CoS α w) (z0 : α) (l D : Nat) (r : Loop) (z : α) (W : World) : Prop where
  rd : r.state = .ready
  pe : r.pending = none
  ne : l ≠ D
  lo : w.heap.size ≤ l ∧ w.heap.size ≤ D
  fp : ∀ x, C.Fp z x → x ≠ l ∧ x ≠ D
  l : W.heap[l]? = some (.loop r)
  D : W.heap[D]? = some mark0
  X : Ext (C.Fp z0) w W
  sub : ∀ x, C.Fp z x → C.Fp z0 x ∨ w.heap.size ≤ x
/-- what is asked at its end -/
def RdQ (C : CoS α w) (z0 : α) (l D : Nat) (r : Loop) (k : Nat) (z : α) (W : World) : Ending → World → Prop := fun e w' =>
  ∃ b, e = .returned (.bool b) ∧ ∃ F' : Nat → Prop, Ext (fun x => C.Fp z x ∨ x = l ∨ x = D) W w' ∧ (∀ x, F' x → (C.Fp z x ∨ x = l ∨ x = D) ∨ W.heap.size ≤ x) ∧ (b = true → CJ C z0 l D r (k + 1) F' w') ∧ (b = false → CJx C z0 l D r k F' w')
theorem heap_lt {W : World} {x : Nat} {o : Obj} (h : W.heap[x]? = some o) : x < W.heap.size := (Array.getElem?_eq_some_iff.1 h).1
variable {C : CoS α w} {z0 : α} {l D : Nat} {r : Loop} {k : Nat} {z : α} {W : World} {f : Fs} {env : Env} {u : World}
theorem RdC.ends (h : RdC C z0 l D r z W) (hE : Ext (fun x => C.Fp z x ∨ x = l) W u) {z' : α} (hF : ∀ x, C.Fp z' x → C.Fp z x ∨ W.heap.size ≤ x) :
    u.heap[D]? = some mark0 ∧ (∀ x, C.Fp z' x → x ≠ l ∧ x ≠ D) ∧ Ext (C.Fp z0) w u ∧ (∀ x, C.Fp z' x → C.Fp z0 x ∨ w.heap.size ≤ x) := by
  refine ⟨(hE.same _ (heap_lt h.D) fun e => e.elim (fun e => (h.fp _ e).2 rfl) fun e => h.ne e.symm).trans h.D, fun x hx => ?_, h.X.trans hE fun x hx e => ?_, fun x hx => ?_⟩
  · rcases hF x hx with hx | hx
    · exact h.fp x hx
    · exact ⟨fun e => by have := heap_lt h.l; omega, fun e => by have := heap_lt h.D; omega⟩
  · rcases e with e | e
    · exact (h.sub x e).resolve_right (by omega)
    · have := h.lo.1; omega
  · rcases hF x hx with hx | hx
    · exact h.sub x hx
    · exact .inr (Nat.le_trans h.X.size hx)
theorem fin_next (z' : α) (h : RdC C z0 l D r z W) (hl : u.heap[l]? = some (.loop (busy r))) (hE : Ext (fun x => C.Fp z x ∨ x = l) W u) (hF : ∀ x, C.Fp z' x → C.Fp z x ∨ W.heap.size ≤ x) (hJ : C.J (k + 1) z' u) :
    Fin f (roundPost P l (RdQ C z0 l D r k z W)) .normal env u := by
  intro a _
  obtain ⟨h1, h2, h3, h4⟩ := h.ends hE hF
  have hE2 : Ext (One l) u (u.putObj l (.loop { busy r with state := if (none : Option Code).isNone then .ready else .done, pending := none })) := Ext.putObj hl rfl rfl
  refine ⟨_, _, run_endRound none hl, true, rfl, fun x => C.Fp z' x ∨ x = l ∨ x = D, ?_, fun x hx => ?_, fun _ => ?_, fun e => by cases e⟩
  · exact (hE.mono fun x _ e => e.imp id .inl).then (hE2.mono fun x _ e => .inr (.inl e))
  · rcases hx with hx | hx
    · exact (hF x hx).imp .inl id
    · exact .inl (.inr hx)
  · refine ⟨z', rfl, C.st hJ hE2 fun x e => ?_, h2, ?_, ?_, h3.trans hE2 fun x hx e => ?_, h4⟩
    · have e : x = l := e
      subst e
      exact ⟨h.lo.1, fun e => (h2 _ e).1 rfl⟩
    · rw [World.putObj_heap_same (heap_lt hl)]
      have e1 := h.rd
      have e2 := h.pe
      cases r
      cases e1
      cases e2
      rfl
    · exact (World.putObj_heap_other h.ne.symm).trans h1
    · have e : x = l := e
      have := h.lo.1
      omega
theorem fin_stop {c : Code} {e : Exit} (hc : (e = .ret ∧ c = .ret) ∨ ∃ id, e = .exit id ∧ c = .exit id) (z' : α) (h : RdC C z0 l D r z W) (hl : u.heap[l]? = some (.loop (busy r))) (hE : Ext (fun x => C.Fp z x ∨ x = l) W u) (hF : ∀ x, C.Fp z' x → C.Fp z x ∨ W.heap.size ≤ x) (hJ : C.Jx k c z' u) :
    Fin f (roundPost P l (RdQ C z0 l D r k z W)) e env u := by
  intro a _
  obtain ⟨h1, h2, h3, h4⟩ := h.ends hE hF
  have hE2 : Ext (One l) u (u.putObj l (.loop { busy r with state := if (some c : Option Code).isNone then .ready else .done, pending := some c })) := Ext.putObj hl rfl rfl
  have key : ∃ v w', (Instr.endRound l (some c)).run P u = .ok v w' ∧ RdQ C z0 l D r k z W (.returned v) w' := by
    refine ⟨_, _, run_endRound (some c) hl, false, rfl, fun x => C.Fp z' x ∨ x = l ∨ x = D, ?_, fun x hx => ?_, (fun e => by cases e), fun _ => ?_⟩
    · exact (hE.mono fun x _ e => e.imp id .inl).then (hE2.mono fun x _ e => .inr (.inl e))
    · rcases hx with hx | hx
      · exact (hF x hx).imp .inl id
      · exact .inl (.inr hx)
    · refine ⟨c, z', rfl, C.stx hJ hE2 fun x e => ?_, h2, ?_, ?_, h3.trans hE2 fun x hx e => ?_, h4⟩
      · have e : x = l := e
        subst e
        exact ⟨h.lo.1, fun e => (h2 _ e).1 rfl⟩
      · exact World.putObj_heap_same (heap_lt hl)
      · exact (World.putObj_heap_other h.ne.symm).trans h1
      · have e : x = l := e
        have := h.lo.1
        omega
  rcases hc with ⟨rfl, rfl⟩ | ⟨id, rfl, rfl⟩
  · exact key
  · exact key
/-- between the assignment and the body -/
theorem fin_begin {R : Ending → World → Prop} {body : Code} (h : RdC C z0 l D r z W) (hl : u.heap[l]? = some (.loop r)) (hb : ∀ u', Ext (One l) u u' → u'.heap[l]? = some (.loop (busy r)) → WCI (Fence.wide.inRound l) 8 P f body (roundPost P l R) env u') :
    Fin f (Exit.then (fun a1 w1 => ∃ w2, (Instr.beginRound l).run P w1 = .ok () w2 ∧ body.wpIn (Fence.wide.inRound l) 8 P (roundPost P l R) a1 w2) (fun _ _ _ => False)) .normal env u := fun a ha =>
  begin_round hl h.rd fun w' hE hl' => hb w' hE hl' a ha
def penv : List Tmp → List Value → Env → Env
  | t :: ts, v :: vs, e => penv ts vs ((t, v) :: e)
  | _, _, e => e
theorem ag_fold : ∀ (ts : List Tmp) (vs : List Value) (env : Env) (tmps : Array Value), ts.all (fun t => Nat.blt t f.n) = true → tmps.size = f.n → (∀ i v, lk env i = some v → tmps[i]? = some v) →
    ((ts.zip vs).foldl (fun tmps (x : Tmp × Value) => tmps.setIfInBounds x.1 x.2) tmps).size = f.n ∧ ∀ i v, lk (penv ts vs env) i = some v → ((ts.zip vs).foldl (fun tmps (x : Tmp × Value) => tmps.setIfInBounds x.1 x.2) tmps)[i]? = some v
  | [], vs, env, tmps, _, hs, h => ⟨hs, by cases vs <;> exact h⟩
  | t :: ts, [], env, tmps, _, hs, h => ⟨hs, h⟩
  | t :: ts, v :: vs, env, tmps, ht, hs, h => by
    simp only [List.all_cons, Bool.and_eq_true] at ht
    have htn : t < f.n := Nat.le_of_ble_eq_true ht.1
    refine ag_fold ts vs ((t, v) :: env) (tmps.setIfInBounds t v) ht.2 (by simpa using hs) fun i u hi => ?_
    rw [lk_cons] at hi
    split at hi
    · rename_i e
      subst e
      cases hi
      simp [hs, htn]
    · rename_i e
      rw [Array.getElem?_setIfInBounds_ne e]
      exact h i u hi
theorem c_rangeX {Q : XPost} {g : Operand} {ps : Array Tmp} {assign body : Code} {gf : Nat} {cap : Array Value}
    (hg : evO env g = some (.func (.func gf) #[] cap)) (hcf : ∀ args w, (callFunc gf args).run P w = .ok (.enter gf args) w)
    (H : ∀ (fn : FuncId) (a : Act), Ag f env a → ∀ rec : Loop, rec = { state := .ready, pending := none, fn, tmps := a.tmps, params := ps, assign, body, defers := w.heap.size } →
      ∀ w1, Ext No w w1 → w1.heap[w.heap.size + 1]? = some (.loop rec) → w1.heap[w.heap.size]? = some mark0 → w1.heap.size = w.heap.size + 2 →
      CallsV P gf (.func (.yield (w.heap.size + 1)) #[] #[] :: cap.toList) w1 fun _ w2 => ∃ r2, w2.heap[w.heap.size + 1]? = some (.loop r2) ∧ r2.state ≠ .busy ∧ w2.heap[w.heap.size]? = some mark0 ∧
        ∀ w3, Ext (One (w.heap.size + 1)) w2 w3 → w3.heap[w.heap.size]? = some mark0 → (r2.pending = none → Fin ⟨f.n, { target := .collected w.heap.size, args := #[] } :: f.ds⟩ Q .normal env w3) ∧
          ∀ c, r2.pending = some c → WC P ⟨f.n, { target := .collected w.heap.size, args := #[] } :: f.ds⟩ c Q env w3) :
    WC P f (.rangeFunc g ps assign body) Q env w := by
  intro a ha
  refine (wpIn_wide (n := 9)).1 (wpIn_rangeFunc fun fn _ => ?_)
  obtain ⟨rec, hrec⟩ : ∃ rec : Loop, rec = { state := .ready, pending := none, fn, tmps := a.tmps, params := ps, assign, body, defers := w.heap.size } := ⟨_, rfl⟩
  have e0 : Ext No w (w.alloc (.deferred (some []))) := Ext.allocObj w rfl
  have e1 : Ext No (w.alloc (.deferred (some []))) ((w.alloc (.deferred (some []))).alloc (.loop rec)) := Ext.allocObj _ rfl
  have hL : ((w.alloc (.deferred (some []))).alloc (.loop rec)).heap[w.heap.size + 1]? = some (.loop rec) := by
    have := World.alloc_heap_new (w.alloc (.deferred (some []))) (.loop rec); rwa [World.size_alloc] at this
  have hD : ((w.alloc (.deferred (some []))).alloc (.loop rec)).heap[w.heap.size]? = some (.deferred (some [])) :=
    (e1.same _ (by simp) id).trans (World.alloc_heap_new w _)
  refine ⟨w.heap.size + 1, [{ target := .collected w.heap.size, args := #[] }], (w.alloc (.deferred (some []))).alloc (.loop rec), { target := .fn (.func gf) cap, args := #[.func (.yield (w.heap.size + 1)) #[] #[]] }, (w.alloc (.deferred (some []))).alloc (.loop rec), gf,
    #[.func (.yield (w.heap.size + 1)) #[] #[]] ++ cap, (w.alloc (.deferred (some []))).alloc (.loop rec), ?_, ?_, fun _ _ => trivial, ?_, fun h => (by cases h), ?_⟩
  · rw [hrec]; exact run_enterLoop_outer _ _ _ _ _
  · have hev := ha.eval hg
    simp only [resolve, hev]
    simp [Deferred.ofValue, Act.eval]
  · simp [invoke, hcf]
  · have hc := H fn a ha rec hrec _ (e0.thenNo e1) hL hD (by simp)
    have e2 : (#[.func (.yield (w.heap.size + 1)) #[] #[]] ++ cap : Array Value) = (.func (.yield (w.heap.size + 1)) #[] #[] :: cap.toList).toArray := by
      apply Array.ext'; simp
    rw [e2]
    refine (WideF.none.calls hc).mono ?_
    rintro e w2 he
    cases e with
    | returned v =>
      obtain ⟨r2, hl2, hb2, hd2, hk⟩ := he
      have hend := run_endLoop (P := P) hl2 hb2
      have hd3 : (w2.putObj (w.heap.size + 1) (.loop { r2 with state := .exhausted })).heap[w.heap.size]? = some mark0 := (World.putObj_heap_other (by omega)).trans hd2
      have hE3 : Ext (One (w.heap.size + 1)) w2 (w2.putObj (w.heap.size + 1) (.loop { r2 with state := .exhausted })) := Ext.putObj hl2 rfl rfl
      generalize w2.putObj (w.heap.size + 1) (.loop { r2 with state := .exhausted }) = w3 at hend hd3 hE3
      obtain ⟨hk1, hk2⟩ := hk _ hE3 hd3
      have hag : Ag ⟨f.n, { target := .collected w.heap.size, args := #[] } :: f.ds⟩ env { a with defers := [{ target := .collected w.heap.size, args := #[] }] ++ a.defers } := ⟨by simp [ha.defers], ha.size, ha.get⟩
      refine ⟨_, _, hend, ?_⟩
      split
      · rename_i hp; exact hk1 hp _ hag
      · rename_i c hp; exact wpIn_wide.2 (hk2 c hp _ hag)
    | panicked ch => exact he.elim
    | outgrown => exact he.elim
/-- the statement, over an iterator -/
theorem c_iter (C : CoS α w) (z0 : α) {Q : XPost} {g : Operand} {ps : Array Tmp} {assign body : Code} {gf : Nat} {cap : Array Value} {N : Nat} {args : Nat → Array Value} {own : Nat → Prop}
    (hg : evO env g = some (.func (.func gf) #[] cap)) (hcf : ∀ args w, (callFunc gf args).run P w = .ok (.enter gf args) w)
    (hps : ps.toList.all (fun t => Nat.blt t f.n) = true) (hpn : ∀ k, (args k).size = ps.size)
    (hit : ∀ w1, Ext No w w1 → Iter P gf cap.toList N args own w1) (hown : ∀ x, own x → x < w.heap.size ∧ ¬ C.Fp z0 x) (h0 : C.J 0 z0 w)
    (hround : ∀ (l D : Nat) (r : Loop) (k : Nat) (z : α) (W : World), RdC C z0 l D r z W → C.J k z W → k < N →
      WCI (Fence.wide.inRound l) 8 P ⟨f.n, []⟩ assign (Exit.then (fun a1 w1 => ∃ w2, (Instr.beginRound l).run P w1 = .ok () w2 ∧ body.wpIn (Fence.wide.inRound l) 8 P (roundPost P l (RdQ C z0 l D r k z W)) a1 w2) (fun _ _ _ => False)) (penv ps.toList (args k).toList env) W)
    (hdone : ∀ (D : Nat) (z : α) (W : World), C.J N z W → Ext (C.Fp z0) w W → (∀ x, C.Fp z x → C.Fp z0 x ∨ w.heap.size ≤ x) → w.heap.size ≤ D → W.heap[D]? = some mark0 → (∀ x, C.Fp z x → x ≠ D) →
      Fin ⟨f.n, { target := .collected D, args := #[] } :: f.ds⟩ Q .normal env W)
    (hstop : ∀ (D : Nat) (k : Nat) (c : Code) (z : α) (W : World), k < N → C.Jx k c z W → Ext (C.Fp z0) w W → (∀ x, C.Fp z x → C.Fp z0 x ∨ w.heap.size ≤ x) → w.heap.size ≤ D → W.heap[D]? = some mark0 → (∀ x, C.Fp z x → x ≠ D) →
      WC P ⟨f.n, { target := .collected D, args := #[] } :: f.ds⟩ c Q env W) :
    WC P f (.rangeFunc g ps assign body) Q env w := by
  refine c_rangeX hg hcf fun fn a ha rec hrec w1 hE1 hl1 hd1 hs1 => ?_
  have hlD : w.heap.size + 1 ≠ w.heap.size := by omega
  have hst : rec.state = .ready := by rw [hrec]
  have hpe : rec.pending = none := by rw [hrec]
  have hcons : Cons P (w.heap.size + 1) w1.heap.size N args (CJ C z0 (w.heap.size + 1) w.heap.size rec) (CJx C z0 (w.heap.size + 1) w.heap.size rec) := by
    refine ⟨?_, ?_, ?_, ?_, ?_⟩
    · rintro k F S u u' ⟨z, rfl, h1, h2, h3, h4, h5, h6⟩ hE hS
      have hS1 : ∀ x, S x → w.heap.size ≤ x ∧ ¬ C.Fp z x := fun x hx => ⟨by have := (hS x hx).1; omega, fun e => (hS x hx).2 (.inl e)⟩
      exact ⟨z, rfl, C.st h1 hE hS1, h2, (hE.same _ (heap_lt h3) fun e => (hS _ e).2 (.inr (.inl rfl))).trans h3, (hE.same _ (heap_lt h4) fun e => (hS _ e).2 (.inr (.inr rfl))).trans h4, h5.trans hE fun x hx e => by have := (hS1 x e).1; omega, h6⟩
    · rintro k F S u u' ⟨c, z, rfl, h1, h2, h3, h4, h5, h6⟩ hE hS
      have hS1 : ∀ x, S x → w.heap.size ≤ x ∧ ¬ C.Fp z x := fun x hx => ⟨by have := (hS x hx).1; omega, fun e => (hS x hx).2 (.inl e)⟩
      exact ⟨c, z, rfl, C.stx h1 hE hS1, h2, (hE.same _ (heap_lt h3) fun e => (hS _ e).2 (.inr (.inl rfl))).trans h3, (hE.same _ (heap_lt h4) fun e => (hS _ e).2 (.inr (.inr rfl))).trans h4, h5.trans hE fun x hx e => by have := (hS1 x e).1; omega, h6⟩
    · rintro k F u ⟨z, rfl, h1, h2, h3, h4, h5, h6⟩ x hx
      rcases hx with hx | rfl | rfl
      · exact C.lt h1 x hx
      · exact heap_lt h3
      · exact heap_lt h4
    · rintro k F u ⟨c, z, rfl, h1, h2, h3, h4, h5, h6⟩ x hx
      rcases hx with hx | rfl | rfl
      · exact C.ltx h1 x hx
      · exact heap_lt h3
      · exact heap_lt h4
    · rintro k F u ⟨z, rfl, h1, h2, h3, h4, h5, h6⟩ hk
      have hy := run_yield (P := P) (args := args k) h3 (by rw [hrec]; exact hpn k)
      refine ⟨_, _, _, _, hy, roundIn_of_wpIn trivial ?_⟩
      have hA : rec.assign = assign := by rw [hrec]
      have hB : rec.body = body := by rw [hrec]
      have hT : rec.tmps = a.tmps := by rw [hrec]
      have hP : rec.params = ps := by rw [hrec]
      rw [hA, hB, hT, hP]
      obtain ⟨g1, g2⟩ := ag_fold (f := ⟨f.n, []⟩) ps.toList (args k).toList env a.tmps hps ha.size ha.get
      refine hround (w.heap.size + 1) w.heap.size rec k z u ⟨hst, hpe, hlD, ⟨by omega, Nat.le_refl _⟩, h2, h3, h4, h5, h6⟩ h1 hk _ ⟨rfl, ?_, fun i v hi => ?_⟩
      · rw [← Array.foldl_toList, Array.toList_zip]; exact g1
      · show (Array.foldl _ a.tmps (ps.zip (args k)))[i]? = some v
        rw [← Array.foldl_toList, Array.toList_zip]; exact g2 i v hi
  have hj0 : CJ C z0 (w.heap.size + 1) w.heap.size rec 0 (fun x => C.Fp z0 x ∨ x = w.heap.size + 1 ∨ x = w.heap.size) w1 :=
    ⟨z0, rfl, C.st h0 hE1 fun x e => e.elim, fun x hx => ⟨fun e => by have := C.lt h0 x hx; omega, fun e => by have := C.lt h0 x hx; omega⟩, hl1, hd1, hE1.no, fun x hx => .inl hx⟩
  refine (hit w1 hE1 (w.heap.size + 1) _ _ _ hcons hj0 fun x hx => ?_).mono ?_
  · have := hown x hx
    rintro (e | e | e)
    · exact this.2 e
    · omega
    · omega
  · rintro _ w2 ⟨F', hE2, hF', ⟨z, rfl, h1, h2, h3, h4, h5, h6⟩ | ⟨k, hk, c, z, rfl, h1, h2, h3, h4, h5, h6⟩⟩
    · refine ⟨rec, h3, by rw [hst]; decide, h4, fun w3 hE3 hd3 => ⟨fun _ => ?_, fun c hc => by rw [hpe] at hc; cases hc⟩⟩
      have hS1 : ∀ x, One (w.heap.size + 1) x → w.heap.size ≤ x ∧ ¬ C.Fp z x := fun x hx => by
        have hx : x = w.heap.size + 1 := hx
        exact ⟨by omega, fun e => (h2 x e).1 hx⟩
      exact hdone _ z w3 (C.st h1 hE3 hS1) (h5.trans hE3 fun x hx e => by have := (hS1 x e).1; omega) h6 (Nat.le_refl _) hd3 fun x hx => (h2 x hx).2
    · refine ⟨_, h3, (fun e => by cases e), h4, fun w3 hE3 hd3 => ⟨fun hc => (by cases hc), fun c' hc => ?_⟩⟩
      cases hc
      have hS1 : ∀ x, One (w.heap.size + 1) x → w.heap.size ≤ x ∧ ¬ C.Fp z x := fun x hx => by
        have hx : x = w.heap.size + 1 := hx
        exact ⟨by omega, fun e => (h2 x e).1 hx⟩
      exact hstop _ k c z w3 hk (C.stx h1 hE3 hS1) (h5.trans hE3 fun x hx e => by have := (hS1 x e).1; omega) h6 (Nat.le_refl _) hd3 fun x hx => (h2 x hx).2
end
/-- a loop, round by round -/
def LW (P : Program) (c : Code) (Q : XPost) (a : Act) (w : World) : Prop :=
  ∀ (b : Frame) (k : List Item) (cs : List Frame), ∃ e a' w', Q e a' w' ∧ Arrives P (lone (b.at a (.code c :: .inLoop c :: k)) cs w) b k cs e a' w'
theorem lw_of {P : Program} {Q : XPost} {c : Code} {a : Act} {w : World} (h : c.wp P (Exit.then (LW P c Q) Q) a w) : LW P c Q a w := by
  intro b k cs
  obtain ⟨e, a₁, w₁, hq, harr⟩ := h b (.inLoop c :: k) cs
  cases e with
  | normal =>
    obtain ⟨e₂, a₂, w₂, hq₂, harr₂⟩ := hq b k cs
    exact ⟨e₂, a₂, w₂, hq₂, .of_steps (Steps.trans harr (.one step_inLoop)) harr₂⟩
  | exit id => exact ⟨_, a₁, w₁, hq, .pass (x := .inLoop c) rfl (fun _ _ => .inl (by simp)) harr⟩
  | goto l => exact ⟨_, a₁, w₁, hq, .pass (x := .inLoop c) rfl (fun _ _ => .inl (by simp)) harr⟩
  | ret => exact ⟨_, a₁, w₁, hq, .pass (x := .inLoop c) rfl (fun _ _ => .inl (by simp)) harr⟩
  | panic ch => exact ⟨_, a₁, w₁, hq, .pass (x := .inLoop c) rfl (fun _ _ => .inl (by simp)) harr⟩
  | outgrown => exact ⟨_, a₁, w₁, hq, .pass (x := .inLoop c) rfl (fun _ _ => .inl (by simp)) harr⟩
theorem c_loopU {P : Program} {f : Fs} {Q : XPost} {env : Env} {w : World} {c : Code} (h : WC P f c (Exit.then (LW P c Q) Q) env w) : WC P f (.loop c) Q env w := fun a ha b k cs =>
  let ⟨e, a', w', hq, harr⟩ := lw_of (h a ha) b k cs
  ⟨e, a', w', hq, .of_steps (.one step_loop) harr⟩
theorem f_again {P : Program} {f : Fs} {Q : XPost} {env : Env} {w : World} {c : Code} (h : WC P f c (Exit.then (LW P c Q) Q) env w) : Fin f (Exit.then (LW P c Q) Q) .normal env w := fun a ha => lw_of (h a ha)

/-! ### A function's end with marks, and with a deferred call -/
theorem leaves_marks {P : Program} {fn : Func} {tmps : Array Value} {R : Ending → World → Prop} : ∀ (Ds : List Nat) (w : World), Ds.Nodup → (∀ D ∈ Ds, w.heap[D]? = some mark0) →
    (∀ w', Ext (fun x => x ∈ Ds) w w' → LeavesInM Fence.wide 9 P fn tmps R [] .returning w') →
    LeavesInM Fence.wide 9 P fn tmps R (Ds.map fun D => { target := .collected D, args := #[] }) .returning w
  | [], w, _, _, k => k w (Ext.refl _ _)
  | D :: Ds, w, hn, hD, k => by
    have hd := hD D (by simp)
    have hE : Ext (One D) w (w.putObj D (.deferred none)) := Ext.putObj hd rfl rfl
    simp only [List.nodup_cons] at hn
    refine ⟨by simp, .inl ⟨D, _, rfl, run_takeDeferred hd, ?_⟩⟩
    refine leaves_marks Ds _ hn.2 (fun D' hD' => ?_) fun w' hE' => k w' ?_
    · have hne : D' ≠ D := fun e => hn.1 (e ▸ hD')
      exact (World.putObj_heap_other hne).trans (hD D' (by simp [hD']))
    · exact (hE.mono fun x _ e => by have e : x = D := e; subst e; simp).then (hE'.mono fun x _ e => by simp [e])
theorem f_retMs {P : Program} {n : Nat} {fn : Func} {R : Value → World → Prop} {env : Env} {w : World} (Ds : List Nat) (hn : Ds.Nodup) (hD : ∀ D ∈ Ds, w.heap[D]? = some mark0) (vs : List Value)
    (k : ∀ w', Ext (fun x => x ∈ Ds) w w' → ResAll P env w' fn.results.toList vs ∧ R (tupV vs) w') {e : Exit} (he : e = .ret ∨ e = .normal) :
    Fin ⟨n, Ds.map fun D => { target := .collected D, args := #[] }⟩ (bodyPostM Fence.wide 9 P fn (Rv R)) e env w := by
  intro a ha
  have key : LeavesInM Fence.wide 9 P fn a.tmps (Rv R) a.defers .returning w := by
    rw [ha.defers]
    refine leaves_marks Ds w hn hD fun w' hE => ?_
    obtain ⟨h1, h2⟩ := k w' hE
    have hr := run_results (a := { a with defers := [] }) (w := w') (n := n) ⟨rfl, ha.size, ha.get⟩ _ _ h1
    refine ⟨tupV vs, ?_, h2⟩
    unfold results
    rw [Array.mapM_eq_mapM_toList, Sem.run_bind, Sem.run_map]
    erw [hr]
    simp only [Result.andThen_ok, Sem.run_pure]
    congr 1
    cases vs with
    | nil => rfl
    | cons v r => cases r <;> simp [tupV]
  rcases he with rfl | rfl
  · exact key
  · exact key
end Go.Vc
namespace Go.Vc
theorem hl_ext {S : Nat → Prop} {w w' : World} {l : Nat} {o : Obj} (h : w.heap[l]? = some o) (hE : Ext S w w') (hS : ¬ S l) : w'.heap[l]? = some o := (hE.same _ (heap_lt h) hS).trans h
theorem hl_one {w w' : World} {l b T : Nat} {r : Loop} {L : List Value} (h : w.heap[l]? = some (.loop r)) (hE : Ext (One b) w w') (hb : Blk w b T L) : w'.heap[l]? = some (.loop r) :=
  hl_ext h hE fun e => by
    have e : l = b := e
    subst e
    unfold Blk at hb
    rw [h] at hb
    cases hb
theorem Blk.neL {w : World} {l b T : Nat} {r : Loop} {L : List Value} (hb : Blk w b T L) (h : w.heap[l]? = some (.loop r)) : b ≠ l := fun e => by
  subst e
  unfold Blk at hb
  rw [h] at hb
  cases hb
theorem Blk.extL {w w' : World} {l b T : Nat} {r : Loop} {L : List Value} (hb : Blk w b T L) (h : w.heap[l]? = some (.loop r)) (hE : Ext (One l) w w') : Blk w' b T L := hb.ext1 hE (hb.neL h)
section
variable {P : Program} {I : Info} {f : Fs} {ops : Array Oper} {Q : XPost} {rest l : List Oper} {env : Env} {w : World} {F : Fence} {n : Nat} {k : Nat}
theorem wli_pR (hI : I.Ok P) {l' : List Oper} {env' : Env} (h : pevs I f.n l env = some (l', env')) (c : WLI (Fence.wide.inRound k) 8 P f ops Q l' env' w) (hn : nds l = true := by rfl) : WLI (Fence.wide.inRound k) 8 P f ops Q l env w := wli_p (.round k) hI hn h c
theorem wli_pkR (hI : I.Ok P) (m : Nat) {l' : List Oper} {env' : Env} (h : pevsN I f.n ops m l env = some (l', env')) (c : WLI (Fence.wide.inRound k) 8 P f ops Q l' env' w) (hn : nds l = true := by rfl) : WLI (Fence.wide.inRound k) 8 P f ops Q l env w := wli_pk (.round k) hI m hn h c
end
section
variable {P : Program} {I : Info} {f : Fs} {ops : Array Oper} {o : Oper} {env : Env} {w : World}
def cvE (I : Info) (n : Nat) (ops : Array Oper) (env : Env) (o : Oper) : Option (Nat × Nat × Nat × Nat × Nat) :=
  match pre n ops env o with
  | false => none
  | true => match o.dst with
    | some d => match o.op with
      | .convert s t x => match Nat.beq s t with
        | true => match lkT I s with
          | some y => match y.desc with
            | .slice e => match lkT I e with
              | some g => match g.desc with
                | .int .u8 => match evO env x with
                  | some (.slice (some ⟨b, off, none⟩) m c) => some (b, off, m, c, d)
                  | _ => none
                | _ => none
              | none => none
            | _ => none
          | none => none
        | false => none
      | _ => none
    | none => none
theorem freeze_ext {b T : Nat} {l : List Value} (h : Blk w b T l) : Ext (One b) w (w.freeze ⟨b, l.length, none⟩ 1) ∧ Seg (w.freeze ⟨b, l.length, none⟩ 1) b 0 l ∧ (w.freeze ⟨b, l.length, none⟩ 1).heap.size = w.heap.size := by
  unfold World.freeze
  rw [if_neg (by decide)]
  refine ⟨⟨rfl, rfl, rfl, by simp, fun x hx hne => ?_⟩, fun i v hi => ?_, by simp⟩
  · simp only [Array.getElem?_modify]
    rw [if_neg (fun e => hne e.symm)]
  · unfold Blk at h
    simp only [World.cell?, Array.getElem?_modify, if_true, h, Option.map_some]
    rw [Nat.zero_add]
    simp [hi]
theorem st_cv (hI : I.Ok P) {K : Env → World → Prop} {b off m c d : Nat} (h : cvE I f.n ops env o = some (b, off, m, c, d)) {T : Nat} {l : List Value} (hb : Blk w b T l)
    (k : ∀ w', Ext (One b) w w' → Seg w' b 0 l → w'.heap.size = w.heap.size → K ((d, .slice (some ⟨b, off, none⟩) m c) :: env) w') : St P f ops o env w K := by
  unfold cvE at h
  split at h
  · cases h
  · rename_i hp
    obtain ⟨h1, h2⟩ := pre_eq hp
    split at h
    · rename_i d' hd
      split at h
      · rename_i s t x ho
        split at h
        · rename_i hst
          have hst := Nat.eq_of_beq_eq_true hst
          subst hst
          split at h
          · rename_i y hy
            split at h
            · rename_i e he
              split at h
              · rename_i g hg
                split at h
                · rename_i hgd
                  split at h
                  · rename_i b' off' m' c' hx
                    simp only [Option.some.injEq, Prod.mk.injEq] at h
                    obtain ⟨rfl, rfl, rfl, rfl, rfl⟩ := h
                    have hu := (hI.get hy).under w
                    have hw := (hI.get hg).under w
                    rw [he] at hu
                    rw [hgd] at hw
                    obtain ⟨f1, f2, f3⟩ := freeze_ext hb
                    refine st_v h1 h2 (v := .slice (some ⟨b', off', none⟩) m' c') (w' := w.freeze ⟨b', l.length, none⟩ 1) (fun ρ hρ => ?_) (by rw [hd]; exact k _ f1 f2 f3)
                    have hsh : w.shape? b' = some (T, l.length) := by
                      unfold Blk at hb
                      simp [World.shape?, hb]
                    have go : (convert s s (.slice (some ⟨b', off', none⟩) m' c')).run P w = .ok (.slice (some ⟨b', off', none⟩) m' c') (w.freeze ⟨b', l.length, none⟩ 1) := by
                      unfold convert
                      rw [run_under_bind hu, run_under_bind hu]
                      show (underlying e >>= _).run P w = _
                      rw [run_under_bind hw]
                      simp [markStringish, shape, freeze, Sem.run, hsh]
                    simp only [execOp, ho, hρ _ _ hx, Sem.run_bind, go, Result.andThen_ok, Sem.run_pure]
                  · cases h
                · cases h
              · cases h
            · cases h
          · cases h
        · cases h
      · cases h
    · cases h
theorem firstCells_len {sz n m m' c : Nat} {p : Option Addr} : Builtin.firstCells sz n (.slice p m c) = Builtin.firstCells sz n (.slice p m' c) := by
  cases p <;> rfl
/-- copy, of as much as there is room for -/
theorem st_cpK (hI : I.Ok P) {K : Env → World → Prop} {s : CpArgs} (h : cpE I f.n ops env o = some s) (sz : Nat) (hsz : s.g.size = sz) {T : Nat} {l : List Value} (hblk : Blk w s.b T l) {p : Option Addr} {m c : Nat} {news : List Value} (hx : s.x = .slice p m c) (hm : s.n ≤ m) (hsl : Sl w p s.n sz news) (h1 : ∀ v ∈ news, v.oneCell' = true)
    (hroom : s.off + s.n * sz ≤ l.length)
    (k : ∀ w', Blk w' s.b T (put l s.off news) → Ext (One s.b) w w' → w'.heap.size = w.heap.size → K ((s.d, .int .i64 (s.n : Int)) :: env) w') : St P f ops o env w K := by
  subst hsz
  unfold cpE at h
  split at h
  · cases h
  · rename_i hp
    obtain ⟨e1, e2⟩ := pre_eq hp
    split at h
    · rename_i d' hd
      split at h
      · rename_i xs' ts ho
        split at h
        · rename_i sx xx hxs
          have hx1 : xs' = #[sx, xx] := by apply Array.ext'; simpa using hxs
          subst hx1
          split at h
          · rename_i t t2 hts
            have ht1 : ts = #[t, t2] := by apply Array.ext'; simpa using hts
            subst ht1
            split at h
            · rename_i y hy
              split at h
              · rename_i e he
                split at h
                · rename_i g hg
                  split at h
                  · rename_i b off n c0 hs
                    split at h
                    · rename_i v hv
                      cases h
                      simp only at *
                      subst hx
                      have hu := (hI.get hy).under w
                      rw [he] at hu
                      have hsz := (hI.get hg).sizeOf w
                      have hmin : Nat.min m n = n := Nat.min_eq_right hm
                      have hsrc := Src.slice (P := P) (c := c) hsl h1
                      obtain ⟨w', hr, hb', hE, hs'⟩ := run_storeCells_blk (P := P) news w l off 0 hblk (by rw [hsl.1]; omega) h1
                      have hfc : (Builtin.firstCells g.size n (.slice p m c)).run P w = .ok news.toArray w := by
                        rw [firstCells_len (m' := n)]
                        exact hsrc.cells fun _ => rfl
                      have hrun : (Builtin.copy_ #[t, t2] o.type #[.slice (some ⟨b, off, none⟩) n c0, .slice p m c]).run P w = .ok (.int .i64 (n : Int)) w' := by
                        unfold Builtin.copy_
                        simp only [List.getElem?_toArray, List.getElem?_cons_zero, List.getElem?_cons_succ]
                        rw [run_under_bind hu]
                        simp only [Builtin.lenOf, pure_bind, hmin, Sem.run_bind, hsz, Result.andThen_ok, hfc, hr, Sem.run_pure, goInt]
                      refine st_v e1 e2 (v := .int .i64 (n : Int)) (w' := w') (fun ρ hρ => ?_) (by rw [hd]; exact k w' hb' hE hs')
                      have em : Array.map ρ #[sx, xx] = #[.slice (some ⟨b, off, none⟩) n c0, .slice p m c] := by simp [hρ _ _ hs, hρ _ _ hv]
                      simp only [execOp, ho, resolve, Sem.run_bind, Sem.run_pure, Result.andThen_ok, invoke, builtin, em, hrun]
                    · cases h
                  · cases h
                · cases h
              · cases h
            · cases h
          · cases h
        · cases h
      · cases h
    · cases h
end
/-- the same, where what is handed over lies in blocks that are made on the way: A says which things may come k-th, X their blocks -/
structure ConsV (P : Program) (l n0 N : Nat) (A : Nat → Array Value → (Nat → Prop) → World → Prop) (J Jx : Nat → (Nat → Prop) → World → Prop) : Prop where
  st : ∀ {k : Nat} {F S : Nat → Prop} {w w' : World}, J k F w → Ext S w w' → (∀ x, S x → n0 ≤ x ∧ ¬ F x) → J k F w'
  stx : ∀ {k : Nat} {F S : Nat → Prop} {w w' : World}, Jx k F w → Ext S w w' → (∀ x, S x → n0 ≤ x ∧ ¬ F x) → Jx k F w'
  lt : ∀ {k : Nat} {F : Nat → Prop} {w : World}, J k F w → ∀ x, F x → x < w.heap.size
  ltx : ∀ {k : Nat} {F : Nat → Prop} {w : World}, Jx k F w → ∀ x, F x → x < w.heap.size
  round : ∀ {k : Nat} {F : Nat → Prop} {w : World}, J k F w → k < N → ∀ (vs : Array Value) (X : Nat → Prop), A k vs X w → (∀ x, X x → n0 ≤ x ∧ ¬ F x) →
    YieldAt Fence.wide 8 P l vs w fun e w' => ∃ b, e = .returned (.bool b) ∧ ∃ F' : Nat → Prop, Ext (fun x => F x ∨ X x) w w' ∧ (∀ x, F' x → F x ∨ X x ∨ w.heap.size ≤ x) ∧ (b = true → J (k + 1) F' w') ∧ (b = false → Jx k F' w')
def IterV (P : Program) (gf : Nat) (cap : List Value) (N : Nat) (A : Nat → Array Value → (Nat → Prop) → World → Prop) (own : Nat → Prop) (w : World) : Prop :=
  ∀ (l : Nat) (J Jx : Nat → (Nat → Prop) → World → Prop) (F : Nat → Prop), ConsV P l w.heap.size N A J Jx → J 0 F w → (∀ x, own x → ¬ F x) →
    CallsV P gf (.func (.yield l) #[] #[] :: cap) w fun _ w' => ∃ F' : Nat → Prop, Ext F w w' ∧ (∀ x, F' x → F x ∨ w.heap.size ≤ x) ∧ (J N F' w' ∨ ∃ k, k < N ∧ Jx k F' w')
section
variable {α : Type} {w : World} {P : Program}
structure RdX (C : CoS α w) (l D : Nat) (z : α) (W : World) (X : Nat → Prop) : Prop where
  ne : ∀ x, X x → w.heap.size ≤ x ∧ x ≠ l ∧ x ≠ D ∧ ¬ C.Fp z x
def RdV (C : CoS α w) (z0 : α) (l D : Nat) (r : Loop) (k : Nat) (z : α) (W : World) (X : Nat → Prop) : Ending → World → Prop := fun e w' =>
  ∃ b, e = .returned (.bool b) ∧ ∃ F' : Nat → Prop, Ext (fun x => (C.Fp z x ∨ x = l ∨ x = D) ∨ X x) W w' ∧ (∀ x, F' x → (C.Fp z x ∨ x = l ∨ x = D) ∨ X x ∨ W.heap.size ≤ x) ∧ (b = true → CJ C z0 l D r (k + 1) F' w') ∧ (b = false → CJx C z0 l D r k F' w')
variable {C : CoS α w} {z0 : α} {l D : Nat} {r : Loop} {k : Nat} {z : α} {W : World} {f : Fs} {env : Env} {u : World} {X : Nat → Prop}
theorem RdC.endsV (h : RdC C z0 l D r z W) (hN : RdX C l D z W X) (hE : Ext (fun x => (C.Fp z x ∨ x = l) ∨ X x) W u) {z' : α} (hF : ∀ x, C.Fp z' x → C.Fp z x ∨ X x ∨ W.heap.size ≤ x) :
    u.heap[D]? = some mark0 ∧ (∀ x, C.Fp z' x → x ≠ l ∧ x ≠ D) ∧ Ext (C.Fp z0) w u ∧ (∀ x, C.Fp z' x → C.Fp z0 x ∨ w.heap.size ≤ x) := by
  refine ⟨(hE.same _ (heap_lt h.D) fun e => e.elim (fun e => e.elim (fun e => (h.fp _ e).2 rfl) fun e => h.ne e.symm) fun e => (hN.ne _ e).2.2.1 rfl).trans h.D, fun x hx => ?_, h.X.trans hE fun x hx e => ?_, fun x hx => ?_⟩
  · rcases hF x hx with hx | hx | hx
    · exact h.fp x hx
    · exact ⟨(hN.ne x hx).2.1, (hN.ne x hx).2.2.1⟩
    · exact ⟨fun e => by have := heap_lt h.l; omega, fun e => by have := heap_lt h.D; omega⟩
  · rcases e with (e | e) | e
    · exact (h.sub x e).resolve_right (by omega)
    · have := h.lo.1; omega
    · have := (hN.ne x e).1; omega
  · rcases hF x hx with hx | hx | hx
    · exact h.sub x hx
    · exact .inr (hN.ne x hx).1
    · exact .inr (Nat.le_trans h.X.size hx)
theorem fin_nextV (z' : α) (h : RdC C z0 l D r z W) (hN : RdX C l D z W X) (hl : u.heap[l]? = some (.loop (busy r))) (hE : Ext (fun x => (C.Fp z x ∨ x = l) ∨ X x) W u) (hF : ∀ x, C.Fp z' x → C.Fp z x ∨ X x ∨ W.heap.size ≤ x) (hJ : C.J (k + 1) z' u) :
    Fin f (roundPost P l (RdV C z0 l D r k z W X)) .normal env u := by
  intro a _
  obtain ⟨h1, h2, h3, h4⟩ := h.endsV hN hE hF
  have hE2 : Ext (One l) u (u.putObj l (.loop { busy r with state := if (none : Option Code).isNone then .ready else .done, pending := none })) := Ext.putObj hl rfl rfl
  refine ⟨_, _, run_endRound none hl, true, rfl, fun x => C.Fp z' x ∨ x = l ∨ x = D, ?_, fun x hx => ?_, fun _ => ?_, fun e => by cases e⟩
  · exact (hE.mono fun x _ e => e.imp (fun e => e.imp id .inl) id).then (hE2.mono fun x _ e => .inl (.inr (.inl e)))
  · rcases hx with hx | hx
    · exact (hF x hx).imp .inl id
    · exact .inl (.inr hx)
  · refine ⟨z', rfl, C.st hJ hE2 fun x e => ?_, h2, ?_, ?_, h3.trans hE2 fun x hx e => ?_, h4⟩
    · have e : x = l := e
      subst e
      exact ⟨h.lo.1, fun e => (h2 _ e).1 rfl⟩
    · rw [World.putObj_heap_same (heap_lt hl)]
      have e1 := h.rd
      have e2 := h.pe
      cases r
      cases e1
      cases e2
      rfl
    · exact (World.putObj_heap_other h.ne.symm).trans h1
    · have e : x = l := e
      have := h.lo.1
      omega
theorem fin_stopV {c : Code} {e : Exit} (hc : (e = .ret ∧ c = .ret) ∨ ∃ id, e = .exit id ∧ c = .exit id) (z' : α) (h : RdC C z0 l D r z W) (hN : RdX C l D z W X) (hl : u.heap[l]? = some (.loop (busy r))) (hE : Ext (fun x => (C.Fp z x ∨ x = l) ∨ X x) W u) (hF : ∀ x, C.Fp z' x → C.Fp z x ∨ X x ∨ W.heap.size ≤ x) (hJ : C.Jx k c z' u) :
    Fin f (roundPost P l (RdV C z0 l D r k z W X)) e env u := by
  intro a _
  obtain ⟨h1, h2, h3, h4⟩ := h.endsV hN hE hF
  have hE2 : Ext (One l) u (u.putObj l (.loop { busy r with state := if (some c : Option Code).isNone then .ready else .done, pending := some c })) := Ext.putObj hl rfl rfl
  have key : ∃ v w', (Instr.endRound l (some c)).run P u = .ok v w' ∧ RdV C z0 l D r k z W X (.returned v) w' := by
    refine ⟨_, _, run_endRound (some c) hl, false, rfl, fun x => C.Fp z' x ∨ x = l ∨ x = D, ?_, fun x hx => ?_, (fun e => by cases e), fun _ => ?_⟩
    · exact (hE.mono fun x _ e => e.imp (fun e => e.imp id .inl) id).then (hE2.mono fun x _ e => .inl (.inr (.inl e)))
    · rcases hx with hx | hx
      · exact (hF x hx).imp .inl id
      · exact .inl (.inr hx)
    · refine ⟨c, z', rfl, C.stx hJ hE2 fun x e => ?_, h2, ?_, ?_, h3.trans hE2 fun x hx e => ?_, h4⟩
      · have e : x = l := e
        subst e
        exact ⟨h.lo.1, fun e => (h2 _ e).1 rfl⟩
      · exact World.putObj_heap_same (heap_lt hl)
      · exact (World.putObj_heap_other h.ne.symm).trans h1
      · have e : x = l := e
        have := h.lo.1
        omega
  rcases hc with ⟨rfl, rfl⟩ | ⟨id, rfl, rfl⟩
  · exact key
  · exact key
variable {Q : XPost}
/-- the statement, over an iterator -/
theorem c_iterV (C : CoS α w) (z0 : α) {g : Operand} {ps : Array Tmp} {assign body : Code} {gf : Nat} {cap : Array Value} {N : Nat} {A : Nat → Array Value → (Nat → Prop) → World → Prop} {own : Nat → Prop}
    (hg : evO env g = some (.func (.func gf) #[] cap)) (hcf : ∀ args w, (callFunc gf args).run P w = .ok (.enter gf args) w)
    (hps : ps.toList.all (fun t => Nat.blt t f.n) = true) (hpn : ∀ k vs X W, A k vs X W → vs.size = ps.size)
    (hit : ∀ w1, Ext No w w1 → IterV P gf cap.toList N A own w1) (hown : ∀ x, own x → x < w.heap.size ∧ ¬ C.Fp z0 x) (h0 : C.J 0 z0 w)
    (hround : ∀ (l D : Nat) (r : Loop) (k : Nat) (z : α) (W : World) (vs : Array Value) (X : Nat → Prop), RdC C z0 l D r z W → RdX C l D z W X → C.J k z W → k < N → A k vs X W →
      WCI (Fence.wide.inRound l) 8 P ⟨f.n, []⟩ assign (Exit.then (fun a1 w1 => ∃ w2, (Instr.beginRound l).run P w1 = .ok () w2 ∧ body.wpIn (Fence.wide.inRound l) 8 P (roundPost P l (RdV C z0 l D r k z W X)) a1 w2) (fun _ _ _ => False)) (penv ps.toList vs.toList env) W)
    (hdone : ∀ (D : Nat) (z : α) (W : World), C.J N z W → Ext (C.Fp z0) w W → (∀ x, C.Fp z x → C.Fp z0 x ∨ w.heap.size ≤ x) → w.heap.size ≤ D → W.heap[D]? = some mark0 → (∀ x, C.Fp z x → x ≠ D) →
      Fin ⟨f.n, { target := .collected D, args := #[] } :: f.ds⟩ Q .normal env W)
    (hstop : ∀ (D : Nat) (k : Nat) (c : Code) (z : α) (W : World), k < N → C.Jx k c z W → Ext (C.Fp z0) w W → (∀ x, C.Fp z x → C.Fp z0 x ∨ w.heap.size ≤ x) → w.heap.size ≤ D → W.heap[D]? = some mark0 → (∀ x, C.Fp z x → x ≠ D) →
      WC P ⟨f.n, { target := .collected D, args := #[] } :: f.ds⟩ c Q env W) :
    WC P f (.rangeFunc g ps assign body) Q env w := by
  refine c_rangeX hg hcf fun fn a ha rec hrec w1 hE1 hl1 hd1 hs1 => ?_
  have hlD : w.heap.size + 1 ≠ w.heap.size := by omega
  have hst : rec.state = .ready := by rw [hrec]
  have hpe : rec.pending = none := by rw [hrec]
  have hcons : ConsV P (w.heap.size + 1) w1.heap.size N A (CJ C z0 (w.heap.size + 1) w.heap.size rec) (CJx C z0 (w.heap.size + 1) w.heap.size rec) := by
    refine ⟨?_, ?_, ?_, ?_, ?_⟩
    · rintro k F S u u' ⟨z, rfl, h1, h2, h3, h4, h5, h6⟩ hE hS
      have hS1 : ∀ x, S x → w.heap.size ≤ x ∧ ¬ C.Fp z x := fun x hx => ⟨by have := (hS x hx).1; omega, fun e => (hS x hx).2 (.inl e)⟩
      exact ⟨z, rfl, C.st h1 hE hS1, h2, (hE.same _ (heap_lt h3) fun e => (hS _ e).2 (.inr (.inl rfl))).trans h3, (hE.same _ (heap_lt h4) fun e => (hS _ e).2 (.inr (.inr rfl))).trans h4, h5.trans hE fun x hx e => by have := (hS1 x e).1; omega, h6⟩
    · rintro k F S u u' ⟨c, z, rfl, h1, h2, h3, h4, h5, h6⟩ hE hS
      have hS1 : ∀ x, S x → w.heap.size ≤ x ∧ ¬ C.Fp z x := fun x hx => ⟨by have := (hS x hx).1; omega, fun e => (hS x hx).2 (.inl e)⟩
      exact ⟨c, z, rfl, C.stx h1 hE hS1, h2, (hE.same _ (heap_lt h3) fun e => (hS _ e).2 (.inr (.inl rfl))).trans h3, (hE.same _ (heap_lt h4) fun e => (hS _ e).2 (.inr (.inr rfl))).trans h4, h5.trans hE fun x hx e => by have := (hS1 x e).1; omega, h6⟩
    · rintro k F u ⟨z, rfl, h1, h2, h3, h4, h5, h6⟩ x hx
      rcases hx with hx | rfl | rfl
      · exact C.lt h1 x hx
      · exact heap_lt h3
      · exact heap_lt h4
    · rintro k F u ⟨c, z, rfl, h1, h2, h3, h4, h5, h6⟩ x hx
      rcases hx with hx | rfl | rfl
      · exact C.ltx h1 x hx
      · exact heap_lt h3
      · exact heap_lt h4
    · rintro k F u ⟨z, rfl, h1, h2, h3, h4, h5, h6⟩ hk vs X hAk hX
      have hy := run_yield (P := P) (args := vs) h3 (by rw [hrec]; exact hpn k vs X u hAk)
      refine ⟨_, _, _, _, hy, roundIn_of_wpIn trivial ?_⟩
      have hA : rec.assign = assign := by rw [hrec]
      have hB : rec.body = body := by rw [hrec]
      have hT : rec.tmps = a.tmps := by rw [hrec]
      have hP : rec.params = ps := by rw [hrec]
      rw [hA, hB, hT, hP]
      obtain ⟨g1, g2⟩ := ag_fold (f := ⟨f.n, []⟩) ps.toList vs.toList env a.tmps hps ha.size ha.get
      refine hround (w.heap.size + 1) w.heap.size rec k z u vs X ⟨hst, hpe, hlD, ⟨by omega, Nat.le_refl _⟩, h2, h3, h4, h5, h6⟩ ⟨fun x hx => ⟨by have := (hX x hx).1; omega, fun e => (hX x hx).2 (.inr (.inl e)), fun e => (hX x hx).2 (.inr (.inr e)), fun e => (hX x hx).2 (.inl e)⟩⟩ h1 hk hAk _ ⟨rfl, ?_, fun i v hi => ?_⟩
      · rw [← Array.foldl_toList, Array.toList_zip]; exact g1
      · show (Array.foldl _ a.tmps (ps.zip vs))[i]? = some v
        rw [← Array.foldl_toList, Array.toList_zip]; exact g2 i v hi
  have hj0 : CJ C z0 (w.heap.size + 1) w.heap.size rec 0 (fun x => C.Fp z0 x ∨ x = w.heap.size + 1 ∨ x = w.heap.size) w1 :=
    ⟨z0, rfl, C.st h0 hE1 fun x e => e.elim, fun x hx => ⟨fun e => by have := C.lt h0 x hx; omega, fun e => by have := C.lt h0 x hx; omega⟩, hl1, hd1, hE1.no, fun x hx => .inl hx⟩
  refine (hit w1 hE1 (w.heap.size + 1) _ _ _ hcons hj0 fun x hx => ?_).mono ?_
  · have := hown x hx
    rintro (e | e | e)
    · exact this.2 e
    · omega
    · omega
  · rintro _ w2 ⟨F', hE2, hF', ⟨z, rfl, h1, h2, h3, h4, h5, h6⟩ | ⟨k, hk, c, z, rfl, h1, h2, h3, h4, h5, h6⟩⟩
    · refine ⟨rec, h3, by rw [hst]; decide, h4, fun w3 hE3 hd3 => ⟨fun _ => ?_, fun c hc => by rw [hpe] at hc; cases hc⟩⟩
      have hS1 : ∀ x, One (w.heap.size + 1) x → w.heap.size ≤ x ∧ ¬ C.Fp z x := fun x hx => by
        have hx : x = w.heap.size + 1 := hx
        exact ⟨by omega, fun e => (h2 x e).1 hx⟩
      exact hdone _ z w3 (C.st h1 hE3 hS1) (h5.trans hE3 fun x hx e => by have := (hS1 x e).1; omega) h6 (Nat.le_refl _) hd3 fun x hx => (h2 x hx).2
    · refine ⟨_, h3, (fun e => by cases e), h4, fun w3 hE3 hd3 => ⟨fun hc => (by cases hc), fun c' hc => ?_⟩⟩
      cases hc
      have hS1 : ∀ x, One (w.heap.size + 1) x → w.heap.size ≤ x ∧ ¬ C.Fp z x := fun x hx => by
        have hx : x = w.heap.size + 1 := hx
        exact ⟨by omega, fun e => (h2 x e).1 hx⟩
      exact hstop _ k c z w3 hk (C.stx h1 hE3 hS1) (h5.trans hE3 fun x hx e => by have := (hS1 x e).1; omega) h6 (Nat.le_refl _) hd3 fun x hx => (h2 x hx).2
end

/-! ### A deferred call -/
theorem callsD_enter {P : Program} {g : FuncId} {fn : Func} {c : Code} {args : List Value} {w : World} {R : Value → World → Prop} {n : Nat} {env : Env}
    (hf : P.funcs[g]? = some fn) (hb : fn.body = some c) (hn : fn.ntmps = n) (hl : Nat.ble args.length n = true) (he : envO 0 args = some env) (h : WC P ⟨n, []⟩ c (bodyPost P fn (Rv R)) env w) :
    CallsDIn Fence.wide 8 P g args.toArray .returning w fun e u' w' => u' = .returning ∧ Rv R e w' := by
  refine callsDIn_of_wp hf hb trivial (wpIn_wide.2 (h _ ⟨rfl, ?_, fun i v hi => ?_⟩))
  · have : args.length ≤ n := Nat.le_of_ble_eq_true hl
    simp only [hn, Array.size_append, List.size_toArray, Array.size_replicate]
    omega
  · have := (envO_lk he i v hi).2
    simp only [Nat.sub_zero] at this
    have hlt : i < args.length := by
      rcases Nat.lt_or_ge i args.length with h' | h'
      · exact h'
      · simp [List.getElem?_eq_none h'] at this
    simp only [hn]
    rw [Array.getElem?_append_left (by simpa using hlt)]
    simpa using this
theorem wl_defer {P : Program} {f : Fs} {ops : Array Oper} {Q : XPost} {o : Oper} {rest : List Oper} {env : Env} {w : World} {x : Operand} {g : Nat} {cap : Array Value}
    (ho : o.op = .defer { callee := .value x, args := #[], argTypes := #[] }) (hg : takes ops env o = true) (hd : o.dst = none) (hx : evO env x = some (.func (.func g) #[] cap))
    (h : WL P ⟨f.n, { target := .fn (.func g) cap, args := #[] } :: f.ds⟩ ops Q rest env w) : WL P f ops Q (o :: rest) env w := by
  intro a ha
  unfold wpList
  rw [if_pos (takes_wanted ha hg)]
  refine .inl ?_
  have hrun : (execOp a.eval o).run P w = .ok (.defer { target := .fn (.func g) cap, args := #[] }) w := by
    simp [execOp, ho, resolve, ha.eval hx, Deferred.ofValue]
  unfold Oper.wp
  rw [hrun]
  show wpList P ops Q rest (({ a with defers := _ :: a.defers } : Act).put o.dst undef) w
  rw [hd]
  exact h _ ⟨by simp [Act.put, ha.defers], ha.size, ha.get⟩
theorem f_retD {P : Program} {n g : Nat} {fn : Func} {R : Value → World → Prop} {env : Env} {w : World} {cap : Array Value} {R' : Value → World → Prop} (vs : List Value)
    (hcf : ∀ args w, (callFunc g args).run P w = .ok (.enter g args) w) (hD : CallsDIn Fence.wide 8 P g cap .returning w fun e u' w' => u' = .returning ∧ Rv R' e w')
    (k : ∀ v w', R' v w' → ResAll P env w' fn.results.toList vs ∧ R (tupV vs) w') :
    Fin ⟨n, [{ target := .fn (.func g) cap, args := #[] }]⟩ (bodyPostM Fence.wide 9 P fn (Rv R)) .ret env w := by
  intro a ha
  show LeavesInM Fence.wide 9 P fn a.tmps (Rv R) a.defers .returning w
  rw [ha.defers]
  refine ⟨by simp, .inr ⟨fun h => (by cases h), .func g, cap, g, cap, rfl, by simp [invoke, hcf], fun _ _ => trivial, hD.mono ?_⟩⟩
  rintro e u' w' ⟨rfl, he⟩
  cases e with
  | returned v =>
    obtain ⟨h1, h2⟩ := k v w' he
    have hr := run_results (a := { a with defers := [] }) (w := w') (n := n) ⟨rfl, ha.size, ha.get⟩ _ _ h1
    refine ⟨tupV vs, ?_, h2⟩
    unfold results
    rw [Array.mapM_eq_mapM_toList, Sem.run_bind, Sem.run_map]
    erw [hr]
    simp only [Result.andThen_ok, Sem.run_pure]
    congr 1
    cases vs with
    | nil => rfl
    | cons v r => cases r <;> simp [tupV]
  | panicked ch => exact he.elim
  | outgrown => exact he.elim
end Go.Vc
namespace Go.Proofs.YtlfdlodcjiaiiaaGreatDoor
open Go.Vc
abbrev Rt (w : World) : Prop := Seg w 0 0 (wordsV rootsW)
theorem Rt.ext {S : Nat → Prop} {w w' : World} (h : Rt w) (hE : Ext S w w') (hS : ¬ S 0) : Rt w' := Seg.ext h hE hS
theorem Rt.lt {w : World} (h : Rt w) : 0 < w.heap.size := Seg.lt h (by decide)
theorem zeros_b : bytesU zeros = cellsOf ti37.zero := z29.symm
theorem sectors_calls (w : World) (n : Int) :
    CallsV Tryz.prog 22 [.int .i64 n] w fun v w' => v = .int .i64 (sectZ n) ∧ Ext No w w' := by
  refine calls_enter Tryz.func22 rfl rfl rfl rfl ?_
  have hX := Ext.refl No w
  refine c_seq (c_region (wl_p I_ok rfl (wl_nil (f_then (c_seq (c_cutK (α := Bool) [0] rfl (fun z => [(8, .bool z)]) (fun z u => u = w ∧ z = decide (n < 0 ∨ 40000 < n)) ?_ ?_))))))
  · refine c_region ?_
    refine wl_p I_ok rfl (wl_caseD 5 rfl (fun hg => ?_) (fun hg => ?_))
    · refine wl_pk I_ok 3 rfl ?_
      refine wl_nil ?_
      exact f_cut (true) rfl ⟨rfl, by simp [hg]⟩
    · refine wl_pk I_ok 3 rfl ?_
      refine wl_nil ?_
      exact f_cut (_) rfl ⟨rfl, by simp [hg]⟩
  rintro z w1 ⟨hu, rfl⟩
  have hu := hu.symm
  subst hu
  refine c_if rfl (fun hc => ?_) (fun hc => ?_)
  · have e1 : sectZ n = 0 := if_pos hc
    rw [e1]
    refine c_seq (c_region (wl_p I_ok rfl (wl_nil (f_then (c_ret (f_thenR (f_ret1 rfl rfl ?_)))))))
    exact ⟨rfl, hX⟩
  · have e1 : sectZ n = ((n.toNat + 3) / 48 + 1 : Nat) := if_neg hc
    rw [e1]
    have e2 : IntKind.i64.wrap (IntKind.i64.wrap ((IntKind.i64.wrap (n + 3)).tdiv 48) + 1) = (((n.toNat + 3) / 48 + 1 : Nat) : Int) := by
      rw [IntWalk.i64_in (n + 3) (by omega), IntWalk.i64_quo _ _ (by omega), IntWalk.i64_in _ (by omega)]
      omega
    refine c_skip (f_then (c_seq (c_region (wl_p I_ok rfl ?_))))
    rw [e2]
    refine wl_p I_ok rfl (wl_nil (f_then (c_ret (f_ret1 rfl rfl ?_))))
    exact ⟨rfl, hX⟩
theorem slb4 (b : Nat) : slBase (some ⟨b, 0, none⟩) 4 64 1 = some ⟨b, 4, none⟩ := rfl
theorem seal_put (l : Bytes) (hl : l.length ≤ 60) : Vc.put (bytesU (List.replicate 64 0)) 4 (bytesU l) = bytesU (List.replicate 4 0 ++ (l ++ List.replicate (60 - l.length) 0)) := by
  rw [put_eq _ _ _ (by simp [bytesU_len]; omega), bytesU_len, bytesU_take, bytesU_drop]
  have e1 : (List.replicate 64 (0 : UInt8)).take 4 = List.replicate 4 0 := rfl
  have e2 : (List.replicate 64 (0 : UInt8)).drop (4 + l.length) = List.replicate (60 - l.length) 0 := by rw [List.drop_replicate]; congr 1; omega
  rw [e1, e2, bytesU_append, bytesU_append, List.append_assoc]
theorem sum_put (R : Bytes) (d : Bytes) (hd : d.length = 4) : Vc.put (bytesU (List.replicate 4 0 ++ R)) 0 (bytesU d) = bytesU (d ++ R) := by
  rw [put_eq _ _ _ (by simp [bytesU_len]; omega), bytesU_len, bytesU_take, bytesU_drop, hd]
  simp [bytesU]
theorem sealed_calls (w : World) {p : Option Addr} {c : Nat} {l : Bytes} (h : SlB w p l) (hl : l.length ≤ 60) (hr : Rt w) :
    CallsV Tryz.prog 88 [.slice p l.length c] w fun v w' => v = numB (sealB l) ∧ Ext No w w' := by
  obtain ⟨R, hR⟩ : ∃ R, R = l ++ List.replicate (60 - l.length) 0 := ⟨_, rfl⟩
  have hRl : R.length = 60 := by rw [hR]; simp; omega
  have hS : sealB l = (sumW R).take 4 ++ R := by rw [hR]; rfl
  have hrlt := hr.lt
  refine calls_enter Tryz.func88 rfl rfl rfl rfl ?_
  have hX := Ext.refl No w
  refine c_seq (c_region (wl (st_al I_ok rfl fun b2 w1 hn2 hb2 hE1 => ?_)))
  have fr2 := Nat.le_trans hX.size hn2
  have hX := hX.thenNo hE1
  have hb2 : Blk w1 b2 37 (bytesU (List.replicate 64 0)) := by (rw [show bytesU (List.replicate 64 0) = cellsOf ti37.zero from zeros_b]; exact hb2)
  refine wl_nil (f_then (c_seq (c_region (wl (st_sa I_ok rfl 4 64 64 1 rfl ⟨.inr ⟨rfl, rfl⟩, .inr ⟨rfl, rfl⟩, .inl rfl, by decide, by decide, by decide⟩ ?_)))))
  rw [slb4]
  refine wl_p I_ok rfl (wl (st_cp I_ok rfl 1 rfl hb2 (Src.slice (h.extNo hX) OneC.h) (by dsimp only; omega) (by rw [bytesU_len]; simp; omega) fun w2 hc2 hE2 hs2 => ?_))
  have hX := hX.thenNew hE2 fr2
  have hb2 : Blk w2 b2 37 (bytesU (List.replicate 4 0 ++ R)) := by
    rw [hR, ← seal_put l hl]; exact hc2
  have hr : Rt w2 := (hr.ext hE1 id).ext hE2 fun e => by have e : 0 = b2 := e; omega
  refine wl_nil (f_then (c_seq (c_region (wl (st_sa I_ok rfl 4 64 64 1 rfl ⟨.inr ⟨rfl, rfl⟩, .inr ⟨rfl, rfl⟩, .inl rfl, by decide, by decide, by decide⟩ ?_)))))
  rw [slb4]
  have hsR : SlB w2 (some ⟨b2, 4, none⟩) R := ⟨by rw [bytesU_len, Nat.mul_one], .inr ⟨b2, 4, rfl, by have e := hb2.seg.drop 4; rw [bytesU_drop] at e; simpa using e⟩⟩
  rw [show Value.slice (some ⟨b2, 4, none⟩) (64 - 4) (64 - 4) = .slice (some ⟨b2, 4, none⟩) R.length 60 from by rw [hRl]]
  refine wl (st_call Tryz.call100 rfl rfl rfl rfl rfl rfl (sum_calls w2 hsR (by omega) hr) fun v3 w3 hr3 => ?_)
  obtain ⟨rfl, hE3⟩ := hr3
  have hb2 := hb2.extNo hE3
  have hX := hX.thenNo hE3
  refine wl (st_al I_ok rfl fun b3 w4 hn3 hb3 hE4 => ?_)
  have ne2_3 : b2 ≠ b3 := Nat.ne_of_lt (Nat.lt_of_lt_of_le hb2.lt hn3)
  have fr3 := Nat.le_trans hX.size hn3
  have hb2 := hb2.extNo hE4
  have hX := hX.thenNo hE4
  refine wl (st_stW (l' := bytesU (sumW R)) I_ok hb3 rfl rfl (by rw [bytesU_len, sumW_len]) (by rw [bytesU_len, sumW_len]; rfl) OneC.h fun w5 hb3 hE5 hs5 => ?_)
  have hb2 := hb2.ext1 hE5 ne2_3
  have hX := hX.thenNew hE5 fr3
  refine wl_nil (f_then (c_seq (c_draw rfl 3 [(0, true), (1, true), (2, false)] [] (One b2) (by kernel_rfl) fun w6 hE6 hs6 => ?_)))
  have hd2 := hb2
  have hd3 := hb3
  have hXd := hX
  have hb2 := hb2.extNo hE6
  have hb3 := hb3.extNo hE6
  have hX := hX.thenNo hE6
  have hC : Ext (One b2) _ w6 := hE6.no
  refine wd_sa I_ok rfl rfl 0 4 64 1 rfl ⟨.inr ⟨rfl, rfl⟩, .inl rfl, .inr ⟨rfl, rfl⟩, by decide, by decide, by decide⟩ ?_
  rw [slBase_zero, Nat.sub_zero]
  refine wd_sa I_ok rfl rfl 0 32 32 1 rfl ⟨.inr ⟨rfl, rfl⟩, .inr ⟨rfl, rfl⟩, .inr ⟨rfl, rfl⟩, by decide, by decide, by decide⟩ ?_
  rw [slBase_zero, Nat.sub_zero]
  have hsg : Sl w6 (some ⟨b3, 0, none⟩) 4 1 (bytesU ((sumW R).take 4)) := ⟨by rw [bytesU_len, List.length_take, sumW_len]; rfl, .inr ⟨b3, 0, rfl, by have e := hb3.seg.take 4; rwa [bytesU_take] at e⟩⟩
  have h4 : ((sumW R).take 4).length = 4 := by rw [List.length_take, sumW_len]; rfl
  refine wd_l rfl (st_cpK I_ok rfl 1 rfl hb2 rfl (by show 4 ≤ 32; decide) hsg OneC.h (by simp [bytesU_len, hRl]) fun w7 hb2n hEn hsn => ⟨hC.then (hEn.mono fun _ _ e => e), ?_⟩)
  have hX := hX.thenNew hEn fr2
  have hb3 := hb3.ext1 hEn ne2_3.symm
  have hb2 : Blk w7 b2 37 (bytesU (sealB l)) := by
    rw [hS, ← sum_put R _ h4]; exact hb2n
  refine wd_sw (wb_nil (f_then (c_seq (c_region (wl (st_ldB I_ok hb2 rfl (by rw [bytesU_len, sealB_len hl]) ?_))))))
  refine wl (st_stW (l' := bytesU (sealB l)) I_ok hb2 rfl rfl (by rw [bytesU_len, sealB_len hl]) (by rw [bytesU_len]) OneC.h fun w8 hb2 hE8 hs8 => ?_)
  have hb3 := hb3.ext1 hE8 ne2_3.symm
  have hX := hX.thenNew hE8 fr2
  refine wl_nil (f_then (c_ret (f_ret [_] ⟨⟨b2, 0, rfl, ld_all I_ok rfl rfl hb2.seg (by rw [bytesU_len, sealB_len hl]; rfl)⟩, trivial⟩ ?_)))
  exact ⟨rfl, hX⟩

theorem and1 (t : Nat) (ht : t < 4294967296) : bitI .and .u32 (t : Int) 1 = ((t % 2 : Nat) : Int) := by
  have e1 : (BitVec.ofInt IntKind.u32.bits (t : Int) &&& BitVec.ofInt IntKind.u32.bits 1).toNat = t % 2 := by
    rw [BitVec.toNat_and]
    have e2 : (BitVec.ofInt IntKind.u32.bits (t : Int)).toNat = t := by
      show (BitVec.ofInt 32 (t : Int)).toNat = t
      rw [BitVec.toNat_ofInt]
      omega
    have e3 : (BitVec.ofInt IntKind.u32.bits 1).toNat = 1 := rfl
    rw [e2, e3, Nat.and_one_is_mod]
  show IntKind.u32.wrap _ = _
  rw [e1, IntKind.wrap_u32]
  omega
theorem area_calls (w : World) (x : Value) (n t : Nat) (hn : n < 5000000000) (ht : t < 4294967296) (_hx : x.oneCell' = true) :
    CallsV Tryz.prog 51 [.agg #[x, .int .i64 (n : Int)], .int .u32 (t : Int)] w fun v w' => v = .int .i64 (areaB t n : Int) ∧ Ext No w w' := by
  refine calls_enter Tryz.func51 rfl rfl rfl rfl ?_
  have hX := Ext.refl No w
  refine c_seq (c_region (wl (st_al I_ok rfl fun b2 w1 hn2 hb2 hE1 => ?_)))
  have fr2 := Nat.le_trans hX.size hn2
  have hX := hX.thenNo hE1
  have hb2 : Blk w1 b2 89 ([x, .int .i64 (n : Int)]) := hb2
  refine wl_p I_ok rfl (wl_nil (f_then (c_seq (c_seq (c_region (wl_p I_ok rfl (wl_nil (f_then (c_if rfl (fun hc => ?_) (fun hc => ?_))))))))))
  · have e1 : areaB t n = 2 + n := if_pos (by rw [and1 t ht] at hc; omega)
    rw [e1]
    refine c_seq (c_region (wl_p I_ok rfl (wl (st_ldb I_ok hb2 rfl rfl (wl_p I_ok rfl ?_)))))
    rw [IntWalk.i64_in _ (by omega)]
    refine wl_nil (f_then (c_ret (f_thenR (f_ret1 rfl rfl ?_))))
    exact ⟨by congr 1, hX⟩
  · have e1 : areaB t n = 2 := if_neg (by rw [and1 t ht] at hc; omega)
    rw [e1]
    refine c_skip (f_then (c_seq (c_region (wl_p I_ok rfl (wl_nil (f_then (c_ret (f_ret1 rfl rfl ?_))))))))
    exact ⟨rfl, hX⟩
theorem _root_.Go.Vc.Blk.slB {w : World} {b T : Nat} {l : Bytes} (h : Blk w b T (bytesU l)) : SlB w (some ⟨b, 0, none⟩) l := ⟨by rw [bytesU_len, Nat.mul_one], .inr ⟨b, 0, rfl, h.seg⟩⟩
theorem wrap32 (n : Nat) (h : n < 4294967296) : IntKind.u32.wrap (n : Int) = (n : Int) := by rw [IntKind.wrap_u32]; omega
theorem fits_calls (w : World) {d : Nat} {F : Nat → Prop} {D : Dsk} (h : At w d F D) (n : Int) (hn : -9223372036854775808 ≤ n ∧ n < 9223372036854775808) :
    CallsV Tryz.prog 44 [.agg #[.pointer (some ⟨d, 0, none⟩), .int .i64 n]] w fun v w' => v = .bool (decide (0 ≤ n ∧ FitsB n.toNat D.secs.length)) ∧ Ext No w w' := by
  refine calls_enter Tryz.func44 rfl rfl rfl rfl ?_
  have hX := Ext.refl No w
  refine c_seq (c_region (wl (st_al I_ok rfl fun b1 w1 hn1 hb1 hE1 => ?_)))
  have fr1 := Nat.le_trans hX.size hn1
  have hX := hX.thenNo hE1
  have hb1 : Blk w1 b1 89 ([.pointer (some ⟨d, 0, none⟩), .int .i64 n]) := hb1
  refine wl_p I_ok rfl (wl_nil (f_then (c_cutK (α := Bool) [] rfl (fun z => [(2, .bool z)]) (fun z u => (z = decide (0 ≤ n ∧ FitsB n.toNat D.secs.length)) ∧ Blk u b1 89 ([.pointer (some ⟨d, 0, none⟩), .int .i64 n]) ∧ Ext No w u) ?_ ?_)))
  · refine c_draw rfl 19 [(0, true), (1, true), (2, true), (3, true), (4, true), (5, true), (6, true), (7, true), (8, true), (9, true), (10, true), (12, true), (13, true), (14, true), (15, true), (11, false), (16, true), (17, true), (18, true)] [] (No) (by kernel_rfl) fun w2 hE2 hs2 => ?_
    have hd1 := hb1
    have hXd := hX
    have hb1 := hb1.extNo hE2
    have hX := hX.thenNo hE2
    have hC : Ext (No) _ w2 := hE2.no
    refine wd_k I_ok 1 rfl (wd_ld I_ok rfl rfl (fun w' hw' => (hd1.extNo hw').cell rfl) ?_)
    refine wd_k I_ok 2 rfl (wd_caseD 6 rfl (fun hg => ?_) (fun hg => ?_))
    · refine wd_k I_ok 1 rfl ?_
      refine wd_ld I_ok rfl rfl (fun w' hw' => (hd1.extNo hw').cell rfl) ?_
      refine wd_k I_ok 3 rfl (wd_caseD 11 rfl (fun hg => ?_) (fun hg => ?_))
      · have hg2 := hg
        refine wd_k I_ok 1 rfl (wd_ld I_ok rfl rfl (fun w' hw' => (hd1.extNo hw').cell rfl) ?_)
        refine wd_k I_ok 1 rfl (wd_ld I_ok rfl rfl (fun w' hw' => (hd1.extNo hw').cell rfl) ?_)
        refine wd_k I_ok 2 rfl ?_
        rw [IntWalk.i64_in (2 * n) (by omega), IntWalk.i64_in _ (by omega)]
        refine wd_l rfl (st_call Tryz.call61 rfl rfl rfl rfl rfl rfl ((dk_len w2 (h.extNo hX)).same) fun v3 w3 hr3 => ⟨(by obtain ⟨rfl, hE3⟩ := hr3; exact hC.thenNo hE3), ?_⟩)
        obtain ⟨rfl, hE3⟩ := hr3
        have hb1 := hb1.extNo hE3
        have hX := hX.thenNo hE3
        have hC := hC.thenNo hE3
        refine wd_k I_ok 3 rfl (wd_sw (wb_nil ?_))
        exact f_cut (_) rfl ⟨by rw [decide_eq_decide]; unfold FitsB; omega, hb1, hX⟩
      · refine wd_k I_ok 10 rfl ?_
        refine wd_sw (wb_nil ?_)
        exact f_cut (false) rfl ⟨by symm; rw [decide_eq_false_iff_not]; unfold FitsB; omega, hb1, hX⟩
    · refine wd_k I_ok 15 rfl ?_
      refine wd_sw (wb_nil ?_)
      exact f_cut (false) rfl ⟨by symm; rw [decide_eq_false_iff_not]; unfold FitsB; omega, hb1, hX⟩
  rintro z w4 ⟨rfl, hb1, hX⟩
  refine c_ret (f_ret1 rfl rfl ?_)
  exact ⟨rfl, hX⟩

theorem head_calls (w : World) (x : Value) (n t : Nat) (hn : n < 4294967296) (ht : t < 4294967296) (_hx : x.oneCell' = true) (hr : Rt w) :
    CallsV Tryz.prog 84 [.agg #[x, .int .i64 (n : Int)], .int .u32 (t : Int)] w fun v w' => v = numB (headB t n) ∧ Ext No w w' := by
  refine calls_enter Tryz.func84 rfl rfl rfl rfl ?_
  have hX := Ext.refl No w
  refine c_seq (c_region (wl (st_al I_ok rfl fun b2 w1 hn2 hb2 hE1 => ?_)))
  have fr2 := Nat.le_trans hX.size hn2
  have hX := hX.thenNo hE1
  have hb2 : Blk w1 b2 89 ([x, .int .i64 (n : Int)]) := hb2
  refine wl (st_al I_ok rfl fun b4 w2 hn4 hb4 hE2 => ?_)
  have ne2_4 : b2 ≠ b4 := Nat.ne_of_lt (Nat.lt_of_lt_of_le hb2.lt hn4)
  have fr4 := Nat.le_trans hX.size hn4
  have hb2 := hb2.extNo hE2
  have hX := hX.thenNo hE2
  refine wl_nil (f_then (c_seq (c_draw rfl 9 [(2, true), (4, true), (5, true), (6, true), (0, false), (1, false), (3, false), (7, false), (8, false)] [9] (No) (by kernel_rfl) fun w3 hE3 hs3 => ?_)))
  have hd2 := hb2
  have hd4 := hb4
  have hXd := hX
  have hb2 := hb2.extNo hE3
  have hb4 := hb4.extNo hE3
  have hX := hX.thenNo hE3
  have hC : Ext (No) _ w3 := hE3.no
  refine wd_k I_ok 2 rfl (wd_ld I_ok rfl rfl (fun w' hw' => (hd2.extNo hw').cell rfl) ?_)
  refine wd_k I_ok 1 rfl ?_
  rw [wrap32 n hn]
  have hC0 := hC
  refine wd_l rfl (st_bs I_ok rfl 1 rfl rfl rfl (by decide) (by decide) (by simp [partsOk]) (l' := bytesU lettersB) rfl fun b5 w4 hn5 hb5 hE4 hs4 => ⟨hC.thenNo hE4, ?_⟩)
  have ne2_5 : b2 ≠ b5 := Nat.ne_of_lt (Nat.lt_of_lt_of_le hb2.lt hn5)
  have ne4_5 : b4 ≠ b5 := Nat.ne_of_lt (Nat.lt_of_lt_of_le hb4.lt hn5)
  have fr5 := Nat.le_trans hX.size hn5
  have hb2 := hb2.extNo hE4
  have hb4 := hb4.extNo hE4
  have hX := hX.thenNo hE4
  have hC := hC.thenNo hE4
  refine wd_l rfl (st_cv I_ok rfl hb5 fun w5 hEn hsg5 hsn => ⟨hC.trans hEn fun x hx e => by have e : x = b5 := e; have := hC0.size; omega, ?_⟩)
  have hC := hC.trans hEn (S := No) fun x hx e => by have e : x = b5 := e; have := hC0.size; omega
  have hX := hX.thenNew hEn fr5
  have hb2 := hb2.ext1 hEn ne2_5
  have hb4 := hb4.ext1 hEn ne4_5
  have hs5 : SlB w5 (some ⟨b5, 0, none⟩) lettersB := ⟨rfl, .inr ⟨b5, 0, rfl, hsg5⟩⟩
  refine wd_l rfl (st_call Tryz.call87 rfl rfl rfl rfl rfl rfl (put32_calls w5 (l := lettersB) hs5 (by decide) t ht) fun v6 w6 hr6 => ⟨(by obtain ⟨b8, rfl, hn8, hb8, hE6⟩ := hr6; exact hC.thenNo hE6), ?_⟩)
  obtain ⟨b8, rfl, hn8, hb8, hE6⟩ := hr6
  have hb2 := hb2.extNo hE6
  have hb4 := hb4.extNo hE6
  have hX := hX.thenNo hE6
  have hC := hC.thenNo hE6
  refine wd_l rfl (st_call Tryz.call87 rfl rfl rfl rfl rfl rfl (put32_calls w6 hb8.slB (by simp [lettersB, be_len]) n hn) fun v7 w7 hr7 => ⟨(by obtain ⟨b12, rfl, hn12, hb12, hE7⟩ := hr7; exact hC.thenNo hE7), ?_⟩)
  obtain ⟨b12, rfl, hn12, hb12, hE7⟩ := hr7
  have hb2 := hb2.extNo hE7
  have hb4 := hb4.extNo hE7
  have hX := hX.thenNo hE7
  have hC := hC.thenNo hE7
  refine wd_l rfl (st_call Tryz.call88 rfl rfl rfl rfl rfl rfl (sealed_calls w7 hb12.slB (by simp [lettersB, be_len]) (hr.ext hX id)) fun v8 w8 hr8 => ⟨(by obtain ⟨rfl, hE8⟩ := hr8; exact hC.thenNo hE8), ?_⟩)
  obtain ⟨rfl, hE8⟩ := hr8
  have hb2 := hb2.extNo hE8
  have hb4 := hb4.extNo hE8
  have hX := hX.thenNo hE8
  have hC := hC.thenNo hE8
  refine wd_sw (wb rfl (st_stW (l' := bytesU (headB t n)) I_ok hb4 rfl rfl (by rw [bytesU_len, headB_len]) (by rw [bytesU_len, headB_len]; rfl) OneC.h fun w9 hb4 hE9 hs9 => ?_))
  have hb2 := hb2.ext1 hE9 ne2_4
  have hX := hX.thenNew hE9 fr4
  refine wb_nil (f_then (c_ret (f_ret [_] ⟨⟨b4, 0, rfl, ld_all I_ok rfl rfl hb4.seg (by rw [bytesU_len, headB_len]; rfl)⟩, trivial⟩ ?_)))
  exact ⟨rfl, hX⟩
end Go.Proofs.YtlfdlodcjiaiiaaGreatDoor
namespace Go.Proofs.YtlfdlodcjiaiiaaGreatDoor
open Go.Vc
/-- what is asked of an iterator's walk -/
abbrev ItQ (w : World) (F : Nat → Prop) (N : Nat) (J Jx : Nat → (Nat → Prop) → World → Prop) (w' : World) : Prop :=
  ∃ F' : Nat → Prop, Ext F w w' ∧ (∀ x, F' x → F x ∨ w.heap.size ≤ x) ∧ (J N F' w' ∨ ∃ k, k < N ∧ Jx k F' w')
abbrev argB (l : List Bytes) (k : Nat) : Array Value := #[numB (l.getD k [])]
theorem getD_rep {n k : Nat} {b : Bytes} (h : k < n) : (List.replicate n b).getD k [] = b := by simp [h]
theorem blank1_walk (w : World) {l b n : Nat} {F : Nat → Prop} {J Jx : Nat → (Nat → Prop) → World → Prop} (hC : Cons Tryz.prog l w.heap.size n (argB (List.replicate n zeros)) J Jx) (hb : Blk w b 3 [.int .i64 (n : Int)]) (hn : n < 1000000000) (h0 : J 0 F w) :
    CallsV Tryz.prog 82 [.func (.yield l) #[] #[], .pointer (some ⟨b, 0, none⟩)] w fun _ w' => ItQ w F n J Jx w' := by
  refine calls_enter Tryz.func82 rfl rfl rfl rfl ?_
  have hX := Ext.refl F w
  refine c_seq (c_region (wl (st_ld I_ok rfl (hb.cell rfl) (wl_p I_ok rfl (wl_nil (f_then (c_block ?_)))))))
  refine c_loopK (α := Nat × (Nat → Prop)) [0, 3] rfl (fun z => [(4, .int .i64 (z.1 : Int))]) (fun z u => (z.1 ≤ n ∧ J z.1 z.2 u ∧ (∀ x, z.2 x → F x ∨ w.heap.size ≤ x)) ∧ Ext F w u) (fun z u => n - z.1) (0, F) rfl ⟨⟨Nat.zero_le _, h0, fun x hx => .inl hx⟩, hX⟩ ?_
  rintro ⟨k, G⟩ w1 ⟨⟨hk, hJ, hG⟩, hX⟩
  try dsimp only
  dsimp only at hk hJ hG
  refine c_seq (c_region (wl_p I_ok rfl (wl_nil (f_then (c_seq (c_if rfl (fun hc => ?_) (fun hc => ?_)))))))
  · have hkn : k < n := by omega
    refine c_skip (f_then (c_seq (c_block (c_seq (c_regionI (wlw_p rfl I_ok rfl (wlw rfl (st_bd I_ok rfl trivial (l' := bytesU zeros) (by rw [zeros_b]; rfl) ?_))))))))
    rw [show bytesU zeros = bytesU ((List.replicate n zeros).getD k []) from by rw [getD_rep hkn]]
    refine wli_yield rfl rfl rfl rfl rfl rfl (hC.round hJ hkn) fun y w2 hy => ?_
    obtain ⟨G2, hEy, hGy, hyt, hyf⟩ := hy
    have hX0 := hX.size
    have hX := hX.trans hEy fun x hx e => (hG x e).resolve_right (by omega)
    have hG2 : ∀ x, G2 x → F x ∨ w.heap.size ≤ x := fun x hx => (hGy x hx).elim (hG x) fun h => .inr (by omega)
    refine wlw_p rfl I_ok rfl (wli_nil (f_then (c_cond rfl (fun hc => ?_) (fun hc => ?_))))
    · have hJx := hyf (by simpa using hc)
      refine c_ret (f_blockR (f_thenR (f_thenR (f_blockR (f_ret0 rfl ?_)))))
      exact ⟨G2, hX, hG2, .inr ⟨k, hkn, hJx⟩⟩
    · have hJ := hyt (by simpa using hc)
      refine c_skip (f_blockN (f_then (c_region (wl_p I_ok rfl ?_))))
      rw [IntWalk.i64_in _ (by omega)]
      refine wl_nil ?_
      exact f_round (k + 1, G2) rfl ⟨⟨hkn, hJ, hG2⟩, hX⟩ (by first | omega | (dsimp only; omega))
  · have hkn : k = n := by omega
    subst hkn
    refine c_exit (f_thenE (f_thenE (f_blockE (f_end0 rfl ?_))))
    exact ⟨G, hX, hG, .inl hJ⟩
theorem blank1_iter (w : World) {b n : Nat} (hb : Blk w b 3 [.int .i64 (n : Int)]) (hn : n < 1000000000) : Iter Tryz.prog 82 [.pointer (some ⟨b, 0, none⟩)] n (argB (List.replicate n zeros)) (One b) w := fun _ _ _ _ hC h0 _ => blank1_walk w hC hb hn h0
theorem blank_calls (w : World) (n : Nat) :
    CallsV Tryz.prog 46 [.int .i64 (n : Int)] w fun v w' => ∃ b, v = .func (.func 82) #[] #[.pointer (some ⟨b, 0, none⟩)] ∧ w.heap.size ≤ b ∧ Blk w' b 3 [.int .i64 (n : Int)] ∧ Ext No w w' := by
  refine calls_enter Tryz.func46 rfl rfl rfl rfl ?_
  have hX := Ext.refl No w
  refine c_seq (c_region (wl (st_al I_ok rfl fun b1 w1 hn1 hb1 hE1 => ?_)))
  have fr1 := Nat.le_trans hX.size hn1
  have hX := hX.thenNo hE1
  have hb1 : Blk w1 b1 3 ([.int .i64 (n : Int)]) := hb1
  refine wl_p I_ok rfl (wl_nil (f_then (c_seq (c_region (wl_p I_ok rfl (wl_nil (f_then (c_ret (f_ret1 rfl rfl ?_)))))))))
  exact ⟨b1, rfl, fr1, hb1, hX⟩

theorem begin1_walk (w : World) {l bl bt n t : Nat} {x : Value} {F : Nat → Prop} {J Jx : Nat → (Nat → Prop) → World → Prop} (hC : Cons Tryz.prog l w.heap.size 1 (argB [headB t n]) J Jx) (hbl : Blk w bl 89 [x, .int .i64 (n : Int)]) (hbt : Blk w bt 95 [.int .u32 (t : Int)]) (hx : x.oneCell' = true) (hn : n < 4294967296) (ht : t < 4294967296) (hr : Rt w) (h0 : J 0 F w) :
    CallsV Tryz.prog 83 [.func (.yield l) #[] #[], .pointer (some ⟨bl, 0, none⟩), .pointer (some ⟨bt, 0, none⟩)] w fun _ w' => ItQ w F 1 J Jx w' := by
  obtain ⟨H, hH⟩ : ∃ H, H = headB t n := ⟨_, rfl⟩
  rw [← hH] at hC
  refine calls_enter Tryz.func83 rfl rfl rfl rfl ?_
  have hX := Ext.refl F w
  have hJ := h0
  refine c_regionI (wlw_p rfl I_ok rfl (wlw rfl (st_ldN I_ok rfl hbl.seg rfl (wlw rfl (st_ld I_ok rfl (hbt.cell rfl) (wlw rfl (st_call Tryz.call84 rfl rfl rfl rfl rfl rfl (head_calls w x n t hn ht hx hr) fun v1 w1 hr1 => ?_)))))))
  obtain ⟨rfl, hE1⟩ := hr1
  have hJ := hC.st hJ hE1 fun _ e => e.elim
  have hX := hX.thenNo hE1
  rw [← hH]
  refine wli_yield rfl rfl rfl rfl rfl rfl (hC.round hJ (by decide)) fun y w2 hy => ?_
  obtain ⟨G2, hEy, hGy, hyt, hyf⟩ := hy
  have hX0 := hX.size
  have hX := hX.then hEy
  have hG2 : ∀ x, G2 x → F x ∨ w.heap.size ≤ x := fun x hx => (hGy x hx).elim .inl fun h => .inr (by omega)
  refine wli_nil (f_end0 rfl (⟨G2, hX, hG2, ?_⟩))
  cases y with
  | true => exact .inl (hyt rfl)
  | false => exact .inr ⟨0, by decide, hyf rfl⟩
theorem begin1_iter (w : World) {bl bt n t : Nat} {x : Value} (hbl : Blk w bl 89 [x, .int .i64 (n : Int)]) (hbt : Blk w bt 95 [.int .u32 (t : Int)]) (hx : x.oneCell' = true) (hn : n < 4294967296) (ht : t < 4294967296) (hr : Rt w) : Iter Tryz.prog 83 [.pointer (some ⟨bl, 0, none⟩), .pointer (some ⟨bt, 0, none⟩)] 1 (argB [headB t n]) (fun x => x = bl ∨ x = bt ∨ x = 0) w := fun _ _ _ _ hC h0 _ => begin1_walk w hC hbl hbt hx hn ht hr h0
end Go.Proofs.YtlfdlodcjiaiiaaGreatDoor
namespace Go.Proofs.YtlfdlodcjiaiiaaGreatDoor
open Go.Vc
theorem bodyB_len (b : Bytes) : (bodyB b).length = b.length + 4 := by simp [bodyB, be_len]; omega
theorem sect_le (b : Bytes) (hb : b.length ≤ 40000) {k : Nat} (hk : k < sectN b.length) : 48 * k < (bodyB b).length := by
  have := sectN_tight hb
  rw [bodyB_len]
  omega
theorem sect_last (b : Bytes) (hb : b.length ≤ 40000) : (bodyB b).drop (48 * sectN b.length) = [] := by
  have := sectN_room hb
  exact List.drop_eq_nil_of_le (by rw [bodyB_len]; omega)
theorem piece_get (t n : Nat) (b : Bytes) {k : Nat} (hk : k < sectN b.length) : (pieceB t n b).getD k [] = pieceAt t n b k := by simp [pieceB, hk]
theorem own1 {b x : Nat} (h : OwnB (some ⟨b, 0, none⟩) x) : x = b := by
  have h : some (⟨b, 0, none⟩ : Addr) = some ⟨x, 0, none⟩ := h
  simp at h
  exact h.symm
/-- rows of an iterator's own: nobody else turns them -/
theorem own_out {G G2 : Nat → Prop} {b : Nat} {w : World} (h : ¬ G b) (hb : b < w.heap.size) (hG : ∀ x, G2 x → G x ∨ w.heap.size ≤ x) : ¬ G2 b := fun e => (hG b e).elim h fun h => by omega
theorem piece_calls (w : World) (t n : Nat) {p : Option Addr} {m c : Nat} :
    CallsV Tryz.prog 52 [.int .u32 (t : Int), .int .u32 (n : Int), .slice p m c] w fun v w' => ∃ bb bt bn, v = .func (.func 86) #[] #[.pointer (some ⟨bb, 0, none⟩), .pointer (some ⟨bt, 0, none⟩), .pointer (some ⟨bn, 0, none⟩)] ∧ (w.heap.size ≤ bb ∧ w.heap.size ≤ bt ∧ w.heap.size ≤ bn) ∧ Blk w' bb 56 [.slice p m c] ∧ Blk w' bt 95 [.int .u32 (t : Int)] ∧ Blk w' bn 95 [.int .u32 (n : Int)] ∧ Ext No w w' := by
  refine calls_enter Tryz.func52 rfl rfl rfl rfl ?_
  have hX := Ext.refl No w
  refine c_seq (c_region (wl (st_al I_ok rfl fun b3 w1 hn3 hb3 hE1 => ?_)))
  have fr3 := Nat.le_trans hX.size hn3
  have hX := hX.thenNo hE1
  have hb3 : Blk w1 b3 95 ([.int .u32 (t : Int)]) := hb3
  refine wl (st_al I_ok rfl fun b4 w2 hn4 hb4 hE2 => ?_)
  have ne3_4 : b3 ≠ b4 := Nat.ne_of_lt (Nat.lt_of_lt_of_le hb3.lt hn4)
  have fr4 := Nat.le_trans hX.size hn4
  have hb3 := hb3.extNo hE2
  have hX := hX.thenNo hE2
  have hb4 : Blk w2 b4 95 ([.int .u32 (n : Int)]) := hb4
  refine wl (st_al I_ok rfl fun b5 w3 hn5 hb5 hE3 => ?_)
  have ne3_5 : b3 ≠ b5 := Nat.ne_of_lt (Nat.lt_of_lt_of_le hb3.lt hn5)
  have ne4_5 : b4 ≠ b5 := Nat.ne_of_lt (Nat.lt_of_lt_of_le hb4.lt hn5)
  have fr5 := Nat.le_trans hX.size hn5
  have hb3 := hb3.extNo hE3
  have hb4 := hb4.extNo hE3
  have hX := hX.thenNo hE3
  have hb5 : Blk w3 b5 56 ([.slice p m c]) := hb5
  refine wl_p I_ok rfl (wl_nil (f_then (c_seq (c_region (wl_p I_ok rfl (wl_nil (f_then (c_ret (f_ret1 rfl rfl ?_)))))))))
  exact ⟨b5, b3, b4, rfl, ⟨fr5, fr3, fr4⟩, hb5, hb3, hb4, hX⟩

/-- a row of bytes of the iterator's own -/
def RowN (w u : World) (G : Nat → Prop) (q : Option Addr) (m c : Nat) (l : Bytes) : Prop :=
  SlB u q l ∧ m = l.length ∧ m ≤ c ∧ ∀ x off, q = some ⟨x, off, none⟩ → w.heap.size ≤ x ∧ x < u.heap.size ∧ ¬ G x
theorem RowN.extNo {w u u' : World} {G : Nat → Prop} {q : Option Addr} {m c : Nat} {l : Bytes} (h : RowN w u G q m c l) (hE : Ext No u u') : RowN w u' G q m c l :=
  ⟨h.1.extNo hE, h.2.1, h.2.2.1, fun x off e => let ⟨a, b, d⟩ := h.2.2.2 x off e; ⟨a, Nat.lt_of_lt_of_le b hE.size, d⟩⟩
theorem RowN.round {w u u' : World} {G G2 : Nat → Prop} {q : Option Addr} {m c : Nat} {l : Bytes} (h : RowN w u G q m c l) (hE : Ext G u u') (hG : ∀ x, G2 x → G x ∨ u.heap.size ≤ x) : RowN w u' G2 q m c l :=
  ⟨h.1.ext hE fun x off e => (h.2.2.2 x off e).2.2, h.2.1, h.2.2.1, fun x off e => let ⟨a, b, d⟩ := h.2.2.2 x off e; ⟨a, Nat.lt_of_lt_of_le b hE.size, own_out d b hG⟩⟩
theorem slBase_some {q : Option Addr} {l m sz x off : Nat} (h : slBase q l m sz = some ⟨x, off, none⟩) (hq : ∀ x off sp, q = some ⟨x, off, sp⟩ → sp = none) : ∃ off', q = some ⟨x, off', none⟩ := by
  unfold slBase at h
  split at h
  · exact ⟨off, h⟩
  · cases q with
    | none => cases h
    | some a =>
      obtain ⟨x', off', sp⟩ := a
      obtain rfl := hq _ _ _ rfl
      simp only [Option.map_some, Option.some.injEq] at h
      unfold Addr.add at h
      split at h
      · simp at h; exact ⟨off', by rw [h.1]⟩
      · simp at h; exact ⟨off', by rw [h.1]⟩
theorem slB_spot {w : World} {q : Option Addr} {l : Bytes} (h : SlB w q l) (hl : l ≠ []) : ∀ x off sp, q = some ⟨x, off, sp⟩ → sp = none := fun x off sp e => by
  rcases h.2 with h0 | ⟨b, o, h1, _⟩
  · exact absurd (List.eq_nil_of_length_eq_zero h0) hl
  · rw [h1] at e; simp at e; exact e.2.2.symm
theorem RowN.tail {w u : World} {G : Nat → Prop} {q : Option Addr} {m c : Nat} {l : Bytes} (h : RowN w u G q m c l) (hl : l ≠ []) {k : Nat} (hk : k ≤ m) : RowN w u G (slBase q k c 1) (m - k) (c - k) (l.drop k) := by
  obtain ⟨h1, h2, h3, h4⟩ := h
  have hsp := slB_spot h1 hl
  have hS := h1.slice k m c hk h3 (by omega)
  rw [Nat.mul_one, Nat.mul_one, bytesU_drop, bytesU_take, List.take_of_length_le (by rw [List.length_drop]; omega)] at hS
  refine ⟨?_, by rw [List.length_drop]; omega, by omega, fun x off e => ?_⟩
  · rw [SlB, List.length_drop, ← h2]; exact hS
  · obtain ⟨off', e'⟩ := slBase_some e hsp
    exact h4 x off' e'
theorem RowN.head {w u : World} {G : Nat → Prop} {q : Option Addr} {m c : Nat} {l : Bytes} (h : RowN w u G q m c l) {k : Nat} (hk : k ≤ m) : SlB u q (l.take k) := by
  obtain ⟨h1, h2, h3, h4⟩ := h
  have hS := h1.slice 0 k k (Nat.zero_le _) (Nat.le_refl _) (by omega)
  rw [slBase_zero, Nat.sub_zero, Nat.zero_mul, List.drop_zero, Nat.mul_one, bytesU_take] at hS
  rw [SlB, List.length_take, Nat.min_eq_left (by omega)]
  exact hS
theorem wrap16 (n : Nat) (h : n < 65536) : IntKind.u16.wrap (n : Int) = (n : Int) := by rw [IntKind.wrap_u16]; omega
theorem piece1_walk (w : World) {l bb bt bn t n c : Nat} {p : Option Addr} {b : Bytes} {F : Nat → Prop} {J Jx : Nat → (Nat → Prop) → World → Prop} (hCo : Cons Tryz.prog l w.heap.size (sectN b.length) (argB (pieceB t n b)) J Jx)
    (hbb : Blk w bb 56 [.slice p b.length c]) (hbt : Blk w bt 95 [.int .u32 (t : Int)]) (hbn : Blk w bn 95 [.int .u32 (n : Int)]) (hs : SlB w p b) (ht : t < 4294967296) (hn : n < 4294967296) (hb4 : b.length ≤ 40000) (hr : Rt w)
    (hF : ¬ F 0) (h0 : J 0 F w) :
    CallsV Tryz.prog 86 [.func (.yield l) #[] #[], .pointer (some ⟨bb, 0, none⟩), .pointer (some ⟨bt, 0, none⟩), .pointer (some ⟨bn, 0, none⟩)] w fun _ w' => ItQ w F (sectN b.length) J Jx w' := by
  have hsl := sectN_le b.length
  refine calls_enter Tryz.func86 rfl rfl rfl rfl ?_
  have hX := Ext.refl F w
  have hJ := h0
  have hFlt := hCo.lt h0
  have hr0 := hr.lt
  have lbb := hbb.lt
  have lbt := hbt.lt
  have lbn := hbn.lt
  refine c_seq (c_draw rfl 7 [(0, true), (1, true), (2, true), (4, true), (3, false), (5, false), (6, true)] [] (No) (by kernel_rfl) fun w1 hE1 hs1 => ?_)
  have hJd := hJ
  have hbbd := hbb
  have hbtd := hbt
  have hbnd := hbn
  have hsd := hs
  have hrd := hr
  have hXd := hX
  have hJ := hCo.st hJ hE1 fun _ e => e.elim
  have hbb := hbb.extNo hE1
  have hbt := hbt.extNo hE1
  have hbn := hbn.extNo hE1
  have hs := hs.extNo hE1
  have hr := Rt.ext hr hE1 id
  have hX := hX.thenNo hE1
  have hC : Ext (No) _ w1 := hE1.no
  refine wd_ld I_ok rfl rfl (fun w' hw' => ((hbbd.extNo hw').cell rfl)) ?_
  refine wd_k I_ok 2 rfl ?_
  rw [wrap32 b.length (by omega)]
  refine wd_ld I_ok rfl rfl (fun w' hw' => ((hbbd.extNo hw').cell rfl)) ?_
  have hXa := hX
  refine wd_l rfl (st_call Tryz.call87 rfl rfl rfl rfl rfl rfl (put32_calls w1 (l := []) (Sl.nil _ _ _) (by decide) b.length (by omega)) fun v2 w2 hr2 => ⟨(by obtain ⟨b13, rfl, hn13, hb13, hE2⟩ := hr2; exact hC.thenNo hE2), ?_⟩)
  obtain ⟨b13, rfl, hn13, hb13, hE2⟩ := hr2
  have hJ := hCo.st hJ hE2 fun _ e => e.elim
  have hbb := hbb.extNo hE2
  have hbt := hbt.extNo hE2
  have hbn := hbn.extNo hE2
  have hs := hs.extNo hE2
  have hr := Rt.ext hr hE2 id
  have hX := hX.thenNo hE2
  have hC := hC.thenNo hE2
  have fr13 := Nat.le_trans hXa.size hn13
  have ho13 := Own.blk hb13 1 (n := 4) (c := 4) (T := 5) (by rw [bytesU_len, List.nil_append, be_len]) (by decide) (by decide)
  refine wd_l rfl (st_app I_ok rfl 1 1 rfl rfl rfl (by decide) ho13 (Src.slice hs OneC.h) (by dsimp only [maxLen]; simp only [be_len, List.nil_append]; omega) (by dsimp only; simp only [be_len, List.nil_append]; omega) fun pr cr w3 hor hEn hBr => ⟨hC.trans hEn fun x hx e => by have := own1 e; omega, ?_⟩)
  have nbb : bb ≠ b13 := by omega
  have nbt : bt ≠ b13 := by omega
  have nbn : bn ≠ b13 := by omega
  have hSn : ∀ x, OwnB (some (⟨b13, 0, none⟩ : Addr)) x → x = b13 := fun x e => by have e : some (⟨b13, 0, none⟩ : Addr) = some ⟨x, 0, none⟩ := e; simp at e; exact e.symm
  have hX := hX.trans hEn fun x hx e => by have := hSn x e; omega
  have hJ := hCo.st hJ hEn fun x e => by have := hSn x e; exact ⟨by omega, fun e => by have := hFlt _ e; omega⟩
  have hbb := hbb.ext hEn fun e => nbb (hSn _ e)
  have hbt := hbt.ext hEn fun e => nbt (hSn _ e)
  have hbn := hbn.ext hEn fun e => nbn (hSn _ e)
  have hr := Rt.ext hr hEn fun e => by have := hSn _ e; omega
  have hrow : RowN w w3 F pr (4 + b.length) cr (bodyB b) := by
    have hor : Own w3 pr (4 + b.length) cr 5 1 ((bytesU ([] ++ be 4 b.length)).take (4 * 1) ++ bytesU b) := hor
    rw [List.nil_append, Nat.mul_one, bytesU_take, List.take_of_length_le (by rw [be_len]; omega), ← bytesU_append] at hor
    have e1 : 4 + b.length = (bodyB b).length := by rw [bodyB_len]; omega
    refine ⟨by have := hor.sl; rw [e1] at this; exact this, e1, hor.cap, fun x off e => ?_⟩
    have hx : OwnB pr x := by
      rcases hor with ⟨h1, _⟩ | ⟨b', l', h1, _⟩
      · rw [h1] at e; cases e
      · rw [h1] at e; simp at e; obtain ⟨rfl, rfl⟩ := e; exact h1
    have hw : w.heap.size ≤ x := (hBr x hx).elim (fun h => by have := hSn x h; omega) fun h => by have := hXa.size; have := hE2.size; omega
    exact ⟨hw, hor.lt hx, fun e => by have := hFlt _ e; omega⟩
  have hs := 0
  dsimp only
  rw [show Value.slice pr (([] ++ be 4 b.length : List UInt8).length + b.length) cr = .slice pr (4 + b.length) cr from by rw [List.nil_append, be_len]]
  refine wd_k I_ok 1 rfl (wd_sw (wb_nil (f_then (c_seq (c_region (wl (st_ld I_ok rfl (hbb.cell rfl) (wl_p I_ok rfl (wl (st_call Tryz.call22 rfl rfl rfl rfl rfl rfl (sectors_calls w3 (b.length : Int)) fun v4 w4 hr4 => ?_))))))))))
  obtain ⟨rfl, hE4⟩ := hr4
  have hJ := hCo.st hJ hE4 fun _ e => e.elim
  have hbb := hbb.extNo hE4
  have hbt := hbt.extNo hE4
  have hbn := hbn.extNo hE4
  have hr := Rt.ext hr hE4 id
  have hrow := hrow.extNo hE4
  have hX := hX.thenNo hE4
  rw [sectZ_nat]
  refine wl_p I_ok rfl ?_
  rw [wrap16 _ (by omega)]
  refine wl_p I_ok rfl (wl_nil (f_then (c_seq (c_draw rfl 5 [(0, true), (2, true), (1, false), (3, false), (4, true)] [] (No) (by kernel_rfl) fun w5 hE5 hs5 => ?_))))
  have hJd := hJ
  have hbbd := hbb
  have hbtd := hbt
  have hbnd := hbn
  have hsd := hs
  have hrd := hr
  have hrowd := hrow
  have hXd := hX
  have hJ := hCo.st hJ hE5 fun _ e => e.elim
  have hbb := hbb.extNo hE5
  have hbt := hbt.extNo hE5
  have hbn := hbn.extNo hE5
  have hr := Rt.ext hr hE5 id
  have hrow := hrow.extNo hE5
  have hX := hX.thenNo hE5
  have hC : Ext (No) _ w5 := hE5.no
  refine wd_ld I_ok rfl rfl (fun w' hw' => ((hbtd.extNo hw').cell rfl)) ?_
  refine wd_ld I_ok rfl rfl (fun w' hw' => ((hbnd.extNo hw').cell rfl)) ?_
  refine wd_l rfl (st_call Tryz.call87 rfl rfl rfl rfl rfl rfl (put32_calls w5 (l := []) (Sl.nil _ _ _) (by decide) t ht) fun v6 w6 hr6 => ⟨(by obtain ⟨b21, rfl, hn21, hb21, hE6⟩ := hr6; exact hC.thenNo hE6), ?_⟩)
  obtain ⟨b21, rfl, hn21, hb21, hE6⟩ := hr6
  have hJ := hCo.st hJ hE6 fun _ e => e.elim
  have hbb := hbb.extNo hE6
  have hbt := hbt.extNo hE6
  have hbn := hbn.extNo hE6
  have hr := Rt.ext hr hE6 id
  have hrow := hrow.extNo hE6
  have hX := hX.thenNo hE6
  have hC := hC.thenNo hE6
  have hXb := hX
  refine wd_l rfl (st_call Tryz.call87 rfl rfl rfl rfl rfl rfl (put32_calls w6 hb21.slB (by simp [be_len]) n hn) fun v7 w7 hr7 => ⟨(by obtain ⟨b23, rfl, hn23, hb23, hE7⟩ := hr7; exact hC.thenNo hE7), ?_⟩)
  obtain ⟨b23, rfl, hn23, hb23, hE7⟩ := hr7
  have hJ := hCo.st hJ hE7 fun _ e => e.elim
  have hbb := hbb.extNo hE7
  have hbt := hbt.extNo hE7
  have hbn := hbn.extNo hE7
  have hr := Rt.ext hr hE7 id
  have hrow := hrow.extNo hE7
  have hX := hX.thenNo hE7
  have hC := hC.thenNo hE7
  have fr23 := Nat.le_trans hXb.size hn23
  have hbeg : Blk w7 b23 5 (bytesU (be 4 t ++ be 4 n)) := by rw [List.nil_append] at hb23; exact hb23
  refine wd_k I_ok 1 rfl (wd_sw (wb_nil (f_then (c_seq (c_region (wl_p I_ok rfl (wl_nil (f_then (c_block ?_)))))))))
  refine c_loopK (α := Nat × (Option Addr × Nat × Nat) × (Nat → Prop)) [0, 6, 7, 24] rfl (fun z => [(5, .slice z.2.1.1 z.2.1.2.1 z.2.1.2.2), (25, .int .u16 (z.1 : Int))]) (fun z u => (z.1 ≤ sectN b.length ∧ J z.1 z.2.2 u ∧ (∀ x, z.2.2 x → F x ∨ w.heap.size ≤ x) ∧ RowN w u z.2.2 z.2.1.1 z.2.1.2.1 z.2.1.2.2 ((bodyB b).drop (48 * z.1)) ∧ Blk u b23 5 (bytesU (be 4 t ++ be 4 n)) ∧ ¬ z.2.2 b23 ∧ ¬ z.2.2 0 ∧ Rt u) ∧ Ext F w u) (fun z u => sectN b.length - z.1) (0, (pr, 4 + b.length, cr), F) rfl ⟨⟨Nat.zero_le _, hJ, fun x hx => .inl hx, by rw [Nat.mul_zero, List.drop_zero]; exact hrow, hbeg, fun e => by have := hFlt _ e; omega, hF, hr⟩, hX⟩ ?_
  rintro ⟨k, ⟨q, m, c⟩, G⟩ w8 ⟨⟨hk, hJ, hG, hrow, hbeg, hGb, hG0, hr⟩, hX⟩
  try dsimp only
  dsimp only at hk hJ hG hrow hbeg hGb hG0
  have hm := hrow.2.1
  have hmc := hrow.2.2.1
  have hbegl := hbeg.lt
  refine c_seq (c_region (wl_p I_ok rfl (wl_nil (f_then (c_seq (c_if rfl (fun hc => ?_) (fun hc => ?_)))))))
  · have hkn : k < sectN b.length := by omega
    have hkl := sect_le b hb4 hkn
    rw [List.length_drop] at hm
    have hbl := bodyB_len b
    obtain ⟨mm, hmm⟩ : ∃ mm, mm = min m 48 := ⟨_, rfl⟩
    have hne : (bodyB b).drop (48 * k) ≠ [] := fun e => by have := congrArg List.length e; rw [List.length_drop] at this; simp at this; omega
    refine c_skip (f_then (c_seq (c_block (c_seq (c_region (wl_p I_ok rfl (wl_nil (f_then (c_seq (c_region (wl_p I_ok rfl ?_)))))))))))
    rw [show (if 48 < (m : Int) then (48 : Int) else (m : Int)) = (mm : Int) from by split <;> omega]
    refine wl_p I_ok rfl (wl_nil (f_then (c_seq (c_seq ?_))))
    refine c_drawY 12 rfl 12 [(0, true), (1, true), (2, true), (4, true), (6, true), (7, true), (8, true), (9, true), (3, false), (5, false), (10, false), (11, false)] [] (No) (by kernel_rfl) (by kernel_rfl) [12, 13] rfl fun w9 hE9 hs9 => ?_
    have hJd := hJ
    have hbbd := hbb
    have hbtd := hbt
    have hbnd := hbn
    have hsd := hs
    have hrd := hr
    have hrowd := hrow
    have hbegd := hbeg
    have hXd := hX
    have hJ := hCo.st hJ hE9 fun _ e => e.elim
    have hr := Rt.ext hr hE9 id
    have hrow := hrow.extNo hE9
    have hbeg := hbeg.extNo hE9
    have hX := hX.thenNo hE9
    have hC : Ext (No) _ w9 := hE9.no
    refine wd_k I_ok 7 rfl (wd_sl I_ok rfl rfl 0 mm mm 1 rfl (.inl ⟨rfl, rfl⟩) (.inl rfl) (.inr ⟨rfl, rfl⟩) (Nat.zero_le _) (Nat.le_refl _) (by dsimp only; omega) ?_)
    dsimp only
    rw [slBase_zero, Nat.sub_zero]
    refine wd_l rfl (st_call Tryz.call89 rfl rfl rfl rfl rfl rfl (put16_calls w9 hbeg.slB (by simp [be_len]) k (by omega)) fun v10 w10 hr10 => ⟨(by obtain ⟨b34, rfl, hn34, hb34, hE10⟩ := hr10; exact hC.thenNo hE10), ?_⟩)
    obtain ⟨b34, rfl, hn34, hb34, hE10⟩ := hr10
    have hJ := hCo.st hJ hE10 fun _ e => e.elim
    have hr := Rt.ext hr hE10 id
    have hrow := hrow.extNo hE10
    have hbeg := hbeg.extNo hE10
    have hX := hX.thenNo hE10
    have hC := hC.thenNo hE10
    have hXc := hX
    have hC9 := hC.size
    have hGlt := hCo.lt hJ
    have hrow7 := hrow
    have hbegl7 := hbeg.lt
    have hrl7 := hr.lt
    refine wd_l rfl (st_call Tryz.call89 rfl rfl rfl rfl rfl rfl (put16_calls w10 hb34.slB (by simp [be_len]) (sectN b.length) (by omega)) fun v11 w11 hr11 => ⟨(by obtain ⟨b36, rfl, hn36, hb36, hE11⟩ := hr11; exact hC.thenNo hE11), ?_⟩)
    obtain ⟨b36, rfl, hn36, hb36, hE11⟩ := hr11
    have hJ := hCo.st hJ hE11 fun _ e => e.elim
    have hr := Rt.ext hr hE11 id
    have hrow := hrow.extNo hE11
    have hbeg := hbeg.extNo hE11
    have hX := hX.thenNo hE11
    have hC := hC.thenNo hE11
    have fr36 := Nat.le_trans hXc.size hn36
    obtain ⟨H, hH⟩ : ∃ H, H = be 4 t ++ be 4 n ++ be 2 k ++ be 2 (sectN b.length) := ⟨_, rfl⟩
    rw [← hH] at hb36 ⊢
    have hHl : H.length = 12 := by rw [hH]; simp [be_len]
    have ho36 := Own.blk hb36 1 (n := H.length) (c := H.length) (T := 5) (by rw [bytesU_len, Nat.mul_one]) (Nat.le_refl _) (by rw [hHl]; decide)
    have hml : (((bodyB b).drop (48 * k)).take mm).length = mm := by rw [List.length_take, List.length_drop]; omega
    have hsrc : Sl w11 q mm 1 (bytesU (((bodyB b).drop (48 * k)).take mm)) := by have e := hrow.head (k := mm) (by omega); rw [SlB, hml] at e; exact e
    have hG36 : ¬ G b36 := fun e => by have := hGlt b36 e; omega
    refine wd_l rfl (st_app I_ok rfl 1 1 rfl rfl rfl (by decide) ho36 (Src.slice hsrc OneC.h) (by dsimp only [maxLen]; omega) (by dsimp only; omega) fun pa ca w12 hoa hEa hBa => ⟨hC.trans hEa fun x hx e => by have := own1 e; omega, ?_⟩)
    have hSa : ∀ x, OwnB (some (⟨b36, 0, none⟩ : Addr)) x → x = b36 := fun x e => by have e : some (⟨b36, 0, none⟩ : Addr) = some ⟨x, 0, none⟩ := e; simp at e; exact e.symm
    have hC := hC.trans hEa (S := No) fun x hx e => by have := hSa x e; omega
    have hX := hX.trans hEa fun x hx e => by have := hSa x e; omega
    have hJ := hCo.st hJ hEa fun x e => by have := hSa x e; subst this; exact ⟨fr36, hG36⟩
    have hr := Rt.ext hr hEa fun e => by have := hSa _ e; omega
    have hrow : RowN w w12 G q m c ((bodyB b).drop (48 * k)) := by
      refine ⟨hrow.1.ext hEa fun x off e h => ?_, hrow.2.1, hrow.2.2.1, fun x off e => ?_⟩
      · have := hSa x h
        have := (hrow7.2.2.2 x off e).2.1
        omega
      · have h3 := hrow.2.2.2 x off e
        exact ⟨h3.1, Nat.lt_of_lt_of_le h3.2.1 hEa.size, h3.2.2⟩
    have hbeg := hbeg.ext hEa fun e => by have := hSa _ e; omega
    have hoa : Own w12 pa (H.length + mm) ca 5 1 ((bytesU H).take (H.length * 1) ++ bytesU (((bodyB b).drop (48 * k)).take mm)) := hoa
    rw [Nat.mul_one, bytesU_take, List.take_of_length_le (Nat.le_refl _), ← bytesU_append] at hoa
    obtain ⟨A, hA⟩ : ∃ A, A = H ++ ((bodyB b).drop (48 * k)).take mm := ⟨_, rfl⟩
    rw [← hA] at hoa
    have hAl : A.length = H.length + mm := by rw [hA, List.length_append, hml]
    have hsa : SlB w12 pa A := by have e := hoa.sl; rw [← hAl] at e; exact e
    dsimp only
    rw [← hAl]
    refine wd_l rfl (st_call Tryz.call88 rfl rfl rfl rfl rfl rfl (sealed_calls w12 hsa (by omega) hr) fun v13 w13 hr13 => ⟨(by obtain ⟨rfl, hE13⟩ := hr13; exact hC.thenNo hE13), ?_⟩)
    obtain ⟨rfl, hE13⟩ := hr13
    have hJ := hCo.st hJ hE13 fun _ e => e.elim
    have hr := Rt.ext hr hE13 id
    have hrow := hrow.extNo hE13
    have hbeg := hbeg.extNo hE13
    have hX := hX.thenNo hE13
    have hC := hC.thenNo hE13
    have hP : sealB A = pieceAt t n b k := by
      rw [hA, hH, pieceAt]
      congr 2
      rcases Nat.le_total m 48 with h | h
      · rw [List.take_of_length_le (by rw [List.length_drop]; omega), List.take_of_length_le (by rw [List.length_drop]; omega)]
      · rw [show mm = 48 from by omega]
    obtain ⟨Pk, hPk⟩ : ∃ Pk, Pk = pieceAt t n b k := ⟨_, rfl⟩
    rw [hP, ← hPk]
    have hargs : argB (pieceB t n b) k = #[numB Pk] := by rw [argB, piece_get t n b hkn, hPk]
    have hyl := hCo.round hJ hkn
    rw [hargs] at hyl
    refine wd_sw (wb_nil (f_tail (by kernel_rfl) (wbi_yield rfl rfl rfl rfl rfl rfl rfl hyl fun y w14 hy => ?_)))
    obtain ⟨G2, hEy, hGy, hyt, hyf⟩ := hy
    have hX0 := hX.size
    have hX := hX.trans hEy fun x hx e => (hG x e).resolve_right (by omega)
    have hG2 : ∀ x, G2 x → F x ∨ w.heap.size ≤ x := fun x hx => (hGy x hx).elim (hG x) fun h => .inr (by omega)
    have hrow := hrow.round hEy hGy
    have hlb := hbeg.lt
    have hlr := hr.lt
    have hbeg := hbeg.ext hEy hGb
    have hr := Rt.ext hr hEy hG0
    have hGb2 := own_out hGb hlb hGy
    have hG02 := own_out hG0 hlr hGy
    refine wbi (hF := .none) rfl rfl (st_p I_ok rfl rfl rfl (wbi_nil (f_then (c_cond rfl (fun hc => ?_) (fun hc => ?_)))))
    · have hJx := hyf (by simpa using hc)
      refine c_ret (f_thenR (f_blockR (f_thenR (f_thenR (f_blockR (f_ret0 rfl ?_))))))
      exact ⟨G2, hX, hG2, .inr ⟨k, hkn, hJx⟩⟩
    · have hJ := hyt (by simpa using hc)
      refine c_skip (f_then (c_region (wl_p I_ok rfl (wl (st_sl I_ok rfl mm m c 1 rfl (.inr ⟨rfl, rfl⟩) (.inr ⟨rfl, rfl⟩) (.inl rfl) (by omega) hmc (Nat.le_refl _) ?_)))))
      dsimp only
      refine wl_p I_ok rfl (wl_nil (f_blockN (f_then (c_region (wl_p I_ok rfl ?_)))))
      rw [show IntKind.u16.wrap ((k : Int) + 1) = ((k + 1 : Nat) : Int) from wrap16 (k + 1) (by omega)]
      refine wl_p I_ok rfl (wl_nil ?_)
      have hrow2 : RowN w w14 G2 (slBase q mm c 1) (m - mm) (c - mm) ((bodyB b).drop (48 * (k + 1))) := by
        have e := hrow.tail hne (k := mm) (by omega)
        rw [List.drop_drop] at e
        rcases Nat.le_total m 48 with h | h
        · rw [List.drop_eq_nil_of_le (by omega)] at e
          rw [List.drop_eq_nil_of_le (by omega)]
          exact e
        · rw [show 48 * k + mm = 48 * (k + 1) from by omega] at e
          exact e
      exact f_round (k + 1, (slBase q mm c 1, m - mm, c - mm), G2) rfl ⟨⟨hkn, hJ, hG2, hrow2, hbeg, hGb2, hG02, hr⟩, hX⟩ (by first | omega | (dsimp only; omega))
  · have hkn : k = sectN b.length := by omega
    subst hkn
    refine c_exit (f_thenE (f_thenE (f_blockE (f_end0 rfl ?_))))
    exact ⟨G, hX, hG, .inl hJ⟩
theorem piece_iter (w : World) {bb bt bn t n c : Nat} {p : Option Addr} {b : Bytes} (hbb : Blk w bb 56 [.slice p b.length c]) (hbt : Blk w bt 95 [.int .u32 (t : Int)]) (hbn : Blk w bn 95 [.int .u32 (n : Int)]) (hs : SlB w p b) (ht : t < 4294967296) (hn : n < 4294967296) (hb4 : b.length ≤ 40000) (hr : Rt w) :
    Iter Tryz.prog 86 [.pointer (some ⟨bb, 0, none⟩), .pointer (some ⟨bt, 0, none⟩), .pointer (some ⟨bn, 0, none⟩)] (sectN b.length) (argB (pieceB t n b)) (fun x => x = 0) w :=
  fun _ _ _ _ hC h0 hown => piece1_walk w hC hbb hbt hbn hs ht hn hb4 hr (hown 0 rfl) h0
end Go.Proofs.YtlfdlodcjiaiiaaGreatDoor
namespace Go.Proofs.YtlfdlodcjiaiiaaGreatDoor
open Go.Vc
/-- what comes of a call that may turn a disk -/
abbrev DkQ (w : World) (d : Nat) (F : Nat → Prop) (D : Dsk) (w' : World) : Prop := ∃ F' : Nat → Prop, At w' d F' D ∧ Ext F w w' ∧ ∀ x, F' x → F x ∨ w.heap.size ≤ x
theorem dkWrite (w : World) {d m : Nat} {F : Nat → Prop} {D : Dsk} (h : At w d F D) (hok : D.Ok m) (hm : m + 1 < 1000000000) (i : Int) {b : Bytes} (hb : b.length = 64) :
    CallsV Tryz.prog 13 [.pointer (some ⟨d, 0, none⟩), .int .i64 i, numB b] w fun v w' => v = .int .i64 (D.write i b).2 ∧ DkQ w d F (D.write i b).1 w' :=
  (dk_write w h hok hm i hb).mono fun _ w' ⟨h1, h2, h3⟩ => ⟨h1, _, h2, h3, fun _ hx => hx.imp id fun h => h.1⟩
theorem dkSync (w : World) {d m : Nat} {F : Nat → Prop} {D : Dsk} (h : At w d F D) (hok : D.Ok m) (hm : m + 1 < 1000000000) :
    CallsV Tryz.prog 14 [.pointer (some ⟨d, 0, none⟩)] w fun v w' => v = .int .i64 D.sync.2 ∧ DkQ w d F D.sync.1 w' :=
  (dk_sync w h hok hm).mono fun _ _ ⟨h1, h2, h3⟩ => ⟨h1, F, h2, h3, fun _ => .inl⟩
theorem dkRead (w : World) {d m : Nat} {F : Nat → Prop} {D : Dsk} (h : At w d F D) (hok : D.Ok m) (hm : m < 1000000000) (i : Int) :
    CallsV Tryz.prog 12 [.pointer (some ⟨d, 0, none⟩), .int .i64 i] w fun v w' => v = .tuple #[numB (D.read i).2.1, .int .i64 (D.read i).2.2] ∧ At w' d F (D.read i).1 ∧ Ext F w w' := by
  obtain ⟨sb, op, oc, h⟩ := h
  exact (dk_read w h hok hm i).mono fun _ _ ⟨h1, h2, h3⟩ => ⟨h1, ⟨_, _, _, h2⟩, h3.mono fun x _ e => by have e : x = d := e; rw [e]; exact h.own.1⟩
/-- the state between two sectors -/
def PutJ (_w0 : World) (d n m b3 b4 b6 : Nat) (at_ : Int) (D0 : Dsk) (L : List Bytes) (k : Nat) (z : (Nat → Prop) × Dsk) (u : World) : Prop :=
  At u d z.1 z.2 ∧ z.2.Ok (m + 2 * k) ∧ layD D0 at_ L = layD z.2 (at_ + k) (L.drop k) ∧ (¬ z.1 b3 ∧ ¬ z.1 b4 ∧ ¬ z.1 b6) ∧ Blk u b3 89 [.pointer (some ⟨d, 0, none⟩), .int .i64 n] ∧ Blk u b4 3 [.int .i64 (at_ + k)] ∧ ∃ e, Blk u b6 40 [.int .i64 e]
def PutX (b3 b4 b6 d : Nat) (at_ : Int) (D0 : Dsk) (L : List Bytes) (c : Code) (z : (Nat → Prop) × Dsk) (u : World) : Prop :=
  c = .ret ∧ At u d z.1 z.2 ∧ (¬ z.1 b3 ∧ ¬ z.1 b4 ∧ ¬ z.1 b6) ∧ (layD D0 at_ L).1 = z.2 ∧ (b4 < u.heap.size ∧ b6 < u.heap.size) ∧ Blk u b6 40 [.int .i64 (layD D0 at_ L).2]
abbrev PutF (b4 b6 : Nat) (z : (Nat → Prop) × Dsk) : Nat → Prop := fun x => z.1 x ∨ x = b4 ∨ x = b6
def putC (w w0 : World) (d n m b3 b4 b6 : Nat) (at_ : Int) (D0 : Dsk) (L : List Bytes) (h3 : b3 < w.heap.size) : CoS ((Nat → Prop) × Dsk) w where
  Fp := PutF b4 b6
  J := PutJ w0 d n m b3 b4 b6 at_ D0 L
  Jx := fun _ c z u => PutX b3 b4 b6 d at_ D0 L c z u
  st := by
    rintro k z S u u' ⟨h1, h2, h3', h4, h5, h6, e, h7⟩ hE hS
    exact ⟨h1.ext hE fun x hx hs => (hS x hs).2 (.inl hx), h2, h3', h4, h5.ext hE fun hs => by have := (hS _ hs).1; omega, h6.ext hE fun hs => (hS _ hs).2 (.inr (.inl rfl)), e, h7.ext hE fun hs => (hS _ hs).2 (.inr (.inr rfl))⟩
  stx := by
    rintro k c z S u u' ⟨h1, h2, h3', h4, h5, h6⟩ hE hS
    exact ⟨h1, h2.ext hE fun x hx hs => (hS x hs).2 (.inl hx), h3', h4, ⟨Nat.lt_of_lt_of_le h5.1 hE.size, Nat.lt_of_lt_of_le h5.2 hE.size⟩, h6.ext hE fun hs => (hS _ hs).2 (.inr (.inr rfl))⟩
  lt := by
    rintro k z u ⟨h1, h2, h3', h4, h5, h6, e, h7⟩ x hx
    rcases hx with hx | rfl | rfl
    · exact h1.lt x hx
    · exact h6.lt
    · exact h7.lt
  ltx := by
    rintro k c z u ⟨h1, h2, h3', h4, h5, h6⟩ x hx
    rcases hx with hx | rfl | rfl
    · exact h2.lt x hx
    · exact h5.1
    · exact h5.2
theorem grow_sub {F F' G : Nat → Prop} {u w : World} (h : ∀ x, G x → F x ∨ w.heap.size ≤ x) (hs : w.heap.size ≤ u.heap.size) (h' : ∀ x, F' x → G x ∨ u.heap.size ≤ x) : ∀ x, F' x → F x ∨ w.heap.size ≤ x := fun x hx => (h' x hx).elim (h x) fun e => .inr (Nat.le_trans hs e)
theorem put_calls (w : World) {d m gf n : Nat} {F own : Nat → Prop} {D : Dsk} {cap : Array Value} {L : List Bytes} (h : At w d F D) (hok : D.Ok m) (hm : m + 2 * L.length + 3 < 1000000000) (at_ : Int) (hat : -1000000000 ≤ at_ ∧ at_ ≤ 1000000000) (hL64 : ∀ b ∈ L, b.length = 64)
    (hcf : ∀ args w, (callFunc gf args).run Tryz.prog w = .ok (.enter gf args) w) (hit : ∀ w1, Ext No w w1 → Iter Tryz.prog gf cap.toList L.length (argB L) own w1) (hown : ∀ x, own x → x < w.heap.size ∧ ¬ F x) :
    CallsV Tryz.prog 45 [.agg #[.pointer (some ⟨d, 0, none⟩), .int .i64 (n : Int)], .int .i64 at_, .func (.func gf) #[] cap] w fun v w' => v = .int .i64 (layD D at_ L).2 ∧ DkQ w d F (layD D at_ L).1 w' := by
  refine calls_enterM Tryz.func45 rfl rfl rfl rfl ?_
  have hX := Ext.refl F w
  have hFlt := h.lt
  have hN0 := Ext.refl No w
  refine c_seq (c_region (wl (st_al I_ok rfl fun b3 w1 hn3 hb3 hE1 => ?_)))
  have fr3 := Nat.le_trans hX.size hn3
  have h := h.extNo hE1
  have hN0 := hN0.thenNo hE1
  have hX := hX.thenNo hE1
  have hb3 : Blk w1 b3 89 ([.pointer (some ⟨d, 0, none⟩), .int .i64 (n : Int)]) := hb3
  refine wl (st_al I_ok rfl fun b4 w2 hn4 hb4 hE2 => ?_)
  have ne3_4 : b3 ≠ b4 := Nat.ne_of_lt (Nat.lt_of_lt_of_le hb3.lt hn4)
  have fr4 := Nat.le_trans hX.size hn4
  have hb3 := hb3.extNo hE2
  have h := h.extNo hE2
  have hN0 := hN0.thenNo hE2
  have hX := hX.thenNo hE2
  have hb4 : Blk w2 b4 3 ([.int .i64 at_]) := hb4
  refine wl (st_al I_ok rfl fun b6 w3 hn6 hb6 hE3 => ?_)
  have ne3_6 : b3 ≠ b6 := Nat.ne_of_lt (Nat.lt_of_lt_of_le hb3.lt hn6)
  have ne4_6 : b4 ≠ b6 := Nat.ne_of_lt (Nat.lt_of_lt_of_le hb4.lt hn6)
  have fr6 := Nat.le_trans hX.size hn6
  have hb3 := hb3.extNo hE3
  have hb4 := hb4.extNo hE3
  have h := h.extNo hE3
  have hN0 := hN0.thenNo hE3
  have hX := hX.thenNo hE3
  have hb6 : Blk w3 b6 40 ([.int .i64 0]) := hb6
  refine wl_nil (f_then (c_seq (c_seq (c_region (wl_p I_ok rfl (wl_nil (f_then (c_block ?_))))))))
  have hF3 : ¬ F b3 := fun e => by have := hFlt _ e; omega
  have hF4 : ¬ F b4 := fun e => by have := hFlt _ e; omega
  have hF6 : ¬ F b6 := fun e => by have := hFlt _ e; omega
  have hwX := hX
  have hwXs := hX.size
  have l3 := hb3.lt
  have l4 := hb4.lt
  have l6 := hb6.lt
  refine c_iter (putC w3 w d n m b3 b4 b6 at_ D L hb3.lt) (F, D) rfl hcf rfl (fun _ => rfl) (fun w1 hE1 => hit w1 (hN0.thenNo hE1)) (fun x hx => by have := hown x hx; exact ⟨by omega, fun e => by rcases e with e | e | e; exact this.2 e; omega; omega⟩) ⟨h, hok, by simp, ⟨hF3, hF4, hF6⟩, hb3, by simpa using hb4, 0, hb6⟩ (fun l DD r k z W hRd hJ hk => ?_) (fun DD z W hJ hE hsub hDn hmk hnd => ?_) (fun DD k c z W hk hJ hE hsub hDn hmk hnd => ?_)
  · have hLr := hRd.l
    obtain ⟨G, D2⟩ := z
    obtain ⟨hA, hok2, hlay, ⟨hG3, hG4, hG6⟩, hb3, hb4, e0, hb6⟩ := hJ
    dsimp only at hA hok2 hlay hG3 hG4 hG6
    have hGl : ¬ G l := fun e => (hRd.fp _ (.inl e)).1 rfl
    have hGlt := hA.lt
    obtain ⟨Bk, hBk⟩ : ∃ Bk, Bk = L.getD k [] := ⟨_, rfl⟩
    have hB64 : Bk.length = 64 := by rw [hBk]; have := hL64 (L[k]) (List.getElem_mem hk); simpa [hk] using this
    rw [show argB L k = #[numB Bk] from by rw [argB, hBk]]
    have hW3 := hb3.lt
    have hW4 := hb4.lt
    have hW6 := hb6.lt
    have ne4_3 := ne3_4.symm
    have nl3 := hb3.neL hLr
    have nl4 := hb4.neL hLr
    have nl6 := hb6.neL hLr
    have hX : Ext (fun x => PutF b4 b6 (G, D2) x ∨ x = l) W W := Ext.refl _ _
    refine ci_region (wli (.round _) rfl (st_al I_ok rfl fun b7 w4 hn7 hb7 hE4 => ?_))
    have ne3_7 : b3 ≠ b7 := Nat.ne_of_lt (Nat.lt_of_lt_of_le hb3.lt hn7)
    have ne4_7 : b4 ≠ b7 := Nat.ne_of_lt (Nat.lt_of_lt_of_le hb4.lt hn7)
    have ne6_7 : b6 ≠ b7 := Nat.ne_of_lt (Nat.lt_of_lt_of_le hb6.lt hn7)
    have fr7 := Nat.le_trans hX.size hn7
    have hb3 := hb3.extNo hE4
    have hb4 := hb4.extNo hE4
    have hb6 := hb6.extNo hE4
    have hA := hA.extNo hE4
    have hLr := hl_ext hLr hE4 id
    have hX := hX.thenNo hE4
    have nl7 := hb7.neL hLr
    have hG7 : ¬ G b7 := fun e => by have := hGlt _ e; omega
    refine wli (.round _) rfl (st_stW (l' := bytesU Bk) I_ok hb7 rfl rfl (by rw [bytesU_len, hB64]) (by rw [bytesU_len, hB64]; rfl) OneC.h fun w5 hb7 hE5 hs5 => ?_)
    have hb3 := hb3.ext1 hE5 ne3_7
    have hb4 := hb4.ext1 hE5 ne4_7
    have hb6 := hb6.ext1 hE5 ne6_7
    have hA := hA.ext hE5 fun x hx e => by have e : x = b7 := e; subst e; exact hG7 hx
    have hLr := hl_ext hLr hE5 nl7.symm
    have hX := hX.thenNew hE5 fr7
    refine wli_nil (fin_begin hRd hLr fun w6 hE6 hL6 => ?_)
    have hb3 := hb3.extL hLr hE6
    have hb4 := hb4.extL hLr hE6
    have hb6 := hb6.extL hLr hE6
    have hb7 := hb7.extL hLr hE6
    have hA := hA.ext hE6 fun x hx e => by have e : x = l := e; subst e; exact hGl hx
    have hLr := hL6
    have hX := hX.then (hE6.mono fun x _ e => .inr e)
    refine ci_block (ci_seq (ci_seq (ci_region (wli_pR I_ok rfl (wli (.round _) rfl (st_ldb I_ok hb3 rfl rfl (wli (.round _) rfl (st_ldb I_ok hb4 rfl rfl (wli (.round _) rfl (st_ldB I_ok hb7 rfl (by rw [bytesU_len, hB64]) ?_))))))))))
    have hX4 := hX.size
    have l3 := hb3.lt
    have l4 := hb4.lt
    have l6 := hb6.lt
    have l7 := hb7.lt
    have hstep := layD_step hk D2 at_
    rw [← hlay, ← hBk] at hstep
    refine wli (.round _) rfl (st_call Tryz.call13 rfl rfl rfl rfl rfl rfl (dkWrite w6 hA hok2 (by omega) (at_ + k) hB64) fun v7 w7 hr7 => ?_)
    obtain ⟨rfl, G2, hA2, hE7, hGs⟩ := hr7
    have hb3 := hb3.ext hE7 hG3
    have hb4 := hb4.ext hE7 hG4
    have hb6 := hb6.ext hE7 hG6
    have hb7 := hb7.ext hE7 hG7
    have hLr := hl_ext hLr hE7 hGl
    have hX := hX.then (hE7.mono fun x _ e => .inl (.inl e))
    have hG3 := own_out hG3 l3 hGs
    have hG4 := own_out hG4 l4 hGs
    have hG6 := own_out hG6 l6 hGs
    have hG7 := own_out hG7 l7 hGs
    have hA := hA2
    have hok3 := hok2.write (at_ + k) hB64
    have hFs : ∀ (D' : Dsk) x, PutF b4 b6 (G2, D') x → PutF b4 b6 (G, D2) x ∨ W.heap.size ≤ x := fun D' x hx => by
      rcases hx with hx | hx
      · exact (hGs x hx).elim (fun h => .inl (.inl h)) fun h => .inr (Nat.le_trans hX4 h)
      · exact .inl (.inr hx)
    refine wli_pR I_ok rfl (wli_nil (fi_then (ci_seq (ci_region (wli_pR I_ok rfl (wli_nil (fi_then (ci_if rfl (fun hc => ?_) (fun hc => ?_)))))))))
    · rw [if_pos hc] at hstep
      refine ci_seq (ci_region (wli_pR I_ok rfl (wli (.round _) rfl (st_st I_ok hb6 rfl rfl rfl fun w8 hb6 hE8 hs8 => ?_))))
      have hb3 := hb3.ext1 hE8 ne3_6
      have hb4 := hb4.ext1 hE8 ne4_6
      have hb7 := hb7.ext1 hE8 ne6_7.symm
      have hA := hA.ext hE8 fun x hx e => by have e : x = b6 := e; subst e; exact hG6 hx
      have hLr := hl_ext hLr hE8 nl6.symm
      have hX := hX.then (hE8.mono fun x _ e => by have e : x = b6 := e; subst e; exact (.inl (.inr (.inr rfl))))
      refine wli_nil (fi_then (ci_ret ?_))
      exact f_thenR (f_blockR (fin_stop (.inl ⟨rfl, rfl⟩) (G2, (D2.write (at_ + k) Bk).1) hRd hLr hX (hFs _) (⟨rfl, hA, ⟨hG3, hG4, hG6⟩, by rw [hstep], ⟨hb4.lt, hb6.lt⟩, by rw [hstep]; exact hb6⟩)))
    · rw [if_neg hc] at hstep
      refine ci_skip (fi_then (ci_region (wli (.round _) rfl (st_ldb I_ok hb4 rfl rfl (wli_pR I_ok rfl ?_)))))
      rw [IntWalk.i64_in _ (by omega)]
      refine wli (.round _) rfl (st_st I_ok hb4 rfl rfl rfl fun w9 hb4 hE9 hs9 => ?_)
      have hb3 := hb3.ext1 hE9 ne3_4
      have hb6 := hb6.ext1 hE9 ne4_6.symm
      have hb7 := hb7.ext1 hE9 ne4_7.symm
      have hA := hA.ext hE9 fun x hx e => by have e : x = b4 := e; subst e; exact hG4 hx
      have hLr := hl_ext hLr hE9 nl4.symm
      have hX := hX.then (hE9.mono fun x _ e => by have e : x = b4 := e; subst e; exact (.inl (.inr (.inl rfl))))
      refine wli_nil ?_
      exact f_blockN (fin_next (G2, (D2.write (at_ + k) Bk).1) hRd hLr hX (hFs _) (⟨hA, by rw [show m + 2 * (k + 1) = m + 2 * k + 2 from by omega]; exact hok3, hstep, ⟨hG3, hG4, hG6⟩, hb3, by rw [show (at_ + ((k + 1 : Nat) : Int)) = at_ + k + 1 from by omega]; exact hb4, _, hb6⟩))
  · obtain ⟨G, D2⟩ := z
    obtain ⟨hA, hok2, hlay, ⟨hG3, hG4, hG6⟩, hb3, hb4, e0, hb6⟩ := hJ
    dsimp only at hA hok2 hlay hG3 hG4 hG6
    rw [List.drop_length] at hlay
    have hX : Ext F w W := hX.trans hE fun x hx e => by rcases e with e | rfl | rfl; exact e; omega; omega
    have nd3 : b3 ≠ DD := by omega
    have nd6 : b6 ≠ DD := hnd _ (.inr (.inr rfl))
    have hGD : ¬ G DD := fun e => hnd _ (.inl e) rfl
    have hGF : ∀ x, G x → F x ∨ w.heap.size ≤ x := fun x hx => (hsub x (.inl hx)).elim (fun e => by rcases e with e | rfl | rfl; exact .inl e; omega; omega) fun e => .inr (by omega)
    have hDl := heap_lt hmk
    refine f_blockN (f_then (c_seq (c_region (wl_p I_ok rfl (wl (st_ldb I_ok hb3 rfl rfl ?_))))))
    have hX4 := hX.size
    have l6 := hb6.lt
    refine wl (st_call Tryz.call14 rfl rfl rfl rfl rfl rfl (dkSync W hA hok2 (by omega)) fun v10 w10 hr10 => ?_)
    obtain ⟨rfl, G2, hA2, hE10, hGs⟩ := hr10
    have hb3 := hb3.ext hE10 hG3
    have hb6 := hb6.ext hE10 hG6
    have hmk := hl_ext hmk hE10 hGD
    have hX := hX.trans hE10 fun x hx e => (hGF x e).resolve_right (by omega)
    have hG6 := own_out hG6 l6 hGs
    have hA := hA2
    have hG3 := grow_sub hGF hX4 hGs
    refine wl (st_st I_ok hb6 rfl rfl rfl fun w11 hb6 hE11 hs11 => ?_)
    have hb3 := hb3.ext1 hE11 ne3_6
    have hmk := hl_ext hmk hE11 nd6.symm
    have hA := hA.ext hE11 fun x hx e => by have e : x = b6 := e; subst e; exact hG6 hx
    have hX := hX.thenNew hE11 fr6
    refine wl_nil (f_then (c_ret (f_retMs [DD] (by simp) (fun x hx => by rw [List.mem_singleton.1 hx]; exact hmk) [.int .i64 D2.sync.2] (fun w20 hE20 => ?_) (.inl rfl))))
    refine ⟨⟨⟨b6, 0, rfl, ld_one I_ok rfl rfl ((hb6.ext hE20 (fun e => nd6 (List.mem_singleton.1 e))).cell rfl)⟩, trivial⟩, ?_⟩
    rw [hlay]
    exact ⟨rfl, G2, hA.ext hE20 fun x hx e => by rw [List.mem_singleton.1 e] at hx; exact (hGs DD hx).elim hGD fun h => by omega, hX.trans hE20 fun x hx e => by rw [List.mem_singleton.1 e] at hx; omega, hG3⟩
  · obtain ⟨G, D2⟩ := z
    obtain ⟨rfl, hA, ⟨hG3, hG4, hG6⟩, hlay, ⟨hl4, hl6⟩, hb6⟩ := hJ
    dsimp only at hA hlay hG3 hG4 hG6
    have hX : Ext F w W := hX.trans hE fun x hx e => by rcases e with e | rfl | rfl; exact e; omega; omega
    have nd6 : b6 ≠ DD := hnd _ (.inr (.inr rfl))
    have hGD : ¬ G DD := fun e => hnd _ (.inl e) rfl
    have hGF : ∀ x, G x → F x ∨ w.heap.size ≤ x := fun x hx => (hsub x (.inl hx)).elim (fun e => by rcases e with e | rfl | rfl; exact .inl e; omega; omega) fun e => .inr (by omega)
    refine c_ret (f_blockR (f_thenR (f_retMs [DD] (by simp) (fun x hx => by rw [List.mem_singleton.1 hx]; exact hmk) [.int .i64 (layD D at_ L).2] (fun w20 hE20 => ?_) (.inl rfl))))
    refine ⟨⟨⟨b6, 0, rfl, ld_one I_ok rfl rfl ((hb6.ext hE20 (fun e => nd6 (List.mem_singleton.1 e))).cell rfl)⟩, trivial⟩, ?_⟩
    exact ⟨rfl, G, by rw [hlay]; exact hA.ext hE20 fun x hx e => by rw [List.mem_singleton.1 e] at hx; exact hGD hx, hX.trans hE20 fun x hx e => by rw [List.mem_singleton.1 e] at hx; omega, hGF⟩
end Go.Proofs.YtlfdlodcjiaiiaaGreatDoor
namespace Go.Proofs.YtlfdlodcjiaiiaaGreatDoor
open Go.Vc
theorem zero_u32 : ((0 : Nat) : Int) = 0 := rfl
theorem begin_calls (w : World) {d m n t c : Nat} {F : Nat → Prop} {D : Dsk} {p : Option Addr} {b : Bytes} (h : At w d F D) (hok : D.Ok m) (hm : m + 2000 < 1000000000) (hn : n < 1000000) (ht : t < 4294967296) (hs : SlB w p b) (hbl : b.length ≤ 40000) (hr : Rt w) (hF0 : ¬ F 0) :
    CallsV Tryz.prog 47 [.agg #[.pointer (some ⟨d, 0, none⟩), .int .i64 (n : Int)], .int .u32 (t : Int), .slice p b.length c] w fun v w' => v = .int .i64 (beginD D t n b).2 ∧ DkQ w d F (beginD D t n b).1 w' := by
  refine calls_enter Tryz.func47 rfl rfl rfl rfl ?_
  have hX := Ext.refl F w
  have hFlt := h.lt
  have hsl := sectN_le b.length
  have hr0 := hr.lt
  refine c_seq (c_region (wl (st_al I_ok rfl fun b3 w1 hn3 hb3 hE1 => ?_)))
  have fr3 := Nat.le_trans hX.size hn3
  have h := h.extNo hE1
  have hs := hs.extNo hE1
  have hr := Rt.ext hr hE1 id
  have hX := hX.thenNo hE1
  have hb3 : Blk w1 b3 89 ([.pointer (some ⟨d, 0, none⟩), .int .i64 (n : Int)]) := hb3
  refine wl (st_al I_ok rfl fun b4 w2 hn4 hb4 hE2 => ?_)
  have ne3_4 : b3 ≠ b4 := Nat.ne_of_lt (Nat.lt_of_lt_of_le hb3.lt hn4)
  have fr4 := Nat.le_trans hX.size hn4
  have hb3 := hb3.extNo hE2
  have h := h.extNo hE2
  have hs := hs.extNo hE2
  have hr := Rt.ext hr hE2 id
  have hX := hX.thenNo hE2
  have hb4 : Blk w2 b4 95 ([.int .u32 (t : Int)]) := hb4
  have hF3 : ¬ F b3 := fun e => by have := hFlt _ e; omega
  have hF4 : ¬ F b4 := fun e => by have := hFlt _ e; omega
  refine wl_p I_ok rfl (wl_nil (f_then (c_seq (c_seq (c_draw rfl 9 [(0, true), (1, true), (2, true), (4, true), (5, true), (3, false), (6, false), (7, false), (8, true)] [] (F) (by kernel_rfl) fun w3 hE3 hs3 => ?_)))))
  have hd3 := hb3
  have hd4 := hb4
  have hd := h
  have hsd := hs
  have hrd := hr
  have hXd := hX
  have hb3 := hb3.extNo hE3
  have hb4 := hb4.extNo hE3
  have h := h.extNo hE3
  have hs := hs.extNo hE3
  have hr := Rt.ext hr hE3 id
  have hX := hX.thenNo hE3
  have hC : Ext (F) _ w3 := hE3.no
  refine wd_ldN I_ok rfl rfl (fun w' hw' => ((hd3.ext hw' hF3).seg)) rfl ?_
  refine wd_ldN I_ok rfl rfl (fun w' hw' => ((hd3.ext hw' hF3).seg)) rfl ?_
  refine wd_ld I_ok rfl rfl (fun w' hw' => ((hd4.ext hw' hF4).cell rfl)) ?_
  refine wd_ld I_ok rfl rfl (fun w' hw' => ((hd4.ext hw' hF4).cell rfl)) ?_
  refine wd_k I_ok 1 rfl (wd_l rfl (st_call Tryz.call51 rfl rfl rfl rfl rfl rfl (area_calls w3 (.pointer (some ⟨d, 0, none⟩)) n t (by omega) ht rfl) fun v4 w4 hr4 => ⟨(by obtain ⟨rfl, hE4⟩ := hr4; exact hC.thenNo hE4), ?_⟩))
  obtain ⟨rfl, hE4⟩ := hr4
  have hb3 := hb3.extNo hE4
  have hb4 := hb4.extNo hE4
  have h := h.extNo hE4
  have hs := hs.extNo hE4
  have hr := Rt.ext hr hE4 id
  have hX := hX.thenNo hE4
  have hC := hC.thenNo hE4
  refine wd_l rfl (st_call Tryz.call52 rfl rfl rfl rfl rfl rfl (piece_calls w4 t 0 (p := p) (m := b.length) (c := c)) fun v5 w5 hr5 => ⟨(by obtain ⟨bb, bt, bn, rfl, hnn, hbb, hbt, hbn, hE5⟩ := hr5; exact hC.thenNo hE5), ?_⟩)
  obtain ⟨bb, bt, bn, rfl, hnn, hbb, hbt, hbn, hE5⟩ := hr5
  have hb3 := hb3.extNo hE5
  have hb4 := hb4.extNo hE5
  have h := h.extNo hE5
  have hs := hs.extNo hE5
  have hr := Rt.ext hr hE5 id
  have hX := hX.thenNo hE5
  have hC := hC.thenNo hE5
  have hX1 := hX.size
  have l3 := hb3.lt
  have l4 := hb4.lt
  refine wd_l rfl (st_call Tryz.call45 rfl rfl rfl rfl rfl rfl (put_calls w5 (n := n) (L := pieceB t 0 b) (own := fun x => x = 0) h hok (by rw [pieceB_length]; omega) (areaB t n : Int) (by unfold areaB; split <;> omega) (pieceB_len t 0 b) Tryz.call86 (fun w1 hE1 => by rw [pieceB_length]; exact piece_iter w1 (hbb.extNo hE1) (hbt.extNo hE1) (hbn.extNo hE1) (hs.extNo hE1) ht (by decide) hbl (hr.ext hE1 id)) (fun x e => by subst e; exact ⟨Nat.lt_of_lt_of_le hr0 (by have := hX.size; omega), hF0⟩)) fun v6 w6 hr6 => ⟨(by obtain ⟨rfl, F2, h2, hE6, hF2⟩ := hr6; exact hC.then hE6), ?_⟩)
  obtain ⟨rfl, F2, h2, hE6, hF2⟩ := hr6
  have hb3 := hb3.ext hE6 hF3
  have hb4 := hb4.ext hE6 hF4
  have hX := hX.then hE6
  have hC := hC.then hE6
  have hF3 := own_out hF3 l3 hF2
  have hF4 := own_out hF4 l4 hF2
  have hr := Rt.ext hr hE6 hF0
  have hF0 := own_out hF0 (by omega) hF2
  obtain ⟨y, hy⟩ : ∃ y, y = layD D (areaB t n) (pieceB t 0 b) := ⟨_, rfl⟩
  have hyo := layD_ok (pieceB t 0 b) (areaB t n : Int) hok (pieceB_len t 0 b)
  rw [pieceB_length] at hyo
  have hbe : beginD D t n b = if y.2 ≠ 0 then y else layD y.1 ((t % 2 : Nat) : Int) [headB t n] := by rw [hy]; rfl
  rw [← hy] at h2 hyo ⊢
  rw [hbe]
  have hF2 := grow_sub (fun x => .inl) hX1 hF2
  refine wd_k I_ok 1 rfl (wd_sw (wb_nil (f_then (c_seq (c_region (wl_p I_ok rfl (wl_nil (f_then (c_if rfl (fun hc => ?_) (fun hc => ?_))))))))))
  · rw [if_pos hc]
    refine c_seq (c_region (wl_p I_ok rfl (wl_nil (f_then (c_ret (f_thenR (f_ret1 rfl rfl ?_)))))))
    exact ⟨rfl, F2, h2, hX, hF2⟩
  · rw [if_neg hc]
    refine c_skip (f_then (c_seq (c_region (wl (st_ldB I_ok hb3 rfl rfl (wl (st_ldb I_ok hb4 rfl rfl (wl_p I_ok rfl ?_))))))))
    rw [and1 t ht]
    refine wl_p I_ok rfl ?_
    rw [IntWalk.i64_in ((t % 2 : Nat) : Int) (by omega)]
    refine wl_p I_ok rfl ?_
    have hX2 := hX.size
    have hHl := headB_len t n
    have hbi := fun w1 (hE1 : Ext No w6 w1) => begin1_iter w1 (hb3.extNo hE1) (hb4.extNo hE1) rfl (by omega) ht (hr.ext hE1 id)
    generalize headB t n = Hd at hHl hbi ⊢
    refine wl (st_call Tryz.call45 rfl rfl rfl rfl rfl rfl (put_calls w6 (n := n) (L := [Hd]) (own := fun x => x = b3 ∨ x = b4 ∨ x = 0) h2 hyo (by simp; omega) ((t % 2 : Nat) : Int) (by omega) (fun x hx => by rw [List.mem_singleton.1 hx]; exact hHl) Tryz.call83 hbi (fun x e => by rcases e with rfl | rfl | rfl; exact ⟨hb3.lt, hF3⟩; exact ⟨hb4.lt, hF4⟩; exact ⟨hr.lt, hF0⟩)) fun v7 w7 hr7 => ?_)
    obtain ⟨rfl, F4, h4, hE7, hF4s⟩ := hr7
    have hX := hX.trans hE7 fun x hx e => (hF2 x e).resolve_right (by omega)
    refine wl_p I_ok rfl (wl_nil (f_then (c_ret (f_ret1 rfl rfl ?_))))
    exact ⟨rfl, F4, h4, hX, grow_sub hF2 hX2 hF4s⟩
end Go.Proofs.YtlfdlodcjiaiiaaGreatDoor
namespace Go.Proofs.YtlfdlodcjiaiiaaGreatDoor
open Go.Vc
/-- bytes that nobody turns: in blocks of H -/
def PieceAt (u : World) (H : Nat → Prop) (v : Value) (b : Bytes) : Prop := ∃ p c, v = .slice p b.length c ∧ b.length ≤ c ∧ SlB u p b ∧ ∀ y off, p = some ⟨y, off, none⟩ → H y ∧ TyB u y 5
theorem PieceAt.ext {S H : Nat → Prop} {u u' : World} {v : Value} {b : Bytes} (h : PieceAt u H v b) (hE : Ext S u u') (hS : ∀ y, H y → TyB u y 5 → ¬ S y) : PieceAt u' H v b := by
  obtain ⟨p, c, h1, h2, h3, h4⟩ := h
  exact ⟨p, c, h1, h2, h3.ext hE fun y off e => hS y (h4 y off e).1 (h4 y off e).2, fun y off e => ⟨(h4 y off e).1, (h4 y off e).2.ext hE (hS y (h4 y off e).1 (h4 y off e).2)⟩⟩
theorem PieceAt.mono {H H' : Nat → Prop} {u : World} {v : Value} {b : Bytes} (h : PieceAt u H v b) (hH : ∀ y, H y → H' y) : PieceAt u H' v b := by
  obtain ⟨p, c, h1, h2, h3, h4⟩ := h
  exact ⟨p, c, h1, h2, h3, fun y off e => ⟨hH y (h4 y off e).1, (h4 y off e).2⟩⟩
def PiecesAt (u : World) (H : Nat → Prop) (ps : List Bytes) (rows : List Value) : Prop := rows.length = ps.length ∧ ∀ (i : Nat) (b : Bytes) (v : Value), ps[i]? = some b → rows[i]? = some v → PieceAt u H v b
theorem PiecesAt.ext {S H : Nat → Prop} {u u' : World} {ps : List Bytes} {rows : List Value} (h : PiecesAt u H ps rows) (hE : Ext S u u') (hS : ∀ y, H y → TyB u y 5 → ¬ S y) : PiecesAt u' H ps rows := ⟨h.1, fun i b v h1 h2 => (h.2 i b v h1 h2).ext hE hS⟩
theorem PiecesAt.mono {H H' : Nat → Prop} {u : World} {ps : List Bytes} {rows : List Value} (h : PiecesAt u H ps rows) (hH : ∀ y, H y → H' y) : PiecesAt u H' ps rows := ⟨h.1, fun i b v h1 h2 => (h.2 i b v h1 h2).mono hH⟩
theorem PiecesAt.one {u : World} {H : Nat → Prop} {ps : List Bytes} {rows : List Value} (h : PiecesAt u H ps rows) : ∀ v ∈ rows, v.oneCell' = true := fun v hv => by
  obtain ⟨i, hi, rfl⟩ := List.mem_iff_getElem.1 hv
  obtain ⟨p, c, e, _⟩ := h.2 i (ps[i]'(by rw [← h.1]; exact hi)) rows[i] (by simp) (by simp)
  rw [e]; rfl
theorem PiecesAt.snoc {u : World} {H : Nat → Prop} {ps : List Bytes} {rows : List Value} (h : PiecesAt u H ps rows) {b : Bytes} {v : Value} (hv : PieceAt u H v b) : PiecesAt u H (ps ++ [b]) (rows ++ [v]) := by
  refine ⟨by simp [h.1], fun i b' v' h1 h2 => ?_⟩
  rcases Nat.lt_or_ge i ps.length with h' | h'
  · rw [List.getElem?_append_left h'] at h1
    rw [List.getElem?_append_left (by rw [h.1]; exact h')] at h2
    exact h.2 i b' v' h1 h2
  · rw [List.getElem?_append_right h'] at h1
    rw [List.getElem?_append_right (by rw [h.1]; exact h'), h.1] at h2
    have hi : i - ps.length = 0 := by
      have := (List.getElem?_eq_some_iff.1 h1).1
      simp at this; omega
    rw [hi] at h1 h2
    simp at h1 h2
    subst h1 h2
    exact hv
theorem PiecesAt.drop {u : World} {H : Nat → Prop} {ps : List Bytes} {rows : List Value} (h : PiecesAt u H ps rows) (k : Nat) : PiecesAt u H (ps.drop k) (rows.drop k) :=
  ⟨by simp [h.1], fun i b v h1 h2 => h.2 (k + i) b v (by rw [List.getElem?_drop] at h1; exact h1) (by rw [List.getElem?_drop] at h2; exact h2)⟩
theorem PiecesAt.get {u : World} {H : Nat → Prop} {ps : List Bytes} {rows : List Value} (h : PiecesAt u H ps rows) {i : Nat} (hi : i < ps.length) : ∃ p c, rows[i]? = some (.slice p (ps[i]).length c) ∧ (ps[i]).length ≤ c ∧ SlB u p ps[i] ∧ ∀ y off, p = some ⟨y, off, none⟩ → H y ∧ TyB u y 5 := by
  obtain ⟨p, c, e, h1⟩ := h.2 i ps[i] (rows[i]'(by rw [h.1]; exact hi)) (by simp) (by simp)
  exact ⟨p, c, by rw [← e]; simp, h1⟩
/-- a log: x its own block; H: all its blocks -/
structure LogAt (u : World) (x d : Nat) (H : Nat → Prop) (W : Wl) : Prop where
  box : ∃ q c rows, Blk u x 98 [.pointer (some ⟨d, 0, none⟩), .int .i64 (W.size : Int), .int .u32 (W.turn : Int), .slice q W.pieces.length c, .int .i64 (W.used : Int), .bool W.broken] ∧ Own u q W.pieces.length c 56 1 rows ∧ PiecesAt u H W.pieces rows ∧ ∀ y, OwnB q y → H y
  own : H x
  lt : ∀ y, H y → y < u.heap.size
theorem LogAt.ext {S H : Nat → Prop} {u u' : World} {x d : Nat} {W : Wl} (h : LogAt u x d H W) (hE : Ext S u u') (hS : ∀ y, H y → ¬ S y) : LogAt u' x d H W := by
  obtain ⟨⟨q, c, rows, h1, h2, h3, h4⟩, h5, h6⟩ := h
  exact ⟨⟨q, c, rows, h1.ext hE (hS x h5), h2.ext hE fun y hy => hS y (h4 y hy), h3.ext hE fun y hy _ => hS y hy, h4⟩, h5, fun y hy => Nat.lt_of_lt_of_le (h6 y hy) hE.size⟩
theorem LogAt.extNo {H : Nat → Prop} {u u' : World} {x d : Nat} {W : Wl} (h : LogAt u x d H W) (hE : Ext No u u') : LogAt u' x d H W := h.ext hE fun _ _ => id
theorem LogAt.data {H : Nat → Prop} {u : World} {x d : Nat} {W W' : Wl} (h : LogAt u x d H W) (h1 : W'.size = W.size) (h2 : W'.turn = W.turn) (h3 : W'.pieces = W.pieces) (h4 : W'.used = W.used) (h5 : W'.broken = W.broken) : LogAt u x d H W' := by
  obtain ⟨hb, ho, hl⟩ := h
  exact ⟨by rw [h1, h2, h3, h4, h5]; exact hb, ho, hl⟩
/-- what holds of every log that comes up, but for its disk -/
structure Wl.Ok (W : Wl) : Prop where
  size : 4 ≤ W.size ∧ W.size ≤ 1000
  secs : 2 + 2 * W.size ≤ W.D.secs.length
  turn : W.turn < 4294967296
  some : W.pieces ≠ []
  short : ∀ b ∈ W.pieces, b.length ≤ 40000
  few : W.pieces.length ≤ W.size
  used : W.used = usedB W.pieces
  room : W.used ≤ W.size
theorem cloneB_nil (w : World) {c : Nat} :
    CallsV Tryz.prog 53 [.slice none 0 c] w fun v w' => ∃ q k, v = .slice q 0 k ∧ Own w' q 0 k 5 1 [] ∧ (∀ y, OwnB q y → w.heap.size ≤ y) ∧ Ext No w w' := by
  refine calls_enter Tryz.func53 rfl rfl rfl rfl ?_
  have hX := Ext.refl No w
  refine c_seq (c_region (wl_p I_ok rfl (wl_nil (f_then (c_seq (c_seq (c_region (wl_p I_ok rfl (wl_nil (f_then (c_condT rfl (c_seq (c_region (wl_p I_ok rfl (wl_nil (f_then (c_ret (f_thenR (f_ret1 rfl rfl ?_)))))))))))))))))))
  exact ⟨none, 0, rfl, Own.nil _ _ _, fun y hy => (by cases hy), hX⟩

theorem cloneB_some (w : World) {a : Addr} {c : Nat} {l : Bytes} (h : SlB w (some a) l) (hl : l.length < 1000000000) :
    CallsV Tryz.prog 53 [.slice (some a) l.length c] w fun v w' => ∃ q k, v = .slice q l.length k ∧ Own w' q l.length k 5 1 (bytesU l) ∧ (∀ y, OwnB q y → w.heap.size ≤ y) ∧ Ext No w w' := by
  refine calls_enter Tryz.func53 rfl rfl rfl rfl ?_
  have hX := Ext.refl No w
  refine c_seq (c_region (wl_p I_ok rfl (wl_nil (f_then (c_seq (c_seq (c_region (wl_p I_ok rfl (wl_nil (f_then (c_condF rfl (c_skip (f_then (c_seq (c_region ?_)))))))))))))))
  refine wl (st_bs I_ok rfl 1 rfl rfl rfl (by decide) (by decide) trivial (l' := []) rfl fun b5 w1 hn5 hb5 hE1 hs1 => ?_)
  have fr5 := Nat.le_trans hX.size hn5
  have hX := hX.thenNo hE1
  refine wl_p I_ok rfl ?_
  refine wl (st_app I_ok rfl 1 1 rfl rfl rfl (by decide) (Own.blk (n := 0) (c := 0) hb5 1 rfl (Nat.le_refl _) (by decide)) (Src.slice (h.extNo hX) OneC.h) (by dsimp only [maxLen]; omega) (by dsimp only; omega) fun p2 c2 w2 ho2 hE2 hB2 => ?_)
  have hX := hX.trans hE2 fun y hy hF => by have := own1 hF; omega
  have hn1 : ∀ x, OwnB p2 x → w.heap.size ≤ x := fun x hx => (hB2 x hx).elim (fun hF => by have := own1 hF; omega) fun h => by have := hE1.size; omega
  have ho1 : Own w2 p2 (0 + l.length) c2 5 1 (bytesU l) := ho2
  rw [Nat.zero_add] at ho1
  dsimp only
  rw [Nat.zero_add]
  refine wl_p I_ok rfl (wl_nil (f_then (c_ret (f_ret1 rfl rfl ?_))))
  exact ⟨_, _, rfl, ho1, hn1, hX⟩
theorem cloneB_calls (w : World) {p : Option Addr} {c : Nat} {l : Bytes} (h : SlB w p l) (hl : l.length < 1000000000) :
    CallsV Tryz.prog 53 [.slice p l.length c] w fun v w' => ∃ q k, v = .slice q l.length k ∧ Own w' q l.length k 5 1 (bytesU l) ∧ (∀ y, OwnB q y → w.heap.size ≤ y) ∧ Ext No w w' := by
  cases p with
  | none =>
    have hl0 : l = [] := by
      rcases h.2 with h0 | ⟨b, off, h1, _⟩
      · exact List.eq_nil_of_length_eq_zero h0
      · cases h1
    subst hl0
    exact cloneB_nil w
  | some a => exact cloneB_some w h hl
theorem cloneP_nil (w : World) {c : Nat} :
    CallsV Tryz.prog 58 [.slice none 0 c] w fun v w' => ∃ q k, v = .slice q 0 k ∧ Own w' q 0 k 56 1 [] ∧ (∀ y, OwnB q y → w.heap.size ≤ y) ∧ Ext No w w' := by
  refine calls_enter Tryz.func58 rfl rfl rfl rfl ?_
  have hX := Ext.refl No w
  refine c_seq (c_region (wl_p I_ok rfl (wl_nil (f_then (c_seq (c_seq (c_region (wl_p I_ok rfl (wl_nil (f_then (c_condT rfl (c_seq (c_region (wl_p I_ok rfl (wl_nil (f_then (c_ret (f_thenR (f_ret1 rfl rfl ?_)))))))))))))))))))
  exact ⟨none, 0, rfl, Own.nil _ _ _, fun y hy => (by cases hy), hX⟩

theorem cloneP_some (w : World) {a : Addr} {c : Nat} {n : Nat} {rows : List Value} (h : Sl w (some a) n 1 rows) (hl : n < 1000000000) (h1 : ∀ v ∈ rows, v.oneCell' = true) :
    CallsV Tryz.prog 58 [.slice (some a) n c] w fun v w' => ∃ q k, v = .slice q n k ∧ Own w' q n k 56 1 rows ∧ (∀ y, OwnB q y → w.heap.size ≤ y) ∧ Ext No w w' := by
  refine calls_enter Tryz.func58 rfl rfl rfl rfl ?_
  have hX := Ext.refl No w
  refine c_seq (c_region (wl_p I_ok rfl (wl_nil (f_then (c_seq (c_seq (c_region (wl_p I_ok rfl (wl_nil (f_then (c_condF rfl (c_skip (f_then (c_seq (c_region ?_)))))))))))))))
  refine wl (st_bs I_ok rfl 1 rfl rfl rfl (by decide) (by decide) trivial (l' := []) rfl fun b5 w1 hn5 hb5 hE1 hs1 => ?_)
  have fr5 := Nat.le_trans hX.size hn5
  have hX := hX.thenNo hE1
  refine wl_p I_ok rfl ?_
  refine wl (st_app I_ok rfl 1 24 rfl rfl rfl (by decide) (Own.blk (n := 0) (c := 0) hb5 1 rfl (Nat.le_refl _) (by decide)) (Src.slice (h.extNo hX) h1) (by dsimp only [maxLen]; omega) (by dsimp only; omega) fun p2 c2 w2 ho2 hE2 hB2 => ?_)
  have hX := hX.trans hE2 fun y hy hF => by have := own1 hF; omega
  have hn1 : ∀ x, OwnB p2 x → w.heap.size ≤ x := fun x hx => (hB2 x hx).elim (fun hF => by have := own1 hF; omega) fun h => by have := hE1.size; omega
  have ho1 : Own w2 p2 (0 + n) c2 56 1 rows := ho2
  rw [Nat.zero_add] at ho1
  dsimp only
  rw [Nat.zero_add]
  refine wl_p I_ok rfl (wl_nil (f_then (c_ret (f_ret1 rfl rfl ?_))))
  exact ⟨_, _, rfl, ho1, hn1, hX⟩
theorem cloneP_calls (w : World) {p : Option Addr} {n c : Nat} {rows : List Value} (h : Sl w p n 1 rows) (hl : n < 1000000000) (h1 : ∀ v ∈ rows, v.oneCell' = true) :
    CallsV Tryz.prog 58 [.slice p n c] w fun v w' => ∃ q k, v = .slice q n k ∧ Own w' q n k 56 1 rows ∧ (∀ y, OwnB q y → w.heap.size ≤ y) ∧ Ext No w w' := by
  cases p with
  | none =>
    have hl0 : n = 0 := by
      rcases h.2 with h0 | ⟨b, off, h1, _⟩
      · exact h0
      · cases h1
    subst hl0
    have hr0 : rows = [] := List.eq_nil_of_length_eq_zero (by simpa using h.1)
    subst hr0
    exact cloneP_nil w
  | some a => exact cloneP_some w h hl h1
theorem logLen_calls (w : World) {x d : Nat} {H : Nat → Prop} {W : Wl} (h : LogAt w x d H W) (hn : W.pieces.length < 1000000000) :
    CallsV Tryz.prog 20 [.pointer (some ⟨x, 0, none⟩)] w fun v w' => v = .int .i64 ((W.pieces.length : Int) - 1) ∧ Ext No w w' := by
  obtain ⟨⟨q, c, rows, hbx, hrw, hps, hqH⟩, hxH, hlt⟩ := h
  refine calls_enter Tryz.func20 rfl rfl rfl rfl ?_
  have hX := Ext.refl No w
  refine c_seq (c_region (wl_p I_ok rfl (wl_nil (f_then (c_seq (c_seq (c_region (wl_p I_ok rfl (wl_nil (f_then (c_condF rfl (c_skip (f_then (c_seq (c_region (wl_p I_ok rfl (wl (st_ld I_ok rfl (hbx.cell rfl) (wl_p I_ok rfl ?_)))))))))))))))))))
  rw [IntWalk.i64_in _ (by omega)]
  refine wl_nil (f_then (c_ret (f_ret1 rfl rfl ?_)))
  exact ⟨rfl, hX⟩

theorem left_calls (w : World) {x d : Nat} {H : Nat → Prop} {W : Wl} (h : LogAt w x d H W) (h1 : W.size < 1000000000) (h2 : W.used < 1000000000) :
    CallsV Tryz.prog 21 [.pointer (some ⟨x, 0, none⟩)] w fun v w' => v = .int .i64 ((W.size : Int) - W.used) ∧ Ext No w w' := by
  obtain ⟨⟨q, c, rows, hbx, hrw, hps, hqH⟩, hxH, hlt⟩ := h
  refine calls_enter Tryz.func21 rfl rfl rfl rfl ?_
  have hX := Ext.refl No w
  refine c_seq (c_region (wl_p I_ok rfl (wl_nil (f_then (c_seq (c_seq (c_region (wl_p I_ok rfl (wl_nil (f_then (c_condF rfl (c_skip (f_then (c_seq ?_))))))))))))))
  refine c_draw rfl 11 [(0, true), (1, true), (2, true), (3, true), (4, true), (5, true), (6, true), (7, true), (8, true), (9, true), (10, true)] [] (No) (by kernel_rfl) fun w1 hE1 hs1 => ?_
  have hXd := hX
  have hX := hX.thenNo hE1
  have hC : Ext (No) _ w1 := hE1.no
  refine wd_k I_ok 4 rfl (wd_ld I_ok rfl rfl (fun w' hw' => ((hbx.extNo (hXd.thenNo hw')).cell rfl)) ?_)
  refine wd_k I_ok 3 rfl (wd_ld I_ok rfl rfl (fun w' hw' => ((hbx.extNo (hXd.thenNo hw')).cell rfl)) ?_)
  refine wd_k I_ok 2 rfl ?_
  rw [IntWalk.i64_in _ (by omega)]
  refine wd_sw (wb_nil (f_then (c_ret (f_ret1 rfl rfl ?_))))
  exact ⟨rfl, hX⟩

theorem turn_calls (w : World) {x d : Nat} {H : Nat → Prop} {W : Wl} (h : LogAt w x d H W) :
    CallsV Tryz.prog 72 [.pointer (some ⟨x, 0, none⟩)] w fun v w' => v = .int .u32 (W.turn : Int) ∧ Ext No w w' := by
  obtain ⟨⟨q, c, rows, hbx, hrw, hps, hqH⟩, hxH, hlt⟩ := h
  refine calls_enter Tryz.func72 rfl rfl rfl rfl ?_
  have hX := Ext.refl No w
  refine c_seq (c_region (wl_p I_ok rfl (wl_nil (f_then (c_seq (c_seq (c_region (wl_p I_ok rfl (wl_nil (f_then (c_condF rfl (c_skip (f_then (c_seq (c_region (wl_p I_ok rfl (wl (st_ld I_ok rfl (hbx.cell rfl) (wl_p I_ok rfl (wl_nil ?_))))))))))))))))))))
  refine f_then (c_ret (f_ret1 rfl rfl ?_))
  exact ⟨rfl, hX⟩

theorem broken_calls (w : World) {x d : Nat} {H : Nat → Prop} {W : Wl} (h : LogAt w x d H W) :
    CallsV Tryz.prog 73 [.pointer (some ⟨x, 0, none⟩)] w fun v w' => v = .bool W.broken ∧ Ext No w w' := by
  obtain ⟨⟨q, c, rows, hbx, hrw, hps, hqH⟩, hxH, hlt⟩ := h
  refine calls_enter Tryz.func73 rfl rfl rfl rfl ?_
  have hX := Ext.refl No w
  refine c_seq (c_region (wl_p I_ok rfl (wl_nil (f_then (c_cutK (α := Bool) [] rfl (fun z => [(2, .bool z)]) (fun z u => u = w ∧ z = W.broken) ?_ ?_)))))
  · refine c_region ?_
    refine wl_p I_ok rfl (wl_case 5 rfl (fun hg => ?_) (fun hg => ?_))
    · refine wl_pk I_ok 3 rfl ?_
      refine wl (st_ld I_ok rfl (hbx.cell rfl) (wl_p I_ok rfl (wl_nil ?_)))
      exact f_cut (_) rfl ⟨rfl, rfl⟩
    · cases hg
  rintro z w1 ⟨hu, rfl⟩
  have hu := hu.symm
  subst hu
  refine c_ret (f_ret1 rfl rfl ?_)
  exact ⟨rfl, hX⟩

theorem logDisk_calls (w : World) {x d : Nat} {H : Nat → Prop} {W : Wl} (h : LogAt w x d H W) :
    CallsV Tryz.prog 34 [.pointer (some ⟨x, 0, none⟩)] w fun v w' => v = .pointer (some ⟨d, 0, none⟩) ∧ Ext No w w' := by
  obtain ⟨⟨q, c, rows, hbx, hrw, hps, hqH⟩, hxH, hlt⟩ := h
  refine calls_enter Tryz.func34 rfl rfl rfl rfl ?_
  have hX := Ext.refl No w
  refine c_seq (c_region (wl_p I_ok rfl (wl_nil (f_then (c_seq (c_seq (c_region (wl_p I_ok rfl (wl_nil (f_then (c_condF rfl (c_skip (f_then (c_seq (c_region (wl_p I_ok rfl (wl (st_ld I_ok rfl (hbx.cell rfl) (wl_p I_ok rfl (wl_nil ?_))))))))))))))))))))
  refine f_then (c_ret (f_ret1 rfl rfl ?_))
  exact ⟨rfl, hX⟩

theorem ready_calls (w : World) {x d : Nat} {H : Nat → Prop} {W : Wl} (h : LogAt w x d H W) {p : Option Addr} {n k : Nat} :
    CallsV Tryz.prog 48 [.pointer (some ⟨x, 0, none⟩), .slice p n k] w fun v w' => v = .int .i64 (if 40000 < n then 3 else if W.broken = true then 8 else 0) ∧ Ext No w w' := by
  obtain ⟨⟨q, c, rows, hbx, hrw, hps, hqH⟩, hxH, hlt⟩ := h
  refine calls_enter Tryz.func48 rfl rfl rfl rfl ?_
  have hX := Ext.refl No w
  refine c_seq (c_region (wl_p I_ok rfl (wl_nil (f_then (c_seq (c_block (c_seq (c_region (wl_p I_ok rfl (wl_nil (f_then (c_condF rfl (c_seq (c_region (wl_p I_ok rfl (wl_nil (f_then (c_if rfl (fun hc => ?_) (fun hc => ?_)))))))))))))))))))
  · rw [if_pos (by omega)]
    refine c_seq (c_region (wl_p I_ok rfl (wl_nil (f_then (c_ret (f_blockR (f_thenR (f_ret1 rfl rfl ?_))))))))
    exact ⟨rfl, hX⟩
  · rw [if_neg (by omega)]
    refine c_seq (c_region (wl_p I_ok rfl (wl (st_ld I_ok rfl (hbx.cell rfl) (wl_p I_ok rfl (wl_nil (f_then (c_cond rfl (fun hc => ?_) (fun hc => ?_)))))))))
    · rw [if_pos hc]
      refine c_seq (c_region (wl_p I_ok rfl (wl_nil (f_then (c_ret (f_blockR (f_thenR (f_ret1 rfl rfl ?_))))))))
      exact ⟨rfl, hX⟩
    · rw [if_neg (by rw [hc]; decide)]
      refine c_skip (f_blockN (f_then (c_seq (c_region (wl_p I_ok rfl (wl_nil (f_then (c_ret (f_ret1 rfl rfl ?_)))))))))
      exact ⟨rfl, hX⟩

theorem snapshot_calls (w : World) {x d : Nat} {H : Nat → Prop} {W : Wl} (h : LogAt w x d H W) (hne : 0 < W.pieces.length) (hsh : (W.pieces[0]).length < 1000000000) :
    CallsV Tryz.prog 74 [.pointer (some ⟨x, 0, none⟩)] w fun v w' => ∃ q k, v = .slice q (W.pieces[0]).length k ∧ Own w' q (W.pieces[0]).length k 5 1 (bytesU W.pieces[0]) ∧ (∀ y, OwnB q y → w.heap.size ≤ y) ∧ Ext No w w' := by
  obtain ⟨⟨q, c, rows, hbx, hrw, hps, hqH⟩, hxH, hlt⟩ := h
  obtain ⟨p0, c0, hr0, hc0, hs0, _⟩ := hps.get hne
  obtain ⟨qb, rfl, hqs⟩ : ∃ qb, q = some ⟨qb, 0, none⟩ ∧ Seg w qb 0 rows := by
    rcases hrw with ⟨_, h0, _⟩ | ⟨b, l, h1, h2, _, _, _, h3⟩
    · omega
    · exact ⟨b, h1, by rw [← h3]; exact h2.seg.take _⟩
  refine calls_enter Tryz.func74 rfl rfl rfl rfl ?_
  have hX := Ext.refl No w
  refine c_seq (c_region (wl_p I_ok rfl (wl_nil (f_then (c_seq (c_seq (c_region (wl_p I_ok rfl (wl_nil (f_then (c_condF rfl (c_skip (f_then (c_seq (c_region (wl_p I_ok rfl (wl (st_ld I_ok rfl (hbx.cell rfl) ?_))))))))))))))))))
  refine wl (st_ix I_ok rfl 1 rfl 0 rfl hne (0 + 0 * 1) rfl (wl (st_ld I_ok rfl (hqs 0 _ hr0) (wl (st_call Tryz.call53 rfl rfl rfl rfl rfl rfl (cloneB_calls w hs0 hsh) fun v1 w1 hr1 => ?_)))))
  obtain ⟨q2, k2, rfl, ho2, hn2, hE1⟩ := hr1
  have hX := hX.thenNo hE1
  refine wl_p I_ok rfl (wl_nil (f_then (c_ret (f_ret1 rfl rfl ?_))))
  exact ⟨q2, k2, rfl, ho2, hn2, hX⟩
end Go.Proofs.YtlfdlodcjiaiiaaGreatDoor
namespace Go.Proofs.YtlfdlodcjiaiiaaGreatDoor
open Go.Vc
/-- what All's iterator hands over: a number, and bytes in memory of their own -/
def AllA (ps : List Bytes) (k : Nat) (vs : Array Value) (X : Nat → Prop) (W : World) : Prop := ∃ q c, vs = #[.int .i64 ((k : Int) + 1), .slice q (ps.getD k []).length c] ∧ Own W q (ps.getD k []).length c 5 1 (bytesU (ps.getD k [])) ∧ X = OwnB q
theorem AllA.size {ps : List Bytes} (k : Nat) (vs : Array Value) (X : Nat → Prop) (W : World) (h : AllA ps k vs X W) : vs.size = 2 := by
  obtain ⟨q, c, rfl, _⟩ := h
  rfl
theorem all1_walk (w : World) {l b c : Nat} {q : Option Addr} {ps : List Bytes} {rows : List Value} {H F : Nat → Prop} {J Jx : Nat → (Nat → Prop) → World → Prop} (hCo : ConsV Tryz.prog l w.heap.size ps.length (AllA ps) J Jx) (hb : Blk w b 96 [.slice q ps.length c]) (hs : Sl w q ps.length 1 rows) (hps : PiecesAt w H ps rows)
    (hq : ∀ y off, q = some ⟨y, off, none⟩ → ps.length ≠ 0 → y < w.heap.size ∧ ¬ F y) (hH : ∀ y, H y → y < w.heap.size ∧ ¬ F y) (hl : ps.length < 1000000000) (hsh : ∀ x ∈ ps, x.length < 1000000000) (h0 : J 0 F w) :
    CallsV Tryz.prog 59 [.func (.yield l) #[] #[], .pointer (some ⟨b, 0, none⟩)] w fun _ w' => ItQ w F ps.length J Jx w' := by
  refine calls_enter Tryz.func59 rfl rfl rfl rfl ?_
  have hX := Ext.refl F w
  have hFlt := hCo.lt h0
  refine c_seq (c_region (wl (st_ld I_ok rfl (hb.cell rfl) (wl_p I_ok rfl (wl_nil (f_then (c_block ?_)))))))
  refine c_loopK (α := Nat × (Nat → Prop)) [0, 5, 6] rfl (fun z => [(7, .int .i64 (z.1 : Int))]) (fun z u => (z.1 ≤ ps.length ∧ J z.1 z.2 u ∧ (∀ x, z.2 x → F x ∨ w.heap.size ≤ x) ∧ Sl u q ps.length 1 rows ∧ PiecesAt u H ps rows) ∧ Ext F w u) (fun z u => ps.length - z.1) (0, F) rfl ⟨⟨Nat.zero_le _, h0, fun x hx => .inl hx, hs, hps⟩, hX⟩ ?_
  rintro ⟨k, G⟩ w1 ⟨⟨hk, hJ, hG, hs, hps⟩, hX⟩
  try dsimp only
  dsimp only at hk hJ hG
  refine c_seq (c_region (wl_p I_ok rfl (wl_nil (f_then (c_seq (c_if rfl (fun hc => ?_) (fun hc => ?_)))))))
  · have hkn : k < ps.length := by omega
    obtain ⟨pk, ck, hrk, hck, hsk, hpk⟩ := hps.get hkn
    have hbk : ps.getD k [] = ps[k] := by simp [hkn]
    rw [← hbk] at hrk hck hsk
    have hbl : (ps.getD k []).length < 1000000000 := by rw [hbk]; exact hsh _ (List.getElem_mem hkn)
    obtain ⟨qb, qo, rfl, hqs⟩ : ∃ qb qo, q = some ⟨qb, qo, none⟩ ∧ Seg w1 qb qo rows := by
      rcases hs.2 with h0 | ⟨b', off, h1, h2⟩
      · omega
      · exact ⟨b', off, h1, h2⟩
    obtain ⟨hqw, hqF⟩ := hq qb qo rfl (by omega)
    refine c_skip (f_then (c_seq (c_block (c_seq (c_region (wl_p I_ok rfl (wl (st_ix I_ok rfl 1 rfl k rfl hkn (qo + k * 1) rfl (wl (st_ld I_ok rfl (by rw [Nat.mul_one]; exact hqs k _ hrk) (wl_p I_ok rfl (wl_nil (f_then (c_seq ?_))))))))))))))
    refine c_regionI (wlw_p rfl I_ok rfl ?_)
    rw [IntWalk.i64_in _ (by omega)]
    have hGlt := hCo.lt hJ
    have hXs := hX.size
    refine wlw rfl (st_call Tryz.call53 rfl rfl rfl rfl rfl rfl (cloneB_calls w1 hsk hbl) fun v2 w2 hr2 => ?_)
    obtain ⟨q2, k2, rfl, ho2, hn2, hE2⟩ := hr2
    have hJ := hCo.st hJ hE2 fun _ e => e.elim
    have hs := hs.extNo hE2
    have hps := hps.ext hE2 fun _ _ _ => id
    have hX := hX.thenNo hE2
    refine wli_yield rfl rfl rfl rfl rfl rfl (hCo.round hJ hkn _ (OwnB q2) ⟨q2, k2, rfl, ho2, rfl⟩ (fun x hx => ⟨by have := hn2 x hx; omega, fun e => by have := hn2 x hx; have := hGlt x e; omega⟩)) fun y w3 hy => ?_
    obtain ⟨G2, hEy, hGy, hyt, hyf⟩ := hy
    have hX0 := hX.size
    have hX := hX.trans hEy fun x hx e => by rcases e with e | e; exact (hG x e).resolve_right (by omega); have := hn2 x e; omega
    have hG2 : ∀ x, G2 x → F x ∨ w.heap.size ≤ x := fun x hx => by rcases hGy x hx with h | h | h; exact hG x h; exact .inr (by have := hn2 x h; omega); exact .inr (by omega)
    have hs := hs.ext hEy fun b off e h => by cases e; rcases h with h | h; exact (hG _ h).elim hqF (by omega); have := hn2 _ h; omega
    have hps := hps.ext hEy fun y hy _ h => by have h3 := hH y hy; rcases h with h | h; exact (hG _ h).elim h3.2 (by omega); have := hn2 _ h; omega
    refine wlw_p rfl I_ok rfl (wli_nil (f_then (c_cond rfl (fun hc => ?_) (fun hc => ?_))))
    · have hJx := hyf (by simpa using hc)
      refine c_ret (f_blockR (f_thenR (f_thenR (f_blockR (f_ret0 rfl ?_)))))
      exact ⟨G2, hX, hG2, .inr ⟨k, hkn, hJx⟩⟩
    · have hJ := hyt (by simpa using hc)
      refine c_skip (f_blockN (f_then (c_region (wl_p I_ok rfl ?_))))
      rw [IntWalk.i64_in _ (by omega)]
      refine wl_nil ?_
      exact f_round (k + 1, G2) rfl ⟨⟨hkn, hJ, hG2, hs, hps⟩, hX⟩ (by first | omega | (dsimp only; omega))
  · have hkn : k = ps.length := by omega
    subst hkn
    refine c_exit (f_thenE (f_thenE (f_blockE (f_end0 rfl ?_))))
    exact ⟨G, hX, hG, .inl hJ⟩
theorem all1_iter (w : World) {b c : Nat} {q : Option Addr} {ps : List Bytes} {rows : List Value} {H : Nat → Prop} (hb : Blk w b 96 [.slice q ps.length c]) (hs : Sl w q ps.length 1 rows) (hps : PiecesAt w H ps rows)
    (hq : ∀ y off, q = some ⟨y, off, none⟩ → ps.length ≠ 0 → y < w.heap.size) (hH : ∀ y, H y → y < w.heap.size) (hl : ps.length < 1000000000) (hsh : ∀ x ∈ ps, x.length < 1000000000) :
    IterV Tryz.prog 59 [.pointer (some ⟨b, 0, none⟩)] ps.length (AllA ps) (fun y => (∃ off, q = some ⟨y, off, none⟩ ∧ ps.length ≠ 0) ∨ H y) w :=
  fun _ _ _ _ hC h0 hown => all1_walk w hC hb hs hps (fun y off e h => ⟨hq y off e h, hown y (.inl ⟨off, e, h⟩)⟩) (fun y hy => ⟨hH y hy, hown y (.inr hy)⟩) hl hsh h0
theorem all_calls (w : World) {x d : Nat} {H : Nat → Prop} {W : Wl} (h : LogAt w x d H W) (hne : 0 < W.pieces.length) (hn : W.pieces.length < 1000000000) :
    CallsV Tryz.prog 23 [.pointer (some ⟨x, 0, none⟩)] w fun v w' => ∃ b q c rows, v = .func (.func 59) #[] #[.pointer (some ⟨b, 0, none⟩)] ∧ Blk w' b 96 [.slice q (W.pieces.drop 1).length c] ∧ Sl w' q (W.pieces.drop 1).length 1 rows ∧ PiecesAt w' H (W.pieces.drop 1) rows ∧ w.heap.size ≤ b ∧ (∀ y off, q = some ⟨y, off, none⟩ → (W.pieces.drop 1).length ≠ 0 → w.heap.size ≤ y ∧ y < w'.heap.size) ∧ Ext No w w' := by
  obtain ⟨⟨q, c, rows, hbx, hrw, hps, hqH⟩, hxH, hlt⟩ := h
  have hcap := hrw.cap
  have hxl := hbx.lt
  have hone := hps.one
  refine calls_enter Tryz.func23 rfl rfl rfl rfl ?_
  have hX := Ext.refl No w
  refine c_seq (c_region (wl_p I_ok rfl (wl_nil (f_then (c_seq (c_region (wl (st_al I_ok rfl fun b3 w1 hn3 hb3 hE1 => ?_))))))))
  have fr3 := Nat.le_trans hX.size hn3
  have hX := hX.thenNo hE1
  have hb3 : Blk w1 b3 96 ([.slice none 0 0]) := hb3
  refine wl_nil (f_then ?_)
  refine c_cutK (α := Option Addr × Nat × List Value) [3] rfl (fun z => []) (fun z u => (Sl u z.1 (W.pieces.drop 1).length 1 z.2.2 ∧ PiecesAt u H (W.pieces.drop 1) z.2.2 ∧ ∀ y off, z.1 = some ⟨y, off, none⟩ → (W.pieces.drop 1).length ≠ 0 → w.heap.size ≤ y ∧ y < u.heap.size) ∧ Blk u b3 96 ([.slice z.1 (W.pieces.drop 1).length z.2.1]) ∧ Ext No w u) ?_ ?_
  · refine c_seq ?_
    refine c_region (wl_p I_ok rfl (wl_nil (f_then (c_condT rfl (c_region (wl_p I_ok rfl (wl (st_ld I_ok rfl ((hbx.extNo hX).cell rfl) ?_))))))))
    refine wl (st_sl I_ok rfl 1 W.pieces.length c 1 rfl (.inr ⟨rfl, rfl⟩) (.inr ⟨rfl, rfl⟩) (.inl rfl) hne hcap (Nat.le_refl _) ?_)
    dsimp only
    have hsd := (hrw.sl.extNo hX).slice 1 W.pieces.length c hne hcap (Nat.le_refl _)
    rw [Nat.one_mul, Nat.mul_one, List.take_of_length_le (by rw [List.length_drop, hps.1]; exact Nat.le_refl _)] at hsd
    have l3 := hb3.lt
    refine wl (st_call Tryz.call58 rfl rfl rfl rfl rfl rfl (cloneP_calls w1 hsd (by omega) (fun v hv => hone v (List.mem_of_mem_drop hv))) fun v2 w2 hr2 => ?_)
    obtain ⟨q2, c2, rfl, ho2, hn2, hE2⟩ := hr2
    have hb3 := hb3.extNo hE2
    have hX := hX.thenNo hE2
    refine wl (st_st I_ok hb3 rfl rfl rfl fun w3 hb3 hE3 hs3 => ?_)
    have hX := hX.thenNew hE3 fr3
    refine wl_nil ?_
    have hln : W.pieces.length - 1 = (W.pieces.drop 1).length := by simp
    rw [hln] at hb3
    exact f_cut (q2, c2, rows.drop 1) rfl ⟨⟨by rw [List.length_drop]; exact (ho2.ext hE3 (fun y hy e => by have e : y = b3 := e; have := hn2 y hy; omega)).sl, ((hps.ext hX fun _ _ _ => id).drop 1), fun y off e _ => by rcases ho2 with ⟨h1, _⟩ | ⟨b', l, h1, h2, _⟩; rw [h1] at e; cases e; rw [h1] at e; cases e; exact ⟨by have := hn2 _ h1; have := hE1.size; omega, Nat.lt_of_lt_of_le h2.lt hE3.size⟩⟩, hb3, hX⟩
  rintro ⟨q2, c2, rows2⟩ w4 ⟨⟨hs2, hps2, hy2⟩, hb3, hX⟩
  refine c_seq (c_region (wl_p I_ok rfl (wl_nil (f_then (c_ret (f_ret1 rfl rfl ?_))))))
  exact ⟨b3, q2, c2, rows2, rfl, hb3, hs2, hps2, fr3, hy2, hX⟩
end Go.Proofs.YtlfdlodcjiaiiaaGreatDoor
namespace Go.Proofs.YtlfdlodcjiaiiaaGreatDoor
open Go.Vc
/-- the log that was formatted -/
def Wl.fresh (D : Dsk) (a : Nat) : Wl := ⟨D, a, 0, [[]], 1, false⟩
/-- a log, and its disk's blocks apart from its own -/
def LogOf (w0 w' : World) (d : Nat) (F' : Nat → Prop) (xo : Option Addr) (W : Wl) : Prop := ∃ x H, xo = some ⟨x, 0, none⟩ ∧ LogAt w' x d H W ∧ ∀ y, H y → w0.heap.size ≤ y ∧ ¬ F' y
theorem nil_piece (u : World) (H : Nat → Prop) : PieceAt u H (.slice none 0 0) [] := ⟨none, 0, rfl, Nat.le_refl _, Sl.nil _ _ _, fun _ _ e => by cases e⟩
theorem format_nil (w : World) (area : Int) :
    CallsV Tryz.prog 16 [.pointer none, .int .i64 area] w fun v w' => v = .tuple #[.pointer none, .int .i64 1] ∧ Ext No w w' := by
  refine calls_enter Tryz.func16 rfl rfl rfl rfl ?_
  have hX := Ext.refl No w
  refine c_seq (c_region (wl_p I_ok rfl (wl_nil (f_then (c_seq (c_seq (c_region (wl_p I_ok rfl (wl_nil (f_then (c_condT rfl (c_seq (c_region (wl_p I_ok rfl (wl_nil (f_then (c_ret (f_thenR (f_ret [_, _] ⟨rfl, rfl, trivial⟩ ?_)))))))))))))))))))
  exact ⟨rfl, hX⟩

theorem format_calls (w : World) {d m : Nat} {F : Nat → Prop} {D : Dsk} (h : At w d F D) (hok : D.Ok m) (hm : m + 7000 < 1000000000) (area : Int) (har : -9223372036854775808 ≤ area ∧ area < 9223372036854775808) (hr : Rt w) (hF0 : ¬ F 0) :
    CallsV Tryz.prog 16 [.pointer (some ⟨d, 0, none⟩), .int .i64 area] w fun v w' => ∃ (xo : Option Addr) (F' : Nat → Prop), v = .tuple #[.pointer xo, .int .i64 (formatW D area).2] ∧ At w' d F' (formatW D area).1 ∧ Ext F w w' ∧ (∀ y, F' y → F y ∨ w.heap.size ≤ y) ∧ ((formatW D area).2 ≠ 0 → xo = none) ∧ ((formatW D area).2 = 0 → LogOf w w' d F' xo (Wl.fresh (formatW D area).1 area.toNat)) := by
  refine calls_enter Tryz.func16 rfl rfl rfl rfl ?_
  have hX := Ext.refl F w
  have hFlt := h.lt
  have hr0 := hr.lt
  refine c_seq (c_region (wl_p I_ok rfl (wl_nil (f_then (c_seq (c_seq (c_region (wl_p I_ok rfl (wl_nil (f_then (c_condF rfl (c_skip (f_then (c_seq (c_region (wl_p I_ok rfl ?_))))))))))))))))
  refine wl (st_bd I_ok rfl ⟨⟨rfl, by decide⟩, ⟨rfl, by decide⟩, trivial⟩ (l' := [.pointer (some ⟨d, 0, none⟩), .int .i64 area]) rfl (wl (st_al I_ok rfl fun b6 w1 hn6 hb6 hE1 => ?_)))
  have fr6 := Nat.le_trans hX.size hn6
  have h := h.extNo hE1
  have hr := Rt.ext hr hE1 id
  have hX := hX.thenNo hE1
  have hF6 : ¬ F b6 := fun e => by have := hFlt _ e; omega
  refine wl (st_stW (l' := [.pointer (some ⟨d, 0, none⟩), .int .i64 area]) I_ok hb6 rfl rfl rfl rfl OneC.h fun w2 hb6 hE2 hs2 => ?_)
  have h := h.ext hE2 fun x hx e => by have e : x = b6 := e; subst e; exact hF6 hx
  have hr := Rt.ext hr hE2 fun e => by have e : 0 = b6 := e; omega
  have hX := hX.thenNew hE2 fr6
  refine wl_nil (f_then (c_seq (c_seq (c_region (wl (st_ldB I_ok hb6 rfl rfl (wl (st_call Tryz.call44 rfl rfl rfl rfl rfl rfl (fits_calls w2 h area har) fun v3 w3 hr3 => ?_))))))))
  obtain ⟨rfl, hE3⟩ := hr3
  have hb6 := hb6.extNo hE3
  have h := h.extNo hE3
  have hr := Rt.ext hr hE3 id
  have hX := hX.thenNo hE3
  refine wl_p I_ok rfl (wl_nil (f_then (c_cond rfl (fun hc => ?_) (fun hc => ?_))))
  · have hfit : ¬ (0 ≤ area ∧ FitsB area.toNat D.secs.length) := fun h => by rw [decide_eq_true h] at hc; cases hc
    have he := formatW_no hfit
    rw [he]
    refine c_seq (c_region (wl_p I_ok rfl (wl_nil (f_then (c_ret (f_thenR (f_ret [_, _] ⟨rfl, rfl, trivial⟩ ?_)))))))
    exact ⟨none, F, rfl, h, hX, fun y hy => .inl hy, fun _ => rfl, fun e => absurd (show (2 : Int) = 0 from e) (by decide)⟩
  · have hfit : 0 ≤ area ∧ FitsB area.toNat D.secs.length := by simpa using hc
    obtain ⟨a, rfl⟩ : ∃ a : Nat, area = (a : Int) := ⟨area.toNat, by omega⟩
    rw [Int.toNat_natCast] at hfit
    have hfit := hfit.2
    have ha4 := hfit.1
    have ha1 := hfit.2.1
    have hW := formatW_yes hfit
    rw [Int.toNat_natCast]
    obtain ⟨y, hy⟩ : ∃ y, y = layD D 0 (List.replicate (2 + 2 * a) zeros) := ⟨_, rfl⟩
    have hyo := layD_ok (List.replicate (2 + 2 * a) zeros) 0 hok (zeros_rep _)
    rw [List.length_replicate, ← hy] at hyo
    rw [← hy] at hW
    refine c_skip (f_then (c_seq (c_draw rfl 7 [(0, true), (1, true), (2, true), (3, true), (4, false), (5, false), (6, true)] [] (F) (by kernel_rfl) fun w4 hE4 hs4 => ?_)))
    have hd6 := hb6
    have hd := h
    have hrd := hr
    have hXd := hX
    have hb6 := hb6.extNo hE4
    have h := h.extNo hE4
    have hr := Rt.ext hr hE4 id
    have hX := hX.thenNo hE4
    have hC : Ext (F) _ w4 := hE4.no
    refine wd_ldN I_ok rfl rfl (fun w' hw' => ((hd6.ext hw' hF6).seg)) rfl ?_
    refine wd_k I_ok 3 rfl ?_
    rw [show IntKind.i64.wrap (2 + IntKind.i64.wrap (2 * (a : Int))) = ((2 + 2 * a : Nat) : Int) from by rw [IntWalk.i64_in (2 * (a : Int)) (by omega), IntWalk.i64_in _ (by omega)]; omega]
    have hXb := hX
    refine wd_l rfl (st_call Tryz.call46 rfl rfl rfl rfl rfl rfl (blank_calls w4 (2 + 2 * a)) fun v5 w5 hr5 => ⟨(by obtain ⟨bb, rfl, hnb, hbb, hE5⟩ := hr5; exact hC.thenNo hE5), ?_⟩)
    obtain ⟨bb, rfl, hnb, hbb, hE5⟩ := hr5
    have hb6 := hb6.extNo hE5
    have h := h.extNo hE5
    have hr := Rt.ext hr hE5 id
    have hX := hX.thenNo hE5
    have hC := hC.thenNo hE5
    have hX1 := hX.size
    have l6 := hb6.lt
    have lr := hr.lt
    refine wd_l rfl (st_call Tryz.call45 rfl rfl rfl rfl rfl rfl (put_calls w5 (n := a) (L := List.replicate (2 + 2 * a) zeros) (own := One bb) h hok (by rw [List.length_replicate]; omega) 0 (by decide) (zeros_rep _) Tryz.call82 (fun w1 hE1 => by rw [List.length_replicate]; exact blank1_iter w1 (hbb.extNo hE1) (by omega)) (fun x e => by have e : x = bb := e; subst e; exact ⟨hbb.lt, fun e => by have := hFlt _ e; have := hXb.size; omega⟩)) fun v6 w6 hr6 => ⟨(by obtain ⟨rfl, F2, h2, hE6, hF2⟩ := hr6; exact hC.then hE6), ?_⟩)
    obtain ⟨rfl, F2, h2, hE6, hF2⟩ := hr6
    have hb6 := hb6.ext hE6 hF6
    have hX := hX.then hE6
    have hC := hC.then hE6
    have hF6 := own_out hF6 l6 hF2
    have hr := Rt.ext hr hE6 hF0
    have hF0 := own_out hF0 lr hF2
    rw [← hy] at h2 ⊢
    have hF2 := grow_sub (fun x => .inl) hX1 hF2
    refine wd_k I_ok 1 rfl (wd_sw (wb_nil (f_then ?_)))
    refine c_cutK (α := (Nat → Prop) × Dsk × Int) [6] rfl (fun z => [(7, .int .i64 z.2.2)]) (fun z u => ((z.2.1, z.2.2) = formatW D (a : Int) ∧ At u d z.1 z.2.1 ∧ (∀ x, z.1 x → F x ∨ w.heap.size ≤ x)) ∧ Blk u b6 89 ([.pointer (some ⟨d, 0, none⟩), .int .i64 (a : Int)]) ∧ Ext F w u) ?_ ?_
    · refine c_seq ?_
      refine c_region (wl_p I_ok rfl (wl_nil (f_then (c_if rfl (fun hc => ?_) (fun hc => ?_)))))
      · refine c_region ?_
        refine wl (st_ldB I_ok hb6 rfl rfl ?_)
        have hX2 := hX.size
        refine wl (st_call Tryz.call47 rfl rfl rfl rfl rfl rfl (begin_calls w6 (n := a) (t := 0) (b := []) (c := 0) (p := none) h2 hyo (by omega) (by omega) (by decide) (Sl.nil _ _ _) (by decide) hr hF0) fun v7 w7 hr7 => ?_)
        obtain ⟨rfl, F4, h4, hE7, hF4s⟩ := hr7
        have hb6 := hb6.ext hE7 hF6
        have hX := hX.trans hE7 fun x hx e => (hF2 x e).resolve_right (by omega)
        refine wl_p I_ok rfl (wl_nil ?_)
        exact f_cut (F4, (beginD y.1 0 a []).1, (beginD y.1 0 a []).2) rfl ⟨⟨by rw [hW, if_neg (fun h => h hc)], h4, grow_sub hF2 hX2 hF4s⟩, hb6, hX⟩
      · refine c_skip ?_
        exact f_cut (F2, y.1, y.2) rfl ⟨⟨by rw [hW, if_pos hc], h2, hF2⟩, hb6, hX⟩
    rintro ⟨G, D1, e⟩ w8 ⟨⟨hfw, hA, hG⟩, hb6, hX⟩
    refine c_seq (c_seq (c_region (wl_p I_ok rfl (wl_nil (f_then (c_if rfl (fun hc => ?_) (fun hc => ?_)))))))
    · refine c_seq ?_
      refine c_region (wl_p I_ok rfl (wl_nil (f_then (c_ret (f_thenR (f_ret [_, _] ⟨rfl, rfl, trivial⟩ ?_))))))
      rw [← hfw]
      exact ⟨none, G, rfl, hA, hX, hG, fun _ => rfl, fun e => absurd e hc⟩
    · refine c_skip ?_
      refine f_then (c_seq (c_region (wl (st_ldB I_ok hb6 rfl rfl ?_))))
      have hGl := hA.lt
      refine wl (st_bs I_ok rfl 1 rfl rfl rfl (by decide) (by decide) (by simp [partsOk]) (l' := [.slice none 0 0]) rfl fun b30 w9 hn30 hb30 hE9 hs9 => ?_)
      have ne6_30 : b6 ≠ b30 := Nat.ne_of_lt (Nat.lt_of_lt_of_le hb6.lt hn30)
      have fr30 := Nat.le_trans hX.size hn30
      have hb6 := hb6.extNo hE9
      have hA := hA.extNo hE9
      have hX := hX.thenNo hE9
      refine wl (st_bd I_ok rfl ⟨⟨rfl, by decide⟩, ⟨rfl, by decide⟩, ⟨rfl, by decide⟩, trivial⟩ (l' := [.pointer (some ⟨d, 0, none⟩), .int .i64 (a : Int), .int .u32 0, .slice (some ⟨b30, 0, none⟩) 1 1, .int .i64 1, .bool false]) rfl ?_)
      refine wl (st_al I_ok rfl fun b32 w10 hn32 hb32 hE10 => ?_)
      have ne6_32 : b6 ≠ b32 := Nat.ne_of_lt (Nat.lt_of_lt_of_le hb6.lt hn32)
      have ne30_32 : b30 ≠ b32 := Nat.ne_of_lt (Nat.lt_of_lt_of_le hb30.lt hn32)
      have fr32 := Nat.le_trans hX.size hn32
      have hb6 := hb6.extNo hE10
      have hb30 := hb30.extNo hE10
      have hA := hA.extNo hE10
      have hX := hX.thenNo hE10
      have hb32 : Blk w10 b32 98 ([.pointer (some ⟨d, 0, none⟩), .int .i64 (a : Int), .int .u32 0, .slice (some ⟨b30, 0, none⟩) 1 1, .int .i64 1, .bool false]) := hb32
      refine wl_p I_ok rfl (wl_nil (f_then (c_ret (f_ret [_, _] ⟨rfl, rfl, trivial⟩ ?_))))
      have he0 : e = 0 := Decidable.not_not.1 hc
      subst he0
      rw [← hfw]
      refine ⟨some ⟨b32, 0, none⟩, G, rfl, hA, hX, hG, fun e => absurd rfl e, fun _ => ⟨b32, fun y => y = b32 ∨ y = b30, rfl, ⟨⟨some ⟨b30, 0, none⟩, 1, [.slice none 0 0], hb32, Own.blk hb30 1 (n := 1) (c := 1) rfl (Nat.le_refl _) (by decide), ⟨rfl, fun i b v h1 h2 => ?_⟩, fun y hy => .inr (own1 hy)⟩, .inl rfl, fun y hy => ?_⟩, fun y hy => ?_⟩⟩
      · have hi : i = 0 := by have := (List.getElem?_eq_some_iff.1 h1).1; simpa [Wl.fresh] using this
        subst hi
        simp [Wl.fresh] at h1 h2
        subst h1 h2
        exact nil_piece _ _
      · rcases hy with rfl | rfl
        · exact hb32.lt
        · exact hb30.lt
      · rcases hy with rfl | rfl
        · exact ⟨fr32, fun e => by have := hGl _ e; have := hE9.size; omega⟩
        · exact ⟨fr30, fun e => by have := hGl _ e; omega⟩
end Go.Proofs.YtlfdlodcjiaiiaaGreatDoor
