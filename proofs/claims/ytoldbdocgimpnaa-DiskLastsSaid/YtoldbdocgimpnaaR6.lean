/- the document's disk: what each act should do -/
import Derived.Test.YtoldbdocgimpnaaR5
namespace Go.Proofs.Ytoldbdocgimpnaa
open Go.Vc
theorem fits_calls (w : World) (n : Int) : CallsV Try.prog 18 [.int .i64 n] w fun v w' => v = .bool (decide (1 ≤ n ∧ n ≤ 2048)) ∧ Ext No w w' := by
  refine calls_enter Try.func18 rfl rfl rfl rfl ?_
  have hX := Ext.refl No w
  refine c_seq (c_region (wl_p I_ok rfl (wl_nil (f_then (c_cutK (α := Bool) [] rfl (fun z => [(2, .bool z)]) (fun z u => u = w ∧ z = decide (1 ≤ n ∧ n ≤ 2048)) ?_ ?_)))))
  · refine c_region ?_
    refine wl_p I_ok rfl (wl_caseD 5 rfl (fun hg => ?_) (fun hg => ?_))
    · refine wl_pg I_ok rfl ?_
      refine wl_nil ?_
      exact f_cut (_) rfl ⟨rfl, by simp only [decide_eq_decide]; omega⟩
    · refine wl_pg I_ok rfl ?_
      refine wl_nil ?_
      exact f_cut (_) rfl ⟨rfl, by simp; omega⟩
  rintro z w1 ⟨rfl, rfl⟩
  refine c_ret (f_ret1 rfl rfl ?_)
  exact ⟨rfl, hX⟩
theorem fresh_calls (w : World) (n : Int) : CallsV Try.prog 19 [.int .i64 n] w fun v w' => v = .agg (refL (RDsk.fresh n) none 0).toArray ∧ Ext No w w' := by
  refine calls_enter Try.func19 rfl rfl rfl rfl ?_
  have hX := Ext.refl No w
  refine c_seq (c_region (wl (st_al I_ok rfl fun b2 w1 hn2 hb2 hE1 => ?_)))
  have fr2 := Nat.le_trans hX.size hn2
  have hX := hX.thenNo hE1
  refine wl_nil (f_then (c_seq (c_region (wl_p I_ok rfl (wl (st_bd I_ok rfl ⟨⟨rfl, by decide⟩, ⟨rfl, by decide⟩, ⟨rfl, by decide⟩, trivial⟩ (l' := refL (RDsk.fresh n) none 0) rfl ?_))))))
  refine wl (st_stW (l' := refL (RDsk.fresh n) none 0) I_ok hb2 rfl rfl rfl rfl OneC.h fun w2 hb2 hE2 hs2 => ?_)
  have hX := hX.thenNew hE2 fr2
  refine wl_nil (f_then (c_ret (f_ret [_] ⟨⟨b2, 0, rfl, ld_all I_ok rfl rfl hb2.seg rfl⟩, trivial⟩ ?_)))
  exact ⟨rfl, hX⟩
theorem should_calls (w : World) (x : RDsk) (p : Option Addr) (c : Nat) (hx : x.Fits) (h : RefW w p x.wr) (hn : x.wr.length < 1000000000) {G : Nat → Prop} {a : PAct} {r : List Value} (ha : ActAt w G a r) :
    CallsV Try.prog 20 [.agg (refL x p c).toArray, .agg r.toArray] w fun v w' => ∃ p' c', v = .tuple #[.agg (refL (x.should a).1 p' c').toArray, numA .u8 (x.should a).2.1, .int .i64 (x.should a).2.2] ∧ RefW w' p' (x.should a).1.wr ∧ NewOr w p p' x.wr (x.should a).1.wr ∧ Ext No w w' := by
  obtain ⟨q, qc, rfl, hqc, _, hs, hsG, hn1, hn2⟩ := ha
  have hwN := whichN_lt a.k
  refine calls_enter Try.func20 rfl rfl rfl rfl ?_
  have hX := Ext.refl No w
  refine c_seq (c_region (wl (st_al I_ok rfl fun b2 w1 hn2 hb2 hE1 => ?_)))
  have fr2 := Nat.le_trans hX.size hn2
  have hX := hX.thenNo hE1
  have hb2 : Blk w1 b2 48 (refL x p c) := hb2
  refine wl (st_al I_ok rfl fun b3 w2 hn3 hb3 hE2 => ?_)
  have ne2_3 : b2 ≠ b3 := Nat.ne_of_lt (Nat.lt_of_lt_of_le hb2.lt hn3)
  have fr3 := Nat.le_trans hX.size hn3
  have hb2 := hb2.extNo hE2
  have hX := hX.thenNo hE2
  have hb3 : Blk w2 b3 35 (actV a q qc) := hb3
  refine wl (st_al I_ok rfl fun b4 w3 hn4 hb4 hE3 => ?_)
  have ne2_4 : b2 ≠ b4 := Nat.ne_of_lt (Nat.lt_of_lt_of_le hb2.lt hn4)
  have ne3_4 : b3 ≠ b4 := Nat.ne_of_lt (Nat.lt_of_lt_of_le hb3.lt hn4)
  have fr4 := Nat.le_trans hX.size hn4
  have hb2 := hb2.extNo hE3
  have hb3 := hb3.extNo hE3
  have hX := hX.thenNo hE3
  refine wl (st_al I_ok rfl fun b5 w4 hn5 hb5 hE4 => ?_)
  have ne2_5 : b2 ≠ b5 := Nat.ne_of_lt (Nat.lt_of_lt_of_le hb2.lt hn5)
  have ne3_5 : b3 ≠ b5 := Nat.ne_of_lt (Nat.lt_of_lt_of_le hb3.lt hn5)
  have ne4_5 : b4 ≠ b5 := Nat.ne_of_lt (Nat.lt_of_lt_of_le hb4.lt hn5)
  have fr5 := Nat.le_trans hX.size hn5
  have hb2 := hb2.extNo hE4
  have hb3 := hb3.extNo hE4
  have hb4 := hb4.extNo hE4
  have hX := hX.thenNo hE4
  have hb5 : Blk w4 b5 29 (bytesL zeros) := by rw [← z29]; exact hb5
  refine wl_p I_ok rfl (wl_nil (f_then (c_seq (c_region (wl (st_al I_ok rfl fun b7 w5 hn7 hb7 hE5 => ?_))))))
  have ne2_7 : b2 ≠ b7 := Nat.ne_of_lt (Nat.lt_of_lt_of_le hb2.lt hn7)
  have ne3_7 : b3 ≠ b7 := Nat.ne_of_lt (Nat.lt_of_lt_of_le hb3.lt hn7)
  have ne4_7 : b4 ≠ b7 := Nat.ne_of_lt (Nat.lt_of_lt_of_le hb4.lt hn7)
  have ne5_7 : b5 ≠ b7 := Nat.ne_of_lt (Nat.lt_of_lt_of_le hb5.lt hn7)
  have fr7 := Nat.le_trans hX.size hn7
  have hb2 := hb2.extNo hE5
  have hb3 := hb3.extNo hE5
  have hb4 := hb4.extNo hE5
  have hb5 := hb5.extNo hE5
  have hX := hX.thenNo hE5
  have hb7 : Blk w5 b7 29 (bytesL zeros) := by rw [← z29]; exact hb7
  refine wl_nil (f_then (c_seq (c_region (wl_p I_ok rfl (wl_nil (f_then ?_))))))
  refine c_cutK (α := RDsk × Option Addr × Nat × List Int × Int) [2, 4, 5, 7] rfl (fun z => [(8, .int .i64 z.2.2.2.2)]) (fun z u => ((z.1, z.2.2.2.1, z.2.2.2.2) = x.should a ∧ RefW u z.2.1 z.1.wr ∧ NewOr w p z.2.1 x.wr z.1.wr ∧ (z.1.wr.length ≠ 0 → ∀ b' off, z.2.1 = some ⟨b', off, none⟩ → b' ≠ b4 ∧ b' ≠ b5) ∧ z.2.2.2.1.length = 64) ∧ Blk u b2 48 (refL z.1 z.2.1 z.2.2.1) ∧ Blk u b4 48 (cellsOf ti48.zero) ∧ Blk u b5 29 (bytesL zeros) ∧ Blk u b7 29 (bytesL z.2.2.2.1) ∧ Ext No w u) ?_ ?_
  · refine c_seq ?_
    refine c_region (wl (st_ldB I_ok hb3 rfl rfl (wl (st_call Try.call13 rfl rfl rfl rfl rfl rfl (which_calls w5 a q qc) fun v6 w6 hr6 => ?_))))
    obtain ⟨rfl, hE6⟩ := hr6
    have hb2 := hb2.extNo hE6
    have hb3 := hb3.extNo hE6
    have hb4 := hb4.extNo hE6
    have hb5 := hb5.extNo hE6
    have hb7 := hb7.extNo hE6
    have hX := hX.thenNo hE6
    refine wl_p I_ok rfl (wl_nil (f_then (c_block (c_seq (c_region (wl_p I_ok rfl (wl_nil (f_then (c_if rfl (fun hc => ?_) (fun hc => ?_))))))))))
    · have hw0 : whichN a.k = 0 := by omega
      refine c_region (wl (st_ldB I_ok hb2 rfl rfl (wl_p I_ok rfl (wl (st_ldb I_ok hb3 rfl rfl (wl (st_call Try.call39 rfl rfl rfl rfl rfl rfl (refRead_calls w6 x p c hx (h.extNo hX) hn a.n) fun v7 w7 hr7 => ?_)))))))
      obtain ⟨rfl, hE7⟩ := hr7
      have hb2 := hb2.extNo hE7
      have hb3 := hb3.extNo hE7
      have hb4 := hb4.extNo hE7
      have hb5 := hb5.extNo hE7
      have hb7 := hb7.extNo hE7
      have hX := hX.thenNo hE7
      refine wl_p I_ok rfl (wl (st_stW (l' := refL (x.read a.n).1 p c) I_ok hb2 rfl rfl rfl rfl OneC.h fun w8 hb2 hE8 hs8 => ?_))
      have hb3 := hb3.ext1 hE8 ne2_3.symm
      have hb4 := hb4.ext1 hE8 ne2_4.symm
      have hb5 := hb5.ext1 hE8 ne2_5.symm
      have hb7 := hb7.ext1 hE8 ne2_7.symm
      have hX := hX.thenNew hE8 fr2
      have hl64 : (bytesL (x.read a.n).2.1).length = 64 := bytesL_len (by simp only [RDsk.read]; split; exact holdsIn_len (by rw [x.begin_wr]; exact h.2) _; exact zeros_length)
      refine wl (st_stW (l' := bytesL (x.read a.n).2.1) I_ok hb7 rfl (by rw [cells_num]) hl64 (by rw [hl64, bytesL_len zeros_length]) OneC.h fun w9 hb7 hE9 hs9 => ?_)
      have hb2 := hb2.ext1 hE9 ne2_7
      have hb3 := hb3.ext1 hE9 ne3_7
      have hb4 := hb4.ext1 hE9 ne4_7
      have hb5 := hb5.ext1 hE9 ne5_7
      have hX := hX.thenNew hE9 fr7
      refine wl_p I_ok rfl (wl_nil ?_)
      have hwr : (x.read a.n).1.wr = x.wr := x.begin_wr a.n false
      have hlt4 := hb4.lt
      exact f_blockN (f_cut ((x.read a.n).1, p, c, (x.read a.n).2.1, (x.read a.n).2.2) rfl ⟨⟨by simp only [RDsk.should, if_pos hw0], by rw [hwr]; exact h.extNo hX, .inl ⟨rfl, hwr⟩, fun hl b' off hb' => by (have := h.lt (by rw [hwr] at hl; exact hl) b' off hb'; exact ⟨by omega, by omega⟩), by simpa [bytesL] using hl64⟩, hb2, hb4, hb5, hb7, hX⟩)
    · have hw0 : ¬ whichN a.k = 0 := by omega
      refine c_seq (c_region (wl_p I_ok rfl (wl_nil (f_then (c_if rfl (fun hc => ?_) (fun hc => ?_))))))
      · have hw1 : whichN a.k = 1 ∨ whichN a.k = 2 := by omega
        refine c_draw rfl 7 [(0, true), (1, true), (2, true), (3, true), (4, false), (5, false), (6, true)] [18, 19, 9, 10] (No) (by kernel_rfl) fun w10 hE10 hs10 => ?_
        have hd2 := hb2
        have hd3 := hb3
        have hd4 := hb4
        have hd5 := hb5
        have hd7 := hb7
        have hb2 := hb2.extNo hE10
        have hb3 := hb3.extNo hE10
        have hb4 := hb4.extNo hE10
        have hb5 := hb5.extNo hE10
        have hb7 := hb7.extNo hE10
        have hX := hX.thenNo hE10
        have hC : Ext (No) _ w10 := hE10.no
        refine wd_ldN I_ok rfl rfl (fun w' hw' => (hd2.extNo hw').seg) rfl ?_
        refine wd_p I_ok rfl (wd_ld I_ok rfl rfl (fun w' hw' => (hd3.extNo hw').cell rfl) ?_)
        refine wd_ldN I_ok rfl rfl (fun w' hw' => (hd3.extNo hw').seg) rfl ?_
        refine wd_l rfl (st_call Try.call14 rfl rfl rfl rfl rfl rfl (block_calls w10 a.k a.n a.b q a.keep.length qc) fun v11 w11 hr11 => ⟨(by obtain ⟨rfl, hE11⟩ := hr11; exact hC.thenNo hE11), ?_⟩)
        obtain ⟨rfl, hE11⟩ := hr11
        have hb2 := hb2.extNo hE11
        have hb3 := hb3.extNo hE11
        have hb4 := hb4.extNo hE11
        have hb5 := hb5.extNo hE11
        have hb7 := hb7.extNo hE11
        have hX := hX.thenNo hE11
        have hC := hC.thenNo hE11
        have hlt4 := hb4.lt
        have hlt5 := hb5.lt
        have hlt2 := hb2.lt
        have hXw := hX
        refine wd_l rfl (st_call Try.call40 rfl rfl rfl rfl rfl rfl (refWrite_calls w11 x p c hx (h.extNo hX) hn a.n (actBytes_length a.b)) fun v12 w12 hr12 => ⟨(by obtain ⟨p2, c2, rfl, hR2, hN2, hE12⟩ := hr12; exact hC.thenNo hE12), ?_⟩)
        obtain ⟨p2, c2, rfl, hR2, hN2, hE12⟩ := hr12
        have hb2 := hb2.extNo hE12
        have hb3 := hb3.extNo hE12
        have hb4 := hb4.extNo hE12
        have hb5 := hb5.extNo hE12
        have hb7 := hb7.extNo hE12
        have hX := hX.thenNo hE12
        have hC := hC.thenNo hE12
        refine wd_p I_ok rfl (wd_sw (wbf I_ok (i := 7) rfl rfl rfl rfl rfl (by kernel_rfl) (wbf I_ok (i := 8) rfl rfl rfl rfl rfl (by kernel_rfl) ?_)))
        refine wb rfl (st_stW (l' := refL (x.write a.n (actBytes a.b)).1 p2 c2) I_ok hb2 rfl rfl rfl rfl OneC.h fun w13 hb2 hE13 hs13 => ?_)
        have hb3 := hb3.ext1 hE13 ne2_3.symm
        have hb4 := hb4.ext1 hE13 ne2_4.symm
        have hb5 := hb5.ext1 hE13 ne2_5.symm
        have hb7 := hb7.ext1 hE13 ne2_7.symm
        have hX := hX.thenNew hE13 fr2
        have hR3 : RefW w13 p2 _ := ⟨Sl.ext0 hR2.1 hE13 fun hl b' off hb' => hN2.ne h hl fr2 hlt2 b' off hb', hR2.2⟩
        refine wb rfl (st_p I_ok rfl rfl rfl (wb_nil ?_))
        exact f_blockN (f_cut ((x.write a.n (actBytes a.b)).1, p2, c2, zeros, (x.write a.n (actBytes a.b)).2) rfl ⟨⟨by simp only [RDsk.should, if_neg hw0, if_pos hw1], hR3, hN2.wide hXw.size, fun hl b' off hb' => ⟨hN2.ne h hl fr4 hlt4 b' off hb', hN2.ne h hl fr5 hlt5 b' off hb'⟩, zeros_length⟩, hb2, hb4, hb5, hb7, hX⟩)
      · have hw1 : ¬ (whichN a.k = 1 ∨ whichN a.k = 2) := by omega
        refine c_seq (c_region (wl_p I_ok rfl (wl_nil (f_then (c_if rfl (fun hc => ?_) (fun hc => ?_))))))
        · have hw3 : whichN a.k = 3 := by omega
          refine c_region (wl (st_ldB I_ok hb2 rfl rfl ?_))
          have hlt4 := hb4.lt
          have hlt5 := hb5.lt
          have hlt2 := hb2.lt
          have hXw := hX
          refine wl (st_call Try.call41 rfl rfl rfl rfl rfl rfl (refSync_calls w6 x p c hx (h.extNo hX) hn) fun v14 w14 hr14 => ?_)
          obtain ⟨p2, c2, rfl, hR2, hN2, hE14⟩ := hr14
          have hb2 := hb2.extNo hE14
          have hb3 := hb3.extNo hE14
          have hb4 := hb4.extNo hE14
          have hb5 := hb5.extNo hE14
          have hb7 := hb7.extNo hE14
          have hX := hX.thenNo hE14
          refine wl_p I_ok rfl (wl (st_stW (l' := refL x.sync.1 p2 c2) I_ok hb2 rfl rfl rfl rfl OneC.h fun w15 hb2 hE15 hs15 => ?_))
          have hb3 := hb3.ext1 hE15 ne2_3.symm
          have hb4 := hb4.ext1 hE15 ne2_4.symm
          have hb5 := hb5.ext1 hE15 ne2_5.symm
          have hb7 := hb7.ext1 hE15 ne2_7.symm
          have hX := hX.thenNew hE15 fr2
          have hR3 : RefW w15 p2 _ := ⟨Sl.ext0 hR2.1 hE15 fun hl b' off hb' => hN2.ne h hl fr2 hlt2 b' off hb', hR2.2⟩
          refine wl_p I_ok rfl (wl_nil ?_)
          exact f_blockN (f_cut (x.sync.1, p2, c2, zeros, x.sync.2) rfl ⟨⟨by simp only [RDsk.should, if_neg hw0, if_neg hw1, if_pos hw3], hR3, hN2.wide hXw.size, fun hl b' off hb' => ⟨hN2.ne h hl fr4 hlt4 b' off hb', hN2.ne h hl fr5 hlt5 b' off hb'⟩, zeros_length⟩, hb2, hb4, hb5, hb7, hX⟩)
        · have hw3 : ¬ (whichN a.k = 3) := by omega
          refine c_seq (c_region (wl_p I_ok rfl (wl_nil (f_then (c_if rfl (fun hc => ?_) (fun hc => ?_))))))
          · have hw6 : whichN a.k = 6 := by omega
            refine c_draw rfl 4 [(0, true), (1, true), (2, false), (3, false)] [4] (No) (by kernel_rfl) fun w16 hE16 hs16 => ?_
            have hd2 := hb2
            have hd3 := hb3
            have hd4 := hb4
            have hd5 := hb5
            have hd7 := hb7
            have hb2 := hb2.extNo hE16
            have hb3 := hb3.extNo hE16
            have hb4 := hb4.extNo hE16
            have hb5 := hb5.extNo hE16
            have hb7 := hb7.extNo hE16
            have hX := hX.thenNo hE16
            have hC : Ext (No) _ w16 := hE16.no
            refine wd_ldN I_ok rfl rfl (fun w' hw' => (hd2.extNo hw').seg) rfl ?_
            refine wd_ldN I_ok rfl rfl (fun w' hw' => (hd3.extNo hw').seg) rfl ?_
            refine wd_l rfl (st_call Try.call38 rfl rfl rfl rfl rfl rfl (keepOf_calls w16 (hs.extNo hX) hqc) fun v17 w17 hr17 => ⟨(by obtain ⟨kq, kc, rfl, hks, hkn, hE17⟩ := hr17; exact hC.thenNo hE17), ?_⟩)
            obtain ⟨kq, kc, rfl, hks, hkn, hE17⟩ := hr17
            have hb2 := hb2.extNo hE17
            have hb3 := hb3.extNo hE17
            have hb4 := hb4.extNo hE17
            have hb5 := hb5.extNo hE17
            have hb7 := hb7.extNo hE17
            have hX := hX.thenNo hE17
            have hC := hC.thenNo hE17
            have hlt4 := hb4.lt
            have hlt5 := hb5.lt
            have hlt2 := hb2.lt
            have hXw := hX
            refine wd_l rfl (st_call Try.call23 rfl rfl rfl rfl rfl rfl (refCrash_calls w17 x p c (h.extNo hX) hn hks (by simp; omega)) fun v18 w18 hr18 => ⟨(by obtain ⟨p2, c2, rfl, hR2, hN2, hE18⟩ := hr18; exact hC.thenNo hE18), ?_⟩)
            obtain ⟨p2, c2, rfl, hR2, hN2, hE18⟩ := hr18
            have hb2 := hb2.extNo hE18
            have hb3 := hb3.extNo hE18
            have hb4 := hb4.extNo hE18
            have hb5 := hb5.extNo hE18
            have hb7 := hb7.extNo hE18
            have hX := hX.thenNo hE18
            have hC := hC.thenNo hE18
            refine wd_sw (wb rfl (st_stW (l' := refL (x.crash (a.keep.take 200)) p2 c2) I_ok hb2 rfl rfl rfl rfl OneC.h fun w19 hb2 hE19 hs19 => ?_))
            have hb3 := hb3.ext1 hE19 ne2_3.symm
            have hb4 := hb4.ext1 hE19 ne2_4.symm
            have hb5 := hb5.ext1 hE19 ne2_5.symm
            have hb7 := hb7.ext1 hE19 ne2_7.symm
            have hX := hX.thenNew hE19 fr2
            have hR3 : RefW w19 p2 _ := ⟨Sl.ext0 hR2.1 hE19 fun hl b' off hb' => hN2.ne h hl fr2 hlt2 b' off hb', hR2.2⟩
            refine wb_nil ?_
            exact f_blockN (f_cut (x.crash (a.keep.take 200), p2, c2, zeros, 0) rfl ⟨⟨by simp only [RDsk.should, if_neg hw0, if_neg hw1, if_neg hw3, if_pos hw6], hR3, hN2.wide hXw.size, fun hl b' off hb' => ⟨hN2.ne h hl fr4 hlt4 b' off hb', hN2.ne h hl fr5 hlt5 b' off hb'⟩, zeros_length⟩, hb2, hb4, hb5, hb7, hX⟩)
          · have hw6 : ¬ (whichN a.k = 6) := by omega
            refine c_seq (c_region (wl_p I_ok rfl (wl (st_ldb I_ok hb2 rfl rfl (wl_p I_ok rfl (wl_nil (f_then (c_cond rfl (fun hc => ?_) (fun hc => ?_)))))))))
            · refine c_region ?_
              refine wl_p I_ok rfl (wl_nil ?_)
              have hlt4 := hb4.lt
              exact f_blockN (f_cut (x, p, c, zeros, 9) rfl ⟨⟨by simp only [RDsk.should, if_neg hw0, if_neg hw1, if_neg hw3, if_neg hw6, if_pos hc], h.extNo hX, .inl ⟨rfl, rfl⟩, fun hl b' off hb' => by (have := h.lt hl b' off hb'; exact ⟨by omega, by omega⟩), zeros_length⟩, hb2, hb4, hb5, hb7, hX⟩)
            · have hc' : ¬ x.dead = true := by rw [hc]; decide
              refine c_seq (c_region (wl_p I_ok rfl (wl_nil (f_then (c_if rfl (fun hc => ?_) (fun hc => ?_))))))
              · have hw4 : whichN a.k = 4 := by omega
                refine c_region (wl_p I_ok rfl (wl (st_ldb I_ok hb3 rfl rfl (wl (st_call Try.call42 rfl rfl rfl rfl rfl rfl (set_calls w6 a.n) fun v20 w20 hr20 => ?_)))))
                obtain ⟨rfl, hE20⟩ := hr20
                have hb2 := hb2.extNo hE20
                have hb3 := hb3.extNo hE20
                have hb4 := hb4.extNo hE20
                have hb5 := hb5.extNo hE20
                have hb7 := hb7.extNo hE20
                have hX := hX.thenNo hE20
                refine wl_p I_ok rfl (wl (st_st I_ok hb2 rfl rfl rfl fun w21 hb2 hE21 hs21 => ?_))
                have hb3 := hb3.ext1 hE21 ne2_3.symm
                have hb4 := hb4.ext1 hE21 ne2_4.symm
                have hb5 := hb5.ext1 hE21 ne2_5.symm
                have hb7 := hb7.ext1 hE21 ne2_7.symm
                have hX := hX.thenNew hE21 fr2
                have hb2 : Blk w21 b2 48 (refL { x with fuse := rset a.n } p c) := hb2
                refine wl_nil ?_
                have hlt4 := hb4.lt
                exact f_blockN (f_cut ({ x with fuse := rset a.n }, p, c, zeros, 0) rfl ⟨⟨by simp only [RDsk.should, if_neg hw0, if_neg hw1, if_neg hw3, if_neg hw6, if_neg hc', if_pos hw4], h.extNo hX, .inl ⟨rfl, rfl⟩, fun hl b' off hb' => by (have := h.lt hl b' off hb'; exact ⟨by omega, by omega⟩), zeros_length⟩, hb2, hb4, hb5, hb7, hX⟩)
              · have hw4 : ¬ (whichN a.k = 4) := by omega
                refine c_region (wl_p I_ok rfl (wl (st_ldb I_ok hb3 rfl rfl (wl (st_call Try.call42 rfl rfl rfl rfl rfl rfl (set_calls w6 a.n) fun v22 w22 hr22 => ?_)))))
                obtain ⟨rfl, hE22⟩ := hr22
                have hb2 := hb2.extNo hE22
                have hb3 := hb3.extNo hE22
                have hb4 := hb4.extNo hE22
                have hb5 := hb5.extNo hE22
                have hb7 := hb7.extNo hE22
                have hX := hX.thenNo hE22
                refine wl_p I_ok rfl (wl (st_st I_ok hb2 rfl rfl rfl fun w23 hb2 hE23 hs23 => ?_))
                have hb3 := hb3.ext1 hE23 ne2_3.symm
                have hb4 := hb4.ext1 hE23 ne2_4.symm
                have hb5 := hb5.ext1 hE23 ne2_5.symm
                have hb7 := hb7.ext1 hE23 ne2_7.symm
                have hX := hX.thenNew hE23 fr2
                have hb2 : Blk w23 b2 48 (refL { x with fault := rset a.n } p c) := hb2
                refine wl_nil ?_
                have hlt4 := hb4.lt
                exact f_blockN (f_cut ({ x with fault := rset a.n }, p, c, zeros, 0) rfl ⟨⟨by simp only [RDsk.should, if_neg hw0, if_neg hw1, if_neg hw3, if_neg hw6, if_neg hc', if_neg hw4], h.extNo hX, .inl ⟨rfl, rfl⟩, fun hl b' off hb' => by (have := h.lt hl b' off hb'; exact ⟨by omega, by omega⟩), zeros_length⟩, hb2, hb4, hb5, hb7, hX⟩)
  rintro ⟨z, p6, c6, zb, ze⟩ w24 ⟨⟨hsh, hR, hN, hne, h64⟩, hb2, hb4, hb5, hb7, hX⟩
  dsimp only
  dsimp only at hsh hR hN hne h64 hb2 hb7
  refine c_seq (c_draw rfl 5 [(0, true), (1, true), (2, true), (3, false), (4, false)] [5] (fun x => x = b4 ∨ x = b5) (by kernel_rfl) fun w25 hE25 hs25 => ?_)
  have hd2 := hb2
  have hd4 := hb4
  have hd5 := hb5
  have hd7 := hb7
  have hb2 := hb2.extNo hE25
  have hb4 := hb4.extNo hE25
  have hb5 := hb5.extNo hE25
  have hb7 := hb7.extNo hE25
  have hX := hX.thenNo hE25
  have hC : Ext (fun x => x = b4 ∨ x = b5) _ w25 := hE25.no
  have hl64 := bytesL_len h64
  have hty : ∀ X Y : Nat, X = Y → Y = X := fun _ _ e => e.symm
  refine wd_ldN I_ok rfl rfl (fun w' hw' => (hd2.ext (show Ext (fun x => x = b4 ∨ x = b5) _ w' from hw') fun e => by have e : _ = _ ∨ _ = _ := e; omega).seg) rfl ?_
  refine wd_ldN I_ok rfl rfl (fun w' hw' => (hd7.ext (show Ext (fun x => x = b4 ∨ x = b5) _ w' from hw') fun e => by have e : _ = _ ∨ _ = _ := e; omega).seg) hl64 ?_
  refine wd_p I_ok rfl (wd_l rfl (st_stW (l' := refL z p6 c6) I_ok hb4 rfl rfl rfl rfl OneC.h fun w26 hb4 hE26 hs26 => ⟨hC.then (hE26.mono fun _ _ e => by have e : _ = _ := e; show _ = _ ∨ _ = _; omega), ?_⟩))
  have hC := hC.then (hE26.mono fun _ _ e => by have e : _ = _ := e; show _ = _ ∨ _ = _; omega)
  have hb2 := hb2.ext1 hE26 ne2_4
  have hb5 := hb5.ext1 hE26 ne4_5.symm
  have hb7 := hb7.ext1 hE26 ne4_7.symm
  have hX := hX.thenNew hE26 fr4
  have hR : RefW w26 p6 _ := ⟨Sl.ext0 hR.1 (hE25.no.then hE26) fun hl b' off hb' e => (hne hl b' off hb').1 e, hR.2⟩
  refine wd_l rfl (st_stW (l' := bytesL zb) I_ok hb5 rfl rfl hl64 (by rw [hl64, bytesL_len zeros_length]) OneC.h fun w27 hb5 hE27 hs27 => ⟨hC.then (hE27.mono fun _ _ e => by have e : _ = _ := e; show _ = _ ∨ _ = _; omega), ?_⟩)
  have hC := hC.then (hE27.mono fun _ _ e => by have e : _ = _ := e; show _ = _ ∨ _ = _; omega)
  have hb2 := hb2.ext1 hE27 ne2_5
  have hb4 := hb4.ext1 hE27 ne4_5
  have hb7 := hb7.ext1 hE27 ne5_7.symm
  have hX := hX.thenNew hE27 fr5
  have hR : RefW w27 p6 _ := ⟨Sl.ext0 hR.1 hE27 fun hl b' off hb' e => (hne hl b' off hb').2 e, hR.2⟩
  refine wd_sw (wb rfl (st_p I_ok rfl rfl rfl (wb_nil (f_then (c_ret (f_ret [_, _, _] ⟨⟨b4, 0, rfl, ld_all I_ok rfl rfl hb4.seg rfl⟩, ⟨b5, 0, rfl, ld_all I_ok rfl rfl hb5.seg hl64⟩, rfl, trivial⟩ ?_))))))
  rw [← hsh]
  exact ⟨p6, c6, rfl, hR, hN, hX⟩
end Go.Proofs.Ytoldbdocgimpnaa
