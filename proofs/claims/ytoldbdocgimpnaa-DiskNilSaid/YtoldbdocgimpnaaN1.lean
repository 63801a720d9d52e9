/- a nil disk -/
import Derived.Test.YtoldbdocgimpnaaR8
namespace Go.Proofs.Ytoldbdocgimpnaa
open Go.Vc
theorem nilOp_calls (w : World) (i : Int) (b : Bool) (f : Value) : CallsV Try.prog 47 [.pointer none, .int .i64 i, .bool b, f] w fun v w' => v = .int .i64 1 ∧ Ext No w w' := by
  refine calls_enter Try.func47 rfl rfl rfl rfl ?_
  have hX := Ext.refl No w
  refine c_seq (c_region (wl_p I_ok rfl (wl_nil (f_then (c_seq (c_seq (c_region (wl_p I_ok rfl (wl (st_call Try.call52 rfl rfl rfl rfl rfl rfl ((alive_nil w).same) fun v1 w1 hr1 => ?_))))))))))
  obtain ⟨rfl, hE1⟩ := hr1
  have hX := hX.thenNo hE1
  refine wl_p I_ok rfl (wl_nil (f_then (c_seq (c_region (wl_p I_ok rfl (wl_nil (f_then (c_condT rfl (c_seq (c_region (wl_p I_ok rfl (wl_nil (f_then (c_ret (f_thenR (f_ret1 rfl rfl ?_))))))))))))))))
  exact ⟨rfl, hX⟩

theorem nilRead_calls (w : World) (i : Int) : CallsV Try.prog 24 [.pointer none, .int .i64 i] w fun v w' => v = .tuple #[numA .u8 zeros, .int .i64 1] ∧ Ext No w w' := by
  refine calls_enter Try.func24 rfl rfl rfl rfl ?_
  have hX := Ext.refl No w
  refine c_seq (c_region (wl (st_al I_ok rfl fun b4 w1 hn4 hb4 hE1 => ?_)))
  have fr4 := Nat.le_trans hX.size hn4
  have hX := hX.thenNo hE1
  have hb4 : Blk w1 b4 29 (bytesL zeros) := by rw [← z29]; exact hb4
  refine wl_p I_ok rfl (wl_nil (f_then (c_seq (c_region (wl_p I_ok rfl (wl (st_call Try.call47 rfl rfl rfl rfl rfl rfl (nilOp_calls w1 _ _ _) fun v2 w2 hr2 => ?_)))))))
  obtain ⟨rfl, hE2⟩ := hr2
  have hb4 := hb4.extNo hE2
  have hX := hX.thenNo hE2
  refine wl_p I_ok rfl (wl_nil (f_then (c_seq (c_region (wl (st_ldB I_ok hb4 rfl (bytesL_len zeros_length) (wl_p I_ok rfl ?_)))))))
  refine wl (st_stW (l' := bytesL zeros) I_ok hb4 rfl (by rw [cellsOf_agg]) (bytesL_len zeros_length) rfl OneC.h fun w3 hb4 hE3 hs3 => ?_)
  have hX := hX.thenNew hE3 fr4
  refine wl_p I_ok rfl (wl_nil (f_then (c_ret (f_ret [_, _] ⟨⟨b4, 0, rfl, ld_all I_ok rfl rfl hb4.seg (bytesL_len zeros_length)⟩, rfl, trivial⟩ ?_))))
  exact ⟨rfl, hX⟩

theorem nilSet_calls (w : World) (f : Value) (n : Int) : CallsV Try.prog 50 [.pointer none, f, .int .i64 n] w fun v w' => v = .int .i64 1 ∧ Ext No w w' := by
  refine calls_enter Try.func50 rfl rfl rfl rfl ?_
  have hX := Ext.refl No w
  refine c_seq (c_region (wl_p I_ok rfl (wl_nil (f_then (c_seq (c_region (wl_p I_ok rfl (wl (st_call Try.call52 rfl rfl rfl rfl rfl rfl ((alive_nil w).same) fun v1 w1 hr1 => ?_)))))))))
  obtain ⟨rfl, hE1⟩ := hr1
  have hX := hX.thenNo hE1
  refine wl_p I_ok rfl (wl_nil (f_then (c_cutK (α := Unit) [7] rfl (fun z => []) (fun z u => Ext No w u) ?_ ?_)))
  · refine c_seq ?_
    refine c_region (wl_p I_ok rfl (wl_nil (f_then (c_if rfl (fun hc => ?_) (fun hc => ?_)))))
    · exact absurd hc (by decide)
    · refine c_skip ?_
      exact f_cut (()) rfl hX
  rintro ⟨⟩ w2 hX
  refine c_seq (c_region (wl_p I_ok rfl (wl_nil (f_then (c_ret (f_ret1 rfl rfl ?_))))))
  exact ⟨rfl, hX⟩

theorem nilArm_calls (w : World) (n : Int) : CallsV Try.prog 28 [.pointer none, .int .i64 n] w fun v w' => v = .int .i64 1 ∧ Ext No w w' := by
  refine calls_enter Try.func28 rfl rfl rfl rfl ?_
  have hX := Ext.refl No w
  refine c_seq (c_region (wl (st_al I_ok rfl fun b2 w1 hn2 hb2 hE1 => ?_)))
  have fr2 := Nat.le_trans hX.size hn2
  have hX := hX.thenNo hE1
  refine wl_p I_ok rfl (wl_nil (f_then (c_seq (c_region (wl (st_ldb I_ok hb2 rfl rfl (wl_p I_ok rfl (wl (st_call Try.call50 rfl rfl rfl rfl rfl rfl (nilSet_calls w1 _ _) fun v2 w2 hr2 => ?_)))))))))
  obtain ⟨rfl, hE2⟩ := hr2
  have hb2 := hb2.extNo hE2
  have hX := hX.thenNo hE2
  refine wl_p I_ok rfl (wl_nil (f_then (c_ret (f_ret1 rfl rfl ?_))))
  exact ⟨rfl, hX⟩

theorem nilFail_calls (w : World) (n : Int) : CallsV Try.prog 31 [.pointer none, .int .i64 n] w fun v w' => v = .int .i64 1 ∧ Ext No w w' := by
  refine calls_enter Try.func31 rfl rfl rfl rfl ?_
  have hX := Ext.refl No w
  refine c_seq (c_region (wl (st_al I_ok rfl fun b2 w1 hn2 hb2 hE1 => ?_)))
  have fr2 := Nat.le_trans hX.size hn2
  have hX := hX.thenNo hE1
  refine wl_p I_ok rfl (wl_nil (f_then (c_seq (c_region (wl (st_ldb I_ok hb2 rfl rfl (wl_p I_ok rfl (wl (st_call Try.call50 rfl rfl rfl rfl rfl rfl (nilSet_calls w1 _ _) fun v2 w2 hr2 => ?_)))))))))
  obtain ⟨rfl, hE2⟩ := hr2
  have hb2 := hb2.extNo hE2
  have hX := hX.thenNo hE2
  refine wl_p I_ok rfl (wl_nil (f_then (c_ret (f_ret1 rfl rfl ?_))))
  exact ⟨rfl, hX⟩

theorem nilSync_calls (w : World) : CallsV Try.prog 30 [.pointer none] w fun v w' => v = .int .i64 1 ∧ Ext No w w' := by
  refine calls_enter Try.func30 rfl rfl rfl rfl ?_
  have hX := Ext.refl No w
  refine c_seq (c_region (wl (st_al I_ok rfl fun b1 w1 hn1 hb1 hE1 => ?_)))
  have fr1 := Nat.le_trans hX.size hn1
  have hX := hX.thenNo hE1
  refine wl_p I_ok rfl (wl_nil (f_then (c_seq (c_region (wl (st_ldb I_ok hb1 rfl rfl (wl_p I_ok rfl (wl (st_call Try.call47 rfl rfl rfl rfl rfl rfl (nilOp_calls w1 _ _ _) fun v2 w2 hr2 => ?_)))))))))
  obtain ⟨rfl, hE2⟩ := hr2
  have hb1 := hb1.extNo hE2
  have hX := hX.thenNo hE2
  refine wl_p I_ok rfl (wl_nil (f_then (c_ret (f_ret1 rfl rfl ?_))))
  exact ⟨rfl, hX⟩

theorem nilCrash_calls (w : World) (q : Option Addr) (n c : Nat) : CallsV Try.prog 22 [.pointer none, .slice q n c] w fun v w' => v = .int .i64 1 ∧ Ext No w w' := by
  refine calls_enter Try.func22 rfl rfl rfl rfl ?_
  have hX := Ext.refl No w
  refine c_seq (c_region (wl (st_al I_ok rfl fun b3 w1 hn3 hb3 hE1 => ?_)))
  have fr3 := Nat.le_trans hX.size hn3
  have hX := hX.thenNo hE1
  refine wl_p I_ok rfl (wl_nil (f_then (c_seq (c_seq (c_region (wl_p I_ok rfl (wl_nil (f_then (c_condT rfl (c_seq (c_region (wl_p I_ok rfl (wl_nil (f_then (c_ret (f_thenR (f_ret1 rfl rfl ?_)))))))))))))))))
  exact ⟨rfl, hX⟩

theorem nilWrite_calls (w : World) (i : Int) (b : List Int) : CallsV Try.prog 37 [.pointer none, .int .i64 i, numA .u8 b] w fun v w' => v = .int .i64 1 ∧ Ext No w w' := by
  refine calls_enter Try.func37 rfl rfl rfl rfl ?_
  have hX := Ext.refl No w
  refine c_seq (c_region (wl (st_al I_ok rfl fun b3 w1 hn3 hb3 hE1 => ?_)))
  have fr3 := Nat.le_trans hX.size hn3
  have hX := hX.thenNo hE1
  refine wl (st_al I_ok rfl fun b4 w2 hn4 hb4 hE2 => ?_)
  have ne3_4 : b3 ≠ b4 := Nat.ne_of_lt (Nat.lt_of_lt_of_le hb3.lt hn4)
  have fr4 := Nat.le_trans hX.size hn4
  have hb3 := hb3.extNo hE2
  have hX := hX.thenNo hE2
  refine wl (st_al I_ok rfl fun b5 w3 hn5 hb5 hE3 => ?_)
  have ne3_5 : b3 ≠ b5 := Nat.ne_of_lt (Nat.lt_of_lt_of_le hb3.lt hn5)
  have ne4_5 : b4 ≠ b5 := Nat.ne_of_lt (Nat.lt_of_lt_of_le hb4.lt hn5)
  have fr5 := Nat.le_trans hX.size hn5
  have hb3 := hb3.extNo hE3
  have hb4 := hb4.extNo hE3
  have hX := hX.thenNo hE3
  refine wl_p I_ok rfl (wl_nil (f_then (c_seq (c_region (wl (st_ldb I_ok hb3 rfl rfl (wl (st_ldb I_ok hb4 rfl rfl (wl_p I_ok rfl (wl (st_call Try.call47 rfl rfl rfl rfl rfl rfl (nilOp_calls w3 _ _ _) fun v4 w4 hr4 => ?_)))))))))))
  obtain ⟨rfl, hE4⟩ := hr4
  have hb3 := hb3.extNo hE4
  have hb4 := hb4.extNo hE4
  have hb5 := hb5.extNo hE4
  have hX := hX.thenNo hE4
  refine wl_p I_ok rfl (wl_nil (f_then (c_ret (f_ret1 rfl rfl ?_))))
  exact ⟨rfl, hX⟩

theorem nilCopy_calls (w : World) : CallsV Try.prog 27 [.pointer none] w fun v w' => v = .pointer none ∧ Ext No w w' := by
  refine calls_enter Try.func27 rfl rfl rfl rfl ?_
  have hX := Ext.refl No w
  refine c_seq (c_region (wl_p I_ok rfl (wl_nil (f_then (c_seq (c_seq (c_region (wl_p I_ok rfl (wl_nil (f_then (c_condT rfl (c_seq (c_region (wl_p I_ok rfl (wl_nil (f_then (c_ret (f_thenR (f_ret1 rfl rfl ?_)))))))))))))))))))
  exact ⟨rfl, hX⟩

theorem nilOps_calls (w : World) : CallsV Try.prog 33 [.pointer none] w fun v w' => v = .int .i64 0 ∧ Ext No w w' := by
  refine calls_enter Try.func33 rfl rfl rfl rfl ?_
  have hX := Ext.refl No w
  refine c_seq (c_region (wl_p I_ok rfl (wl_nil (f_then (c_seq (c_seq (c_region (wl_p I_ok rfl (wl_nil (f_then (c_condT rfl (c_seq (c_region (wl_p I_ok rfl (wl_nil (f_then (c_ret (f_thenR (f_ret1 rfl rfl ?_)))))))))))))))))))
  exact ⟨rfl, hX⟩

theorem nilLen_calls (w : World) : CallsV Try.prog 36 [.pointer none] w fun v w' => v = .int .i64 0 ∧ Ext No w w' := by
  refine calls_enter Try.func36 rfl rfl rfl rfl ?_
  have hX := Ext.refl No w
  refine c_seq (c_region (wl_p I_ok rfl (wl_nil (f_then (c_seq (c_seq (c_region (wl_p I_ok rfl (wl_nil (f_then (c_condT rfl (c_seq (c_region (wl_p I_ok rfl (wl_nil (f_then (c_ret (f_thenR (f_ret1 rfl rfl ?_)))))))))))))))))))
  exact ⟨rfl, hX⟩

theorem nilDead_calls (w : World) : CallsV Try.prog 29 [.pointer none] w fun v w' => v = .bool false ∧ Ext No w w' := by
  refine calls_enter Try.func29 rfl rfl rfl rfl ?_
  have hX := Ext.refl No w
  refine c_seq (c_region (wl_p I_ok rfl (wl_nil (f_then (c_seq (c_region (wl_p I_ok rfl (wl (st_call Try.call52 rfl rfl rfl rfl rfl rfl ((alive_nil w).same) fun v1 w1 hr1 => ?_)))))))))
  obtain ⟨rfl, hE1⟩ := hr1
  have hX := hX.thenNo hE1
  refine wl_p I_ok rfl (wl_nil (f_then (c_ret (f_ret1 rfl rfl ?_))))
  exact ⟨rfl, hX⟩

theorem nilHappens_calls (w : World) {G : Nat → Prop} {a : PAct} {r : List Value} (ha : ActAt w G a r) :
    CallsV Try.prog 15 [.pointer none, .agg r.toArray] w fun v w' => v = .tuple #[numA .u8 zeros, .int .i64 1] ∧ Ext No w w' := by
  obtain ⟨q, qc, rfl, hqc, _, hs, hsG, hn1, hn2⟩ := ha
  refine calls_enter Try.func15 rfl rfl rfl rfl ?_
  have hX := Ext.refl No w
  refine c_seq (c_region (wl (st_al I_ok rfl fun b3 w1 hn3 hb3 hE1 => ?_)))
  have fr3 := Nat.le_trans hX.size hn3
  have hX := hX.thenNo hE1
  have hb3 : Blk w1 b3 35 (actV a q qc) := hb3
  refine wl (st_al I_ok rfl fun b4 w2 hn4 hb4 hE2 => ?_)
  have ne3_4 : b3 ≠ b4 := Nat.ne_of_lt (Nat.lt_of_lt_of_le hb3.lt hn4)
  have fr4 := Nat.le_trans hX.size hn4
  have hb3 := hb3.extNo hE2
  have hX := hX.thenNo hE2
  have hb4 : Blk w2 b4 29 (bytesL zeros) := by rw [← z29]; exact hb4
  refine wl_p I_ok rfl (wl_nil (f_then (c_cutK (α := Unit) [4] rfl (fun z => [(5, .int .i64 1)]) (fun z u => Blk u b3 35 (actV a q qc) ∧ Blk u b4 29 (bytesL zeros) ∧ Ext No w u) ?_ ?_)))
  · refine c_seq ?_
    refine c_region (wl (st_ldB I_ok hb3 rfl rfl (wl (st_call Try.call13 rfl rfl rfl rfl rfl rfl (which_calls w2 a q qc) fun v3 w3 hr3 => ?_))))
    obtain ⟨rfl, hE3⟩ := hr3
    have hb3 := hb3.extNo hE3
    have hb4 := hb4.extNo hE3
    have hX := hX.thenNo hE3
    refine wl_nil (f_then (c_block (c_seq (c_region (wl_p I_ok rfl (wl_nil (f_then (c_if rfl (fun hc => ?_) (fun hc => ?_)))))))))
    · refine c_seq ?_
      refine c_region (wl_p I_ok rfl (wl (st_ldb I_ok hb3 rfl rfl (wl (st_call Try.call24 rfl rfl rfl rfl rfl rfl (nilRead_calls w3 _) fun v4 w4 hr4 => ?_)))))
      obtain ⟨rfl, hE4⟩ := hr4
      have hb3 := hb3.extNo hE4
      have hb4 := hb4.extNo hE4
      have hX := hX.thenNo hE4
      refine wl_p I_ok rfl (wl (st_stW (l' := bytesL zeros) I_ok hb4 rfl (by rw [cells_num]) (bytesL_len zeros_length) rfl OneC.h fun w5 hb4 hE5 hs5 => ?_))
      have hb3 := hb3.ext1 hE5 ne3_4
      have hX := hX.thenNew hE5 fr4
      refine wl_p I_ok rfl (wl_nil (f_then (c_ret (f_blockR (f_thenR (f_ret [_, _] ⟨⟨b4, 0, rfl, ld_all I_ok rfl rfl hb4.seg (bytesL_len zeros_length)⟩, rfl, trivial⟩ ?_))))))
      exact ⟨rfl, hX⟩
    · refine c_cutK (α := Bool) [0, 3, 4, 7] rfl (fun z => [(20, .bool z)]) (fun z u => u = w3) ?_ ?_
      · refine c_seq ?_
        refine c_region (wl_p I_ok rfl (wl_nil (f_then (c_if rfl (fun hc => ?_) (fun hc => ?_)))))
        · refine c_skip ?_
          exact f_cut (_) rfl rfl
        · refine c_region ?_
          refine wl_p I_ok rfl (wl_nil ?_)
          exact f_cut (_) rfl rfl
      rintro z w6 hu
      have hu := hu.symm
      subst hu
      refine c_cond rfl (fun hc => ?_) (fun hc => ?_)
      · refine c_draw rfl 7 [(0, true), (1, true), (2, true), (3, true), (4, false), (5, false), (6, true)] [] (No) (by kernel_rfl) fun w7 hE7 hs7 => ?_
        have hd3 := hb3
        have hd4 := hb4
        have hb3 := hb3.extNo hE7
        have hb4 := hb4.extNo hE7
        have hX := hX.thenNo hE7
        have hC : Ext (No) _ w7 := hE7.no
        refine wd_k I_ok 2 rfl (wd_ld I_ok rfl rfl (fun w' hw' => (hd3.extNo hw').cell rfl) ?_)
        refine wd_ldN I_ok rfl rfl (fun w' hw' => (hd3.extNo hw').seg) rfl ?_
        refine wd_l rfl (st_call Try.call14 rfl rfl rfl rfl rfl rfl (block_calls w7 a.k a.n a.b q a.keep.length qc) fun v8 w8 hr8 => ⟨(by obtain ⟨rfl, hE8⟩ := hr8; exact hC.thenNo hE8), ?_⟩)
        obtain ⟨rfl, hE8⟩ := hr8
        have hb3 := hb3.extNo hE8
        have hb4 := hb4.extNo hE8
        have hX := hX.thenNo hE8
        have hC := hC.thenNo hE8
        refine wd_l rfl (st_call Try.call37 rfl rfl rfl rfl rfl rfl (nilWrite_calls w8 _ _) fun v9 w9 hr9 => ⟨(by obtain ⟨rfl, hE9⟩ := hr9; exact hC.thenNo hE9), ?_⟩)
        obtain ⟨rfl, hE9⟩ := hr9
        have hb3 := hb3.extNo hE9
        have hb4 := hb4.extNo hE9
        have hX := hX.thenNo hE9
        have hC := hC.thenNo hE9
        refine wd_k I_ok 1 rfl (wd_sw (wb_nil ?_))
        exact f_blockN (f_cut (()) rfl ⟨hb3, hb4, hX⟩)
      · refine c_seq ?_
        refine c_region (wl_p I_ok rfl (wl_nil (f_then (c_if rfl (fun hc => ?_) (fun hc => ?_)))))
        · refine c_region ?_
          refine wl_p I_ok rfl (wl (st_call Try.call30 rfl rfl rfl rfl rfl rfl (nilSync_calls w3) fun v10 w10 hr10 => ?_))
          obtain ⟨rfl, hE10⟩ := hr10
          have hb3 := hb3.extNo hE10
          have hb4 := hb4.extNo hE10
          have hX := hX.thenNo hE10
          refine wl_p I_ok rfl (wl_nil ?_)
          exact f_blockN (f_cut (()) rfl ⟨hb3, hb4, hX⟩)
        · refine c_seq ?_
          refine c_region (wl_p I_ok rfl (wl_nil (f_then (c_if rfl (fun hc => ?_) (fun hc => ?_)))))
          · refine c_region ?_
            refine wl_p I_ok rfl (wl (st_ldb I_ok hb3 rfl rfl (wl (st_call Try.call28 rfl rfl rfl rfl rfl rfl (nilArm_calls w3 _) fun v11 w11 hr11 => ?_))))
            obtain ⟨rfl, hE11⟩ := hr11
            have hb3 := hb3.extNo hE11
            have hb4 := hb4.extNo hE11
            have hX := hX.thenNo hE11
            refine wl_p I_ok rfl (wl_nil ?_)
            exact f_blockN (f_cut (()) rfl ⟨hb3, hb4, hX⟩)
          · refine c_seq ?_
            refine c_region (wl_p I_ok rfl (wl_nil (f_then (c_if rfl (fun hc => ?_) (fun hc => ?_)))))
            · refine c_region ?_
              refine wl_p I_ok rfl (wl (st_ldb I_ok hb3 rfl rfl (wl (st_call Try.call31 rfl rfl rfl rfl rfl rfl (nilFail_calls w3 _) fun v12 w12 hr12 => ?_))))
              obtain ⟨rfl, hE12⟩ := hr12
              have hb3 := hb3.extNo hE12
              have hb4 := hb4.extNo hE12
              have hX := hX.thenNo hE12
              refine wl_p I_ok rfl (wl_nil ?_)
              exact f_blockN (f_cut (()) rfl ⟨hb3, hb4, hX⟩)
            · refine c_region ?_
              refine wl_p I_ok rfl (wl (st_ldB I_ok hb3 rfl rfl (wl (st_call Try.call38 rfl rfl rfl rfl rfl rfl (keepOf_calls w3 (hs.extNo hX) hqc) fun v13 w13 hr13 => ?_))))
              obtain ⟨kq, kc, rfl, hks, hkn, hE13⟩ := hr13
              have hb3 := hb3.extNo hE13
              have hb4 := hb4.extNo hE13
              have hX := hX.thenNo hE13
              refine wl (st_call Try.call22 rfl rfl rfl rfl rfl rfl (nilCrash_calls w13 _ _ _) fun v14 w14 hr14 => ?_)
              obtain ⟨rfl, hE14⟩ := hr14
              have hb3 := hb3.extNo hE14
              have hb4 := hb4.extNo hE14
              have hX := hX.thenNo hE14
              refine wl_p I_ok rfl (wl_nil ?_)
              exact f_blockN (f_cut (()) rfl ⟨hb3, hb4, hX⟩)
  rintro ⟨⟩ w15 ⟨hb3, hb4, hX⟩
  refine c_seq (c_region (wl (st_ldB I_ok hb4 rfl (bytesL_len zeros_length) (wl_p I_ok rfl (wl (st_stW (l' := bytesL zeros) I_ok hb4 rfl (by rw [cellsOf_agg]) (bytesL_len zeros_length) rfl OneC.h fun w16 hb4 hE16 hs16 => ?_))))))
  have hb3 := hb3.ext1 hE16 ne3_4
  have hX := hX.thenNew hE16 fr4
  refine wl_p I_ok rfl (wl_nil (f_then (c_ret (f_ret [_, _] ⟨⟨b4, 0, rfl, ld_all I_ok rfl rfl hb4.seg (bytesL_len zeros_length)⟩, rfl, trivial⟩ ?_))))
  exact ⟨rfl, hX⟩

theorem nilDisk_calls (w : World) {G : Nat → Prop} {a : PAct} {r : List Value} (ha : ActAt w G a r) (h4 : r.length = 4) :
    CallsV Try.prog 9 [.agg r.toArray] w fun v w' => v = .bool true ∧ Ext No w w' := by
  refine calls_enter Try.func9 rfl rfl rfl rfl ?_
  have hX := Ext.refl No w
  refine c_seq (c_region (wl (st_al I_ok rfl fun b1 w1 hn1 hb1 hE1 => ?_)))
  have fr1 := Nat.le_trans hX.size hn1
  have hX := hX.thenNo hE1
  have hb1 : Blk w1 b1 35 (r) := by rw [cellsOf_agg] at hb1; exact hb1
  refine wl_p I_ok rfl (wl_nil (f_then (c_seq (c_seq (c_region (wl (st_call Try.call10 rfl rfl rfl rfl rfl rfl (wakes_calls w1) fun v2 w2 hr2 => ?_)))))))
  obtain ⟨rfl, hE2⟩ := hr2
  have hb1 := hb1.extNo hE2
  have hX := hX.thenNo hE2
  refine wl_p I_ok rfl (wl_nil (f_then (c_condF rfl (c_skip (f_then (c_seq (c_region (wl_p I_ok rfl (wl_nil (f_then (c_seq (c_region (wl_p I_ok rfl (wl (st_ldB I_ok hb1 rfl h4 ?_)))))))))))))))
  refine wl (st_call Try.call15 rfl rfl rfl rfl rfl rfl (nilHappens_calls w2 (ha.ext hX fun _ _ => id)) fun v3 w3 hr3 => ?_)
  obtain ⟨rfl, hE3⟩ := hr3
  have hb1 := hb1.extNo hE3
  have hX := hX.thenNo hE3
  refine wl_p I_ok rfl (wl (st_al I_ok rfl fun b4 w4 hn4 hb4 hE4 => ?_))
  have ne1_4 : b1 ≠ b4 := Nat.ne_of_lt (Nat.lt_of_lt_of_le hb1.lt hn4)
  have fr4 := Nat.le_trans hX.size hn4
  have hb1 := hb1.extNo hE4
  have hX := hX.thenNo hE4
  refine wl (st_stW (l' := bytesL zeros) I_ok hb4 rfl (by rw [cells_num]) (bytesL_len zeros_length) (by rw [bytesL_len zeros_length]; rfl) OneC.h fun w5 hb4 hE5 hs5 => ?_)
  have hb1 := hb1.ext1 hE5 ne1_4
  have hX := hX.thenNew hE5 fr4
  refine wl_p I_ok rfl (wl_nil (f_then (c_cutK (α := Unit) [] rfl (fun z => [(2, .bool true)]) (fun z u => Ext No w u) ?_ ?_)))
  · refine c_region ?_
    refine wl_p I_ok rfl (wl_caseD 16 rfl (fun hg => ?_) (fun hg => ?_))
    · refine wl (st_ldB I_ok hb4 rfl (bytesL_len zeros_length) ?_)
      refine wl (st_bd I_ok rfl trivial (l' := bytesL zeros) z29 (wl (st_eqA (xs := zeros) (ys := zeros) I_ok rfl (by kernel_rfl) rfl rfl zeros_length zeros_length (wl_p I_ok rfl (wl_caseD 21 rfl (fun hg => ?_) (fun hg => ?_))))))
      · refine wl_pk I_ok 1 rfl ?_
        refine wl (st_call Try.call36 rfl rfl rfl rfl rfl rfl (nilLen_calls w5) fun v6 w6 hr6 => ?_)
        obtain ⟨rfl, hE6⟩ := hr6
        have hb1 := hb1.extNo hE6
        have hb4 := hb4.extNo hE6
        have hX := hX.thenNo hE6
        refine wl_pk I_ok 1 rfl (wl (st_call Try.call33 rfl rfl rfl rfl rfl rfl (nilOps_calls w6) fun v7 w7 hr7 => ?_))
        obtain ⟨rfl, hE7⟩ := hr7
        have hb1 := hb1.extNo hE7
        have hb4 := hb4.extNo hE7
        have hX := hX.thenNo hE7
        refine wl_pk I_ok 2 rfl ?_
        rw [IntWalk.i64_in _ (by omega)]
        refine wl (st_call Try.call16 rfl rfl rfl rfl rfl rfl ((nilPending_calls w7).same) fun v8 w8 hr8 => ?_)
        obtain ⟨rfl, hE8⟩ := hr8
        have hb1 := hb1.extNo hE8
        have hb4 := hb4.extNo hE8
        have hX := hX.thenNo hE8
        refine wl_pk I_ok 5 rfl ?_
        rw [IntWalk.i64_in _ (by omega)]
        refine wl_caseD 33 rfl (fun hg => ?_) (fun hg => ?_)
        · refine wl_pk I_ok 1 rfl ?_
          refine wl (st_call Try.call29 rfl rfl rfl rfl rfl rfl (nilDead_calls w8) fun v9 w9 hr9 => ?_)
          obtain ⟨rfl, hE9⟩ := hr9
          have hb1 := hb1.extNo hE9
          have hb4 := hb4.extNo hE9
          have hX := hX.thenNo hE9
          refine wl_pk I_ok 3 rfl (wl_case 38 rfl (fun hg => ?_) (fun hg => ?_))
          · refine wl_pk I_ok 1 rfl ?_
            refine wl (st_call Try.call27 rfl rfl rfl rfl rfl rfl (nilCopy_calls w9) fun v10 w10 hr10 => ?_)
            obtain ⟨rfl, hE10⟩ := hr10
            have hb1 := hb1.extNo hE10
            have hb4 := hb4.extNo hE10
            have hX := hX.thenNo hE10
            refine wl_pk I_ok 3 rfl (wl_nil ?_)
            exact f_cut (()) rfl hX
          · cases hg
        · exact absurd rfl hg
      · exact absurd rfl hg
    · exact absurd rfl hg
  rintro ⟨⟩ w11 hX
  refine c_ret (f_ret1 rfl rfl ?_)
  exact ⟨rfl, hX⟩
end Go.Proofs.Ytoldbdocgimpnaa
