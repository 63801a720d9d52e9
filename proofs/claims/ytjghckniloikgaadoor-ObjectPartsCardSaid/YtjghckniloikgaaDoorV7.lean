/- the law's texts, whatever their number; the document's parts, none if the tree may not be -/
import Derived.Test.YtjghckniloikgaaDoorSamF
namespace Go.Proofs.YtjghckniloikgaaDoor
open Go.Vc
open Classical in
noncomputable def refPL (l : List RowD) (a : ObjP) : List HeldT := if ObjOk (treeOf l) then refP l a else []
theorem parts6L_calls (w : World) {p : Option Addr} {c : Nat} {rows : List RowD} (hrows : RowsOk rows) (hs : Sl w p rows.length 2 (rows.flatMap RowD.cells)) :
    CallsV Tryd.prog 29 [.agg #[.slice p rows.length c]] w fun v w' => ∃ q k lp lc, v = .slice q (refPL rows (lfP lp lc)).length k ∧ Own w' q (refPL rows (lfP lp lc)).length k 68 105 ((refPL rows (lfP lp lc)).flatMap heldC) ∧
      (∀ x, OwnB q x → w.heap.size ≤ x) ∧ Own w' lp (leavesOf rows).length lc 76 33 ((leavesOf rows).flatMap LeafD.cells) ∧ (∀ x, OwnB lp x → w.heap.size ≤ x) ∧ Ext No w w' :=
  Calls.mono (parts6_calls w hrows hs) fun e w' he => by
    cases e with
    | returned v =>
      obtain ⟨q, k, lp, lc, h1, h0, hn, hl, hln, hE⟩ := he
      by_cases h : ObjOk (treeOf rows)
      · have e1 : ∀ a, refPL rows a = refP rows a := fun a => if_pos h
        exact ⟨q, k, lp, lc, by rw [e1]; exact (h1 h).1, by rw [e1]; exact (h1 h).2, hn, hl, hln, hE⟩
      · have e1 : ∀ a, refPL rows a = [] := fun a => if_neg h
        exact ⟨none, 0, lp, lc, by rw [e1]; exact h0 h, by rw [e1]; exact Own.nil _ _ _, noOwn, hl, hln, hE⟩
    | panicked _ => exact he.elim
    | outgrown => exact he.elim
theorem texts2_calls (w : World) {p : Option Addr} {c : Nat} {rows : List RowD} (hs : Sl w p rows.length 2 (rows.flatMap RowD.cells)) :
    CallsV Tryd.prog 25 [.agg #[.slice p rows.length c]] w fun v w' => ∃ q k, v = .agg #[.slice q (textsR rows).length k] ∧ Own w' q (textsR rows).length k 78 2 ((textsR rows).flatMap RowD.cells) ∧ (∀ x, OwnB q x → w.heap.size ≤ x) ∧ Ext No w w' := by
  refine calls_enter Tryd.func25 rfl rfl rfl rfl ?_
  have hX := Ext.refl No w
  refine c_seq (c_region (wl (st_al I_ok rfl fun b1 w1 hn1 hb1 hE1 => ?_)))
  have fr1 := Nat.le_trans hX.size hn1
  have hX := hX.thenNo hE1
  have hb1 : Blk w1 b1 58 ([.slice p rows.length c]) := hb1
  refine wl (st_al I_ok rfl fun b2 w2 hn2 hb2 hE2 => ?_)
  have ne1_2 : b1 ≠ b2 := Nat.ne_of_lt (Nat.lt_of_lt_of_le hb1.lt hn2)
  have fr2 := Nat.le_trans hX.size hn2
  have hb1 := hb1.extNo hE2
  have hX := hX.thenNo hE2
  refine wl_nil (f_then (c_seq (c_region (wl (st_al I_ok rfl fun b3 w3 hn3 hb3 hE3 => ?_)))))
  have ne1_3 : b1 ≠ b3 := Nat.ne_of_lt (Nat.lt_of_lt_of_le hb1.lt hn3)
  have ne2_3 : b2 ≠ b3 := Nat.ne_of_lt (Nat.lt_of_lt_of_le hb2.lt hn3)
  have fr3 := Nat.le_trans hX.size hn3
  have hb1 := hb1.extNo hE3
  have hb2 := hb2.extNo hE3
  have hX := hX.thenNo hE3
  have hb3 : Blk w3 b3 58 ([.slice none 0 0]) := hb3
  refine wl_nil (f_then ?_)
  refine c_cutK (α := Option Addr × Nat) [2, 3] rfl (fun z => []) (fun z u => (Own u z.1 (textsR rows).length z.2 78 2 ((textsR rows).flatMap RowD.cells) ∧ (∀ x, OwnB z.1 x → w.heap.size ≤ x)) ∧ Blk u b1 58 ([.slice p rows.length c]) ∧ Blk u b2 58 (cellsOf ti58.zero) ∧ Blk u b3 58 ([.slice z.1 (textsR rows).length z.2]) ∧ Ext No w u) ?_ ?_
  · refine c_seq ?_
    refine c_region (wl_p I_ok rfl (wl (st_ldb I_ok hb1 rfl rfl (wl_p I_ok rfl (wl_nil (f_then (c_block ?_)))))))
    refine c_loopK (α := Nat × Option Addr × Nat) [2, 3, 7, 8] rfl (fun z => [(9, .int .i64 (z.1 : Int))]) (fun z u => (z.1 ≤ rows.length ∧ z.1 ≤ 33 ∧ Own u z.2.1 ((rows.take z.1).map cutRow).length z.2.2 78 2 (((rows.take z.1).map cutRow).flatMap RowD.cells) ∧ (∀ x, OwnB z.2.1 x → w.heap.size ≤ x)) ∧ Blk u b1 58 ([.slice p rows.length c]) ∧ Blk u b2 58 (cellsOf ti58.zero) ∧ Blk u b3 58 ([.slice z.2.1 ((rows.take z.1).map cutRow).length z.2.2]) ∧ Ext No w u) (fun z u => rows.length - z.1) (0, none, 0) rfl ⟨⟨Nat.zero_le _, Nat.zero_le _, Own.nil _ _ _, noOwn⟩, hb1, hb2, hb3, hX⟩ ?_
    rintro ⟨i, q, k⟩ w4 ⟨⟨hi, hi33, hq, hqn⟩, hb1, hb2, hb3, hX⟩
    try dsimp only
    dsimp only at hi hi33 hq hqn
    refine c_seq (c_region (wl_p I_ok rfl (wl_nil (f_then (c_seq (c_if rfl (fun hc => ?_) (fun hc => ?_)))))))
    · have hi : i < rows.length := by omega
      obtain ⟨qb, qoff, hp, hsq⟩ := hs.rowAll (fun r _ => r.len) (by omega)
      rw [hp] at hb1 ⊢
      have hal : ((rows.take i).map cutRow).length = i := by simp; omega
      refine c_skip (f_then (c_seq (c_block (c_seq (c_region (wl_p I_ok rfl (wl (st_ix I_ok rfl 2 rfl i rfl (by omega) (qoff + i * 2) rfl (wl (st_ldN I_ok rfl ((hsq i hi).extNo hX) rfl ?_))))))))))
      have hq0 := hq
      refine wl (st_al I_ok rfl fun b5 w5 hn5 hb5 hE5 => ?_)
      have ne1_5 : b1 ≠ b5 := Nat.ne_of_lt (Nat.lt_of_lt_of_le hb1.lt hn5)
      have ne2_5 : b2 ≠ b5 := Nat.ne_of_lt (Nat.lt_of_lt_of_le hb2.lt hn5)
      have ne3_5 : b3 ≠ b5 := Nat.ne_of_lt (Nat.lt_of_lt_of_le hb3.lt hn5)
      have fr5 := Nat.le_trans hX.size hn5
      have hb1 := hb1.extNo hE5
      have hb2 := hb2.extNo hE5
      have hb3 := hb3.extNo hE5
      have hq := hq.ext hE5 fun _ _ => id
      have hX := hX.thenNo hE5
      have ne5 : ∀ x, OwnB q x → x ≠ b5 := fun x hx => Nat.ne_of_lt (Nat.lt_of_lt_of_le (hq0.lt hx) hn5)
      refine wl_p I_ok rfl ?_
      have hb5o := hb5
      refine wl (st_stW (l' := (rows[i]).cells) I_ok hb5 rfl rfl rfl rfl OneC.h fun w6 hb5 hE6 hs6 => ?_)
      have hb1 := hb1.ext1 hE6 ne1_5
      have hb2 := hb2.ext1 hE6 ne2_5
      have hb3 := hb3.ext1 hE6 ne3_5
      have hq := hq.ext hE6 (fun x hx => ne5 x hx)
      have hX := hX.thenNew hE6 fr5
      refine wl_nil (f_then (c_seq (c_seq (c_region (wl_p I_ok rfl (wl_nil (f_then (c_if rfl (fun hc => ?_) (fun hc => ?_)))))))))
      · have h33 : i = 33 := by omega
        have eT : (rows.take i).map cutRow = textsR rows := by rw [h33]; rfl
        rw [eT] at hq hb3
        obtain ⟨qT, kT, hqT, hqnT, e1, e2⟩ : ∃ qT kT, Own w6 qT (textsR rows).length kT 78 2 ((textsR rows).flatMap RowD.cells) ∧ (∀ x, OwnB qT x → w.heap.size ≤ x) ∧ q = qT ∧ k = kT := ⟨q, k, hq, hqn, rfl, rfl⟩
        rw [e1, e2] at hb3
        refine c_exit ?_
        exact f_thenE (f_blockE' rfl (f_thenE (f_thenE (f_blockE (f_cut (qT, kT) rfl ⟨⟨hqT, hqnT⟩, hb1, hb2, hb3, hX⟩)))))
      · have h33 : i < 33 := by omega
        refine c_skip (f_then (c_seq ?_))
        refine c_drawL I_ok rfl [] 15 [11, 12, 13] [(0, true), (1, true), (2, true), (3, true), (4, true), (5, true), (6, true), (7, true), (8, true), (9, true), (10, true), (14, true)] [29, 30, 31, 15, 16, 17] (No) (by kernel_rfl) rfl fun w7 hE7 hs7 => ?_
        have hd1 := hb1
        have hd2 := hb2
        have hd3 := hb3
        have hd5 := hb5
        have hqd := hq
        have hXd := hX
        have hb1 := hb1.extNo hE7
        have hb2 := hb2.extNo hE7
        have hb3 := hb3.extNo hE7
        have hb5 := hb5.extNo hE7
        have hq := hq.ext hE7 fun _ _ => id
        have hX := hX.thenNo hE7
        have hC : Ext (No) _ w7 := hE7.no
        refine wd_k I_ok 1 rfl (wd_ld I_ok rfl rfl (fun w' hw' => (hd5.extNo hw').cell rfl) ?_)
        refine wd_k I_ok 1 rfl (wd_ld I_ok rfl rfl (fun w' hw' => (hd5.extNo hw').cell rfl) ?_)
        refine wd_k I_ok 2 rfl (wd_ss I_ok rfl rfl 0 (min _ 49) (cutBds _ _) ?_)
        rw [strU_cut]
        refine wd_k I_ok 1 rfl (wd_ld I_ok rfl rfl (fun w' hw' => (hd5.extNo hw').cell rfl) ?_)
        refine wd_k I_ok 1 rfl (wd_ld I_ok rfl rfl (fun w' hw' => (hd5.extNo hw').cell rfl) ?_)
        refine wd_k I_ok 1 rfl (wd_sw (wbf I_ok (i := 11) rfl rfl rfl rfl rfl (by kernel_rfl) (wbf I_ok (i := 12) rfl rfl rfl rfl rfl (by kernel_rfl) (wb_ss I_ok (i := 13) rfl rfl rfl 0 (min _ 257) (cutBds _ _) (by kernel_rfl) ?_))))
        rw [strU_cut]
        have hb5o := hb5
        refine wb rfl (st_st I_ok hb5 rfl rfl rfl fun w8 hb5 hE8 hs8 => ?_)
        have hb1 := hb1.ext1 hE8 ne1_5
        have hb2 := hb2.ext1 hE8 ne2_5
        have hb3 := hb3.ext1 hE8 ne3_5
        have hq := hq.ext hE8 (fun x hx => ne5 x hx)
        have hX := hX.thenNew hE8 fr5
        have hb5 : Blk w8 b5 78 ([strV ((rows[i]).path.take 49), strV (rows[i]).text]) := hb5
        refine wb rfl (st_p I_ok rfl rfl rfl ?_)
        have hb5o := hb5
        refine wb rfl (st_st I_ok hb5 rfl rfl rfl fun w9 hb5 hE9 hs9 => ?_)
        have hb1 := hb1.ext1 hE9 ne1_5
        have hb2 := hb2.ext1 hE9 ne2_5
        have hb3 := hb3.ext1 hE9 ne3_5
        have hq := hq.ext hE9 (fun x hx => ne5 x hx)
        have hX := hX.thenNew hE9 fr5
        have hb5 : Blk w9 b5 78 ((cutRow rows[i]).cells) := hb5
        refine wb_nil (f_then (c_region (wl_p I_ok rfl (wl (st_ldb I_ok hb3 rfl rfl (wl (st_ldB I_ok hb5 rfl rfl ?_)))))))
        refine wl (st_bs I_ok rfl 2 rfl rowZ_c rfl (by decide) (by decide) ⟨⟨rfl, by decide⟩, trivial⟩ (l' := (cutRow rows[i]).cells) rfl fun b35 w10 hn35 hb35 hE10 hs10 => ?_)
        have ne1_35 : b1 ≠ b35 := Nat.ne_of_lt (Nat.lt_of_lt_of_le hb1.lt hn35)
        have ne2_35 : b2 ≠ b35 := Nat.ne_of_lt (Nat.lt_of_lt_of_le hb2.lt hn35)
        have ne3_35 : b3 ≠ b35 := Nat.ne_of_lt (Nat.lt_of_lt_of_le hb3.lt hn35)
        have ne5_35 : b5 ≠ b35 := Nat.ne_of_lt (Nat.lt_of_lt_of_le hb5.lt hn35)
        have fr35 := Nat.le_trans hX.size hn35
        have hb1 := hb1.extNo hE10
        have hb2 := hb2.extNo hE10
        have hb3 := hb3.extNo hE10
        have hb5 := hb5.extNo hE10
        have hq := hq.ext hE10 fun _ _ => id
        have hX := hX.thenNo hE10
        have hX1 := hX
        refine wl (st_app I_ok rfl 2 32 rfl rfl rfl (by decide) hq (Src.slice (m := 1) ⟨rfl, .inr ⟨b35, 0, rfl, hb35.seg⟩⟩ OneC.h) (by dsimp only [maxLen]; omega) (by dsimp only; omega) fun p11 c11 w11 ho11 hE11 hB11 => ?_)
        dsimp only at ho11 hE11 hB11 ⊢
        have hX := hX1.trans hE11 fun y hy hF => by have := hqn y hF; omega
        have hb1 := hb1.extOwn hq hE11 (by decide)
        have hb2 := hb2.extOwn hq hE11 (by decide)
        have hb3 := hb3.extOwn hq hE11 (by decide)
        have hb5 := hb5.ext hE11 (fun h => ne5 _ h rfl)
        have hsz1 := hX1.size
        obtain ⟨q2, k2, e1, e2, hq2⟩ : ∃ q2 k2, q2 = p11 ∧ k2 = c11 ∧ Own w11 q2 ((rows.take (i + 1)).map cutRow).length k2 78 2 (((rows.take (i + 1)).map cutRow).flatMap RowD.cells) := ⟨_, _, rfl, rfl, by
          rw [cut_step hi, List.flatMap_append, List.length_append]
          simpa using ho11⟩
        rw [← e1] at hB11
        rw [← e1, ← e2]
        have hqn2 : ∀ x, OwnB q2 x → w.heap.size ≤ x := fun x hx => (hB11 x hx).elim (fun h => hqn x h) fun h => by omega
        refine wl_p I_ok rfl ?_
        have hb3o := hb3
        refine wl (st_st I_ok hb3 rfl rfl rfl fun w12 hb3 hE12 hs12 => ?_)
        have hb1 := hb1.ext1 hE12 ne1_3
        have hb2 := hb2.ext1 hE12 ne2_3
        have hb5 := hb5.ext1 hE12 ne3_5.symm
        have hq2 := hq2.extTy hE12 hb3o (by decide)
        have hX := hX.thenNew hE12 fr3
        have hb3 : Blk w12 b3 58 ([.slice q2 ((rows.take (i + 1)).map cutRow).length k2]) := (by
          rw [cut_step hi, List.length_append]
          exact hb3)
        refine wl_nil (f_blockN (f_then (c_region (wl_p I_ok rfl ?_))))
        rw [IntWalk.i64_in _ (by omega)]
        refine wl_nil ?_
        exact f_round (i + 1, q2, k2) rfl ⟨⟨hi, h33, hq2, hqn2⟩, hb1, hb2, hb3, hX⟩ (by first | omega | (dsimp only; omega))
    · have eT : (rows.take i).map cutRow = textsR rows := by
        rw [textsR, List.take_of_length_le (by omega), List.take_of_length_le (by omega)]
      rw [eT] at hq hb3
      obtain ⟨qT, kT, hqT, hqnT, e1, e2⟩ : ∃ qT kT, Own w4 qT (textsR rows).length kT 78 2 ((textsR rows).flatMap RowD.cells) ∧ (∀ x, OwnB qT x → w.heap.size ≤ x) ∧ q = qT ∧ k = kT := ⟨q, k, hq, hqn, rfl, rfl⟩
      rw [e1, e2] at hb3
      refine c_exit ?_
      exact f_thenE (f_thenE (f_blockE (f_cut (qT, kT) rfl ⟨⟨hqT, hqnT⟩, hb1, hb2, hb3, hX⟩)))
  rintro ⟨q, k⟩ w13 ⟨⟨hq, hqn⟩, hb1, hb2, hb3, hX⟩
  try dsimp only
  dsimp only at hq hqn
  refine c_seq (c_region (wl (st_ldB I_ok hb3 rfl rfl ?_)))
  have hb2o := hb2
  refine wl (st_stW (l' := [.slice q (textsR rows).length k]) I_ok hb2 rfl rfl rfl rfl OneC.h fun w14 hb2 hE14 hs14 => ?_)
  have hb1 := hb1.ext1 hE14 ne1_2
  have hb3 := hb3.ext1 hE14 ne2_3.symm
  have hq := hq.extTy hE14 hb2o (by decide)
  have hX := hX.thenNew hE14 fr2
  refine wl_nil (f_then (c_ret (f_ret [_] ⟨⟨b2, 0, rfl, ld_all I_ok rfl rfl hb2.seg rfl⟩, trivial⟩ ?_)))
  exact ⟨q, k, rfl, hq, hqn, hX⟩
end Go.Proofs.YtjghckniloikgaaDoor
