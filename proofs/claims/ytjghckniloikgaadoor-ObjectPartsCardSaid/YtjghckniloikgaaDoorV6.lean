/- ObjectParts -/
import Derived.Test.YtjghckniloikgaaDoorV5
namespace Go.Proofs.YtjghckniloikgaaDoor
open Go.Vc
structure MapA where
  p : Option Addr
  l : List RowD
  c : Nat
def MapA.cell (r : MapA) : List Value := [.slice r.p r.l.length r.c]
theorem textsR_in (l : List RowD) : RowsIn (textsR l) := fun r hr => by
  have h1 := textsR_at r hr
  have h2 : 257 ≤ maxLen := by unfold maxLen; omega
  exact ⟨by omega, by omega⟩
theorem objectParts_calls (w : World) {p : Option Addr} {c : Nat} {rows : List MapA} (hs : Sl w p rows.length 1 (rows.flatMap MapA.cell)) (hin : ∀ r ∈ rows, Sl w r.p r.l.length 2 (r.l.flatMap RowD.cells)) (hr : Seg w 0 0 (wordsV rootsW)) :
    CallsV Tryd.prog 5 [.slice p rows.length c] w fun v w' => v = .bool true ∧ Ext No w w' := by
  refine calls_enter Tryd.func5 rfl rfl rfl rfl ?_
  have hX := Ext.refl No w
  refine c_seq (c_region (wl_p I_ok rfl (wl_nil (f_then (c_seq (c_seq (c_region (wl (st_call Tryd.call9 rfl rfl rfl rfl rfl rfl (wakes_calls w (hr.extNo hX)) fun v1 w1 hr1 => ?_)))))))))
  obtain ⟨rfl, hE1⟩ := hr1
  have hX := hX.thenNo hE1
  refine wl_p I_ok rfl (wl_nil (f_then (c_condF rfl (c_skip (f_then (c_cutK (α := Unit) [] rfl (fun z => []) (fun z u => (True) ∧ Ext No w u) ?_ ?_))))))
  · refine c_seq ?_
    refine c_region (wl_p I_ok rfl (wl_nil (f_then (c_block ?_))))
    refine c_loopK (α := Nat) [14, 15] rfl (fun z => [(16, .int .i64 (z : Int))]) (fun z u => (z ≤ rows.length ∧ z ≤ 8) ∧ Ext No w u) (fun z u => rows.length - z) (0) rfl ⟨⟨Nat.zero_le _, Nat.zero_le _⟩, hX⟩ ?_
    rintro i w2 ⟨⟨hi, hi8⟩, hX⟩
    refine c_seq (c_region (wl_p I_ok rfl (wl_nil (f_then (c_seq (c_if rfl (fun hc => ?_) (fun hc => ?_)))))))
    · have hi : i < rows.length := by omega
      obtain ⟨qb, qoff, hp, hsq⟩ := hs.rowAll (fun r _ => rfl) (by omega)
      rw [hp]
      have hxi := hin _ (List.getElem_mem hi)
      have hTl := textsR_len (rows[i]).l
      have hTa := textsR_at (l := (rows[i]).l)
      have hTi := textsR_in (rows[i]).l
      refine c_skip (f_then (c_cutK (α := Unit) [14, 15, 16] rfl (fun z => []) (fun z u => (i < 8) ∧ Ext No w u) ?_ ?_))
      · refine c_block ?_
        refine c_seq (c_region (wl_p I_ok rfl (wl (st_ix I_ok rfl 1 rfl i rfl hi (qoff + i * 1) rfl (wl (st_ldN I_ok rfl ((hsq i hi).extNo hX) rfl (wl (st_al I_ok rfl fun b4 w3 hn4 hb4 hE3 => ?_))))))))
        have fr4 := Nat.le_trans hX.size hn4
        have hX := hX.thenNo hE3
        refine wl_p I_ok rfl (wl (st_stW (l' := [.slice (rows[i]).p (rows[i]).l.length (rows[i]).c]) I_ok hb4 rfl rfl rfl rfl OneC.h fun w4 hb4 hE4 hs4 => ?_))
        have hX := hX.thenNew hE4 fr4
        refine wl_nil (f_then (c_seq (c_seq (c_region (wl_p I_ok rfl (wl_nil (f_then (c_if rfl (fun hc => ?_) (fun hc => ?_)))))))))
        · refine c_exit ?_
          exact f_thenE (f_blockE' rfl (f_thenE (f_thenE (f_blockE (f_cut (()) rfl ⟨trivial, hX⟩)))))
        · have h8 : i < 8 := by omega
          refine c_skip (f_then ?_)
          have hltc4 := hb4.lt
          have hszc := hX.size
          refine c_cutK (α := ((Option Addr × Nat) × (Option Addr × Nat)) × Nat × Nat) [14, 15, 16] rfl (fun z => [(5, .pointer (some ⟨z.2.1, 0, none⟩)), (6, .pointer (some ⟨z.2.2, 0, none⟩))]) (fun z u => (Own u z.1.1.1 (textsR (rows[i]).l).length z.1.1.2 78 2 ((textsR (rows[i]).l).flatMap RowD.cells) ∧ (∀ x, OwnB z.1.1.1 x → w.heap.size ≤ x) ∧ Own u z.1.2.1 (textsR (rows[i]).l).length z.1.2.2 78 2 ((textsR (rows[i]).l).flatMap RowD.cells) ∧ (∀ x, OwnB z.1.2.1 x → w.heap.size ≤ x)) ∧ Blk u b4 58 ([.slice (rows[i]).p (rows[i]).l.length (rows[i]).c]) ∧ Blk u z.2.1 58 ([.slice z.1.1.1 (textsR (rows[i]).l).length z.1.1.2]) ∧ w4.heap.size ≤ z.2.1 ∧ Blk u z.2.2 58 ([.slice z.1.2.1 (textsR (rows[i]).l).length z.1.2.2]) ∧ w4.heap.size ≤ z.2.2 ∧ z.2.1 ≠ z.2.2 ∧ Ext No w u) ?_ ?_
          · have hQ := Nat.le_refl w4.heap.size
            refine c_drawX rfl 7 7 [7] (No) (by kernel_rfl) fun w5 hE5 hs5 => ?_
            have hd4 := hb4
            have hXd := hX
            have hb4 := hb4.extNo hE5
            have hQ := Nat.le_trans hQ hE5.size
            have hX := hX.thenNo hE5
            have hC : Ext No _ w5 := hE5
            refine wx_plan [(0, true), (2, true)] 5 rfl (by kernel_rfl) (wd_ldN I_ok rfl rfl (fun w' hw' => (hd4.extNo hw').seg) rfl ?_)
            refine wd_ldN I_ok rfl rfl (fun w' hw' => (hd4.extNo hw').seg) rfl ?_
            refine wd_tail rfl (wx_alt [1, 4, 5] rfl (by kernel_rfl) ⟨⟨_, rfl, ?_⟩, ⟨_, rfl, ?_⟩, ⟨_, rfl, ?_⟩, trivial⟩)
            · have hX0 := hX
              refine st_call Tryd.call25 rfl rfl rfl rfl rfl rfl (texts2_calls w5 (hxi.extNo hX)) fun v6 w6 hr6 => ⟨(by obtain ⟨q1, k1, rfl, hq1, hn1, hE6⟩ := hr6; exact hC.thenNo hE6), ?_⟩
              obtain ⟨q1, k1, rfl, hq1, hn1, hE6⟩ := hr6
              have hb4 := hb4.extNo hE6
              have hQ := Nat.le_trans hQ hE6.size
              have hX := hX.thenNo hE6
              have hC := hC.thenNo hE6
              have hqn1 : (∀ x, OwnB q1 x → w.heap.size ≤ x) := fun x hx => Nat.le_trans hX0.size (hn1 x hx)
              refine wx_plan [] 4 rfl (by kernel_rfl) (wd_tail rfl (wx_alt [3, 4, 5] rfl (by kernel_rfl) ⟨⟨_, rfl, ?_⟩, ⟨_, rfl, ?_⟩, ⟨_, rfl, ?_⟩, trivial⟩))
              · have hX0 := hX
                refine st_call Tryd.call25 rfl rfl rfl rfl rfl rfl (texts2_calls w6 (hxi.extNo hX)) fun v7 w7 hr7 => ⟨(by obtain ⟨q2, k2, rfl, hq2, hn2, hE7⟩ := hr7; exact hC.thenNo hE7), ?_⟩
                obtain ⟨q2, k2, rfl, hq2, hn2, hE7⟩ := hr7
                have hb4 := hb4.extNo hE7
                have hq1 := hq1.ext hE7 fun _ _ => id
                have hQ := Nat.le_trans hQ hE7.size
                have hX := hX.thenNo hE7
                have hC := hC.thenNo hE7
                have hqn2 : (∀ x, OwnB q2 x → w.heap.size ≤ x) := fun x hx => Nat.le_trans hX0.size (hn2 x hx)
                refine wx_plan [] 3 rfl (by kernel_rfl) (wd_tail rfl (wx_alt [4, 5] rfl (by kernel_rfl) ⟨⟨_, rfl, ?_⟩, ⟨_, rfl, ?_⟩, trivial⟩))
                · refine st_al I_ok rfl fun b5 w8 hn5 hb5 hE8 => ⟨hC.thenNo hE8, ?_⟩
                  have ne4_5 : b4 ≠ b5 := Nat.ne_of_lt (Nat.lt_of_lt_of_le hb4.lt hn5)
                  have fr5 := Nat.le_trans hX.size hn5
                  have frhQ5 := Nat.le_trans hQ hn5
                  have frhC5 := Nat.le_trans hC.size hn5
                  have hb4 := hb4.extNo hE8
                  have hq1 := hq1.ext hE8 fun _ _ => id
                  have hq2 := hq2.ext hE8 fun _ _ => id
                  have hQ := Nat.le_trans hQ hE8.size
                  have hX := hX.thenNo hE8
                  have hC := hC.thenNo hE8
                  refine wx_plan [(5, false), (6, false)] 0 rfl (by kernel_rfl) (wd_l rfl (st_al I_ok rfl fun b6 w9 hn6 hb6 hE9 => ⟨hC.thenNo hE9, ?_⟩))
                  have ne4_6 : b4 ≠ b6 := Nat.ne_of_lt (Nat.lt_of_lt_of_le hb4.lt hn6)
                  have ne5_6 : b5 ≠ b6 := Nat.ne_of_lt (Nat.lt_of_lt_of_le hb5.lt hn6)
                  have fr6 := Nat.le_trans hX.size hn6
                  have frhQ6 := Nat.le_trans hQ hn6
                  have frhC6 := Nat.le_trans hC.size hn6
                  have hb4 := hb4.extNo hE9
                  have hb5 := hb5.extNo hE9
                  have hq1 := hq1.ext hE9 fun _ _ => id
                  have hq2 := hq2.ext hE9 fun _ _ => id
                  have hQ := Nat.le_trans hQ hE9.size
                  have hX := hX.thenNo hE9
                  have hC := hC.thenNo hE9
                  have hb5o := hb5
                  refine wd_l rfl (st_stW (l' := [.slice q1 (textsR (rows[i]).l).length k1]) I_ok hb5 rfl rfl rfl rfl OneC.h fun w10 hb5 hE10 hs10 => ⟨hC.thenNew hE10 frhC5, ?_⟩)
                  have hC := hC.thenNew hE10 frhC5
                  have hb4 := hb4.ext1 hE10 ne4_5
                  have hb6 := hb6.ext1 hE10 ne5_6.symm
                  have hq1 := hq1.extTy hE10 hb5o (by decide)
                  have hq2 := hq2.extTy hE10 hb5o (by decide)
                  have hQ := Nat.le_trans hQ hE10.size
                  have hX := hX.thenNew hE10 fr5
                  refine wd_sw ?_
                  have hb6o := hb6
                  refine wb rfl (st_stW (l' := [.slice q2 (textsR (rows[i]).l).length k2]) I_ok hb6 rfl rfl rfl rfl OneC.h fun w11 hb6 hE11 hs11 => ?_)
                  have hb4 := hb4.ext1 hE11 ne4_6
                  have hb5 := hb5.ext1 hE11 ne5_6
                  have hq1 := hq1.extTy hE11 hb6o (by decide)
                  have hq2 := hq2.extTy hE11 hb6o (by decide)
                  have hQ := Nat.le_trans hQ hE11.size
                  have hX := hX.thenNew hE11 fr6
                  refine wb_nil ?_
                  exact f_cut (((q1, k1), (q2, k2)), b5, b6) rfl ⟨⟨hq1, hqn1, hq2, hqn2⟩, hb4, hb5, frhQ5, hb6, frhQ6, ne5_6, hX⟩
                · refine st_al I_ok rfl fun b6 w12 hn6 hb6 hE12 => ⟨hC.thenNo hE12, ?_⟩
                  have ne4_6 : b4 ≠ b6 := Nat.ne_of_lt (Nat.lt_of_lt_of_le hb4.lt hn6)
                  have fr6 := Nat.le_trans hX.size hn6
                  have frhQ6 := Nat.le_trans hQ hn6
                  have frhC6 := Nat.le_trans hC.size hn6
                  have hb4 := hb4.extNo hE12
                  have hq1 := hq1.ext hE12 fun _ _ => id
                  have hq2 := hq2.ext hE12 fun _ _ => id
                  have hQ := Nat.le_trans hQ hE12.size
                  have hX := hX.thenNo hE12
                  have hC := hC.thenNo hE12
                  refine wx_plan [(4, false), (6, false)] 0 rfl (by kernel_rfl) (wd_l rfl (st_al I_ok rfl fun b5 w13 hn5 hb5 hE13 => ⟨hC.thenNo hE13, ?_⟩))
                  have ne4_5 : b4 ≠ b5 := Nat.ne_of_lt (Nat.lt_of_lt_of_le hb4.lt hn5)
                  have ne6_5 : b6 ≠ b5 := Nat.ne_of_lt (Nat.lt_of_lt_of_le hb6.lt hn5)
                  have fr5 := Nat.le_trans hX.size hn5
                  have frhQ5 := Nat.le_trans hQ hn5
                  have frhC5 := Nat.le_trans hC.size hn5
                  have hb4 := hb4.extNo hE13
                  have hb6 := hb6.extNo hE13
                  have hq1 := hq1.ext hE13 fun _ _ => id
                  have hq2 := hq2.ext hE13 fun _ _ => id
                  have hQ := Nat.le_trans hQ hE13.size
                  have hX := hX.thenNo hE13
                  have hC := hC.thenNo hE13
                  have hb5o := hb5
                  refine wd_l rfl (st_stW (l' := [.slice q1 (textsR (rows[i]).l).length k1]) I_ok hb5 rfl rfl rfl rfl OneC.h fun w14 hb5 hE14 hs14 => ⟨hC.thenNew hE14 frhC5, ?_⟩)
                  have hC := hC.thenNew hE14 frhC5
                  have hb4 := hb4.ext1 hE14 ne4_5
                  have hb6 := hb6.ext1 hE14 ne6_5
                  have hq1 := hq1.extTy hE14 hb5o (by decide)
                  have hq2 := hq2.extTy hE14 hb5o (by decide)
                  have hQ := Nat.le_trans hQ hE14.size
                  have hX := hX.thenNew hE14 fr5
                  refine wd_sw ?_
                  have hb6o := hb6
                  refine wb rfl (st_stW (l' := [.slice q2 (textsR (rows[i]).l).length k2]) I_ok hb6 rfl rfl rfl rfl OneC.h fun w15 hb6 hE15 hs15 => ?_)
                  have hb4 := hb4.ext1 hE15 ne4_6
                  have hb5 := hb5.ext1 hE15 ne6_5.symm
                  have hq1 := hq1.extTy hE15 hb6o (by decide)
                  have hq2 := hq2.extTy hE15 hb6o (by decide)
                  have hQ := Nat.le_trans hQ hE15.size
                  have hX := hX.thenNew hE15 fr6
                  refine wb_nil ?_
                  exact f_cut (((q1, k1), (q2, k2)), b5, b6) rfl ⟨⟨hq1, hqn1, hq2, hqn2⟩, hb4, hb5, frhQ5, hb6, frhQ6, ne6_5.symm, hX⟩
              · refine st_al I_ok rfl fun b5 w16 hn5 hb5 hE16 => ⟨hC.thenNo hE16, ?_⟩
                have ne4_5 : b4 ≠ b5 := Nat.ne_of_lt (Nat.lt_of_lt_of_le hb4.lt hn5)
                have fr5 := Nat.le_trans hX.size hn5
                have frhQ5 := Nat.le_trans hQ hn5
                have frhC5 := Nat.le_trans hC.size hn5
                have hb4 := hb4.extNo hE16
                have hq1 := hq1.ext hE16 fun _ _ => id
                have hQ := Nat.le_trans hQ hE16.size
                have hX := hX.thenNo hE16
                have hC := hC.thenNo hE16
                refine wx_plan [] 3 rfl (by kernel_rfl) (wd_tail rfl (wx_alt [3, 5] rfl (by kernel_rfl) ⟨⟨_, rfl, ?_⟩, ⟨_, rfl, ?_⟩, trivial⟩))
                · have hX0 := hX
                  refine st_call Tryd.call25 rfl rfl rfl rfl rfl rfl (texts2_calls w16 (hxi.extNo hX)) fun v17 w17 hr17 => ⟨(by obtain ⟨q2, k2, rfl, hq2, hn2, hE17⟩ := hr17; exact hC.thenNo hE17), ?_⟩
                  obtain ⟨q2, k2, rfl, hq2, hn2, hE17⟩ := hr17
                  have hb4 := hb4.extNo hE17
                  have hb5 := hb5.extNo hE17
                  have hq1 := hq1.ext hE17 fun _ _ => id
                  have hQ := Nat.le_trans hQ hE17.size
                  have hX := hX.thenNo hE17
                  have hC := hC.thenNo hE17
                  have hqn2 : (∀ x, OwnB q2 x → w.heap.size ≤ x) := fun x hx => Nat.le_trans hX0.size (hn2 x hx)
                  refine wx_plan [(5, false), (6, false)] 0 rfl (by kernel_rfl) (wd_l rfl (st_al I_ok rfl fun b6 w18 hn6 hb6 hE18 => ⟨hC.thenNo hE18, ?_⟩))
                  have ne4_6 : b4 ≠ b6 := Nat.ne_of_lt (Nat.lt_of_lt_of_le hb4.lt hn6)
                  have ne5_6 : b5 ≠ b6 := Nat.ne_of_lt (Nat.lt_of_lt_of_le hb5.lt hn6)
                  have fr6 := Nat.le_trans hX.size hn6
                  have frhQ6 := Nat.le_trans hQ hn6
                  have frhC6 := Nat.le_trans hC.size hn6
                  have hb4 := hb4.extNo hE18
                  have hb5 := hb5.extNo hE18
                  have hq1 := hq1.ext hE18 fun _ _ => id
                  have hq2 := hq2.ext hE18 fun _ _ => id
                  have hQ := Nat.le_trans hQ hE18.size
                  have hX := hX.thenNo hE18
                  have hC := hC.thenNo hE18
                  have hb5o := hb5
                  refine wd_l rfl (st_stW (l' := [.slice q1 (textsR (rows[i]).l).length k1]) I_ok hb5 rfl rfl rfl rfl OneC.h fun w19 hb5 hE19 hs19 => ⟨hC.thenNew hE19 frhC5, ?_⟩)
                  have hC := hC.thenNew hE19 frhC5
                  have hb4 := hb4.ext1 hE19 ne4_5
                  have hb6 := hb6.ext1 hE19 ne5_6.symm
                  have hq1 := hq1.extTy hE19 hb5o (by decide)
                  have hq2 := hq2.extTy hE19 hb5o (by decide)
                  have hQ := Nat.le_trans hQ hE19.size
                  have hX := hX.thenNew hE19 fr5
                  refine wd_sw ?_
                  have hb6o := hb6
                  refine wb rfl (st_stW (l' := [.slice q2 (textsR (rows[i]).l).length k2]) I_ok hb6 rfl rfl rfl rfl OneC.h fun w20 hb6 hE20 hs20 => ?_)
                  have hb4 := hb4.ext1 hE20 ne4_6
                  have hb5 := hb5.ext1 hE20 ne5_6
                  have hq1 := hq1.extTy hE20 hb6o (by decide)
                  have hq2 := hq2.extTy hE20 hb6o (by decide)
                  have hQ := Nat.le_trans hQ hE20.size
                  have hX := hX.thenNew hE20 fr6
                  refine wb_nil ?_
                  exact f_cut (((q1, k1), (q2, k2)), b5, b6) rfl ⟨⟨hq1, hqn1, hq2, hqn2⟩, hb4, hb5, frhQ5, hb6, frhQ6, ne5_6, hX⟩
                · refine st_al I_ok rfl fun b6 w21 hn6 hb6 hE21 => ⟨hC.thenNo hE21, ?_⟩
                  have ne4_6 : b4 ≠ b6 := Nat.ne_of_lt (Nat.lt_of_lt_of_le hb4.lt hn6)
                  have ne5_6 : b5 ≠ b6 := Nat.ne_of_lt (Nat.lt_of_lt_of_le hb5.lt hn6)
                  have fr6 := Nat.le_trans hX.size hn6
                  have frhQ6 := Nat.le_trans hQ hn6
                  have frhC6 := Nat.le_trans hC.size hn6
                  have hb4 := hb4.extNo hE21
                  have hb5 := hb5.extNo hE21
                  have hq1 := hq1.ext hE21 fun _ _ => id
                  have hQ := Nat.le_trans hQ hE21.size
                  have hX := hX.thenNo hE21
                  have hC := hC.thenNo hE21
                  refine wx_plan [(3, false), (6, false)] 0 rfl (by kernel_rfl) ?_
                  have hX0 := hX
                  refine wd_l rfl (st_call Tryd.call25 rfl rfl rfl rfl rfl rfl (texts2_calls w21 (hxi.extNo hX)) fun v22 w22 hr22 => ⟨(by obtain ⟨q2, k2, rfl, hq2, hn2, hE22⟩ := hr22; exact hC.thenNo hE22), ?_⟩)
                  obtain ⟨q2, k2, rfl, hq2, hn2, hE22⟩ := hr22
                  have hb4 := hb4.extNo hE22
                  have hb5 := hb5.extNo hE22
                  have hb6 := hb6.extNo hE22
                  have hq1 := hq1.ext hE22 fun _ _ => id
                  have hQ := Nat.le_trans hQ hE22.size
                  have hX := hX.thenNo hE22
                  have hC := hC.thenNo hE22
                  have hqn2 : (∀ x, OwnB q2 x → w.heap.size ≤ x) := fun x hx => Nat.le_trans hX0.size (hn2 x hx)
                  have hb5o := hb5
                  refine wd_l rfl (st_stW (l' := [.slice q1 (textsR (rows[i]).l).length k1]) I_ok hb5 rfl rfl rfl rfl OneC.h fun w23 hb5 hE23 hs23 => ⟨hC.thenNew hE23 frhC5, ?_⟩)
                  have hC := hC.thenNew hE23 frhC5
                  have hb4 := hb4.ext1 hE23 ne4_5
                  have hb6 := hb6.ext1 hE23 ne5_6.symm
                  have hq1 := hq1.extTy hE23 hb5o (by decide)
                  have hq2 := hq2.extTy hE23 hb5o (by decide)
                  have hQ := Nat.le_trans hQ hE23.size
                  have hX := hX.thenNew hE23 fr5
                  refine wd_sw ?_
                  have hb6o := hb6
                  refine wb rfl (st_stW (l' := [.slice q2 (textsR (rows[i]).l).length k2]) I_ok hb6 rfl rfl rfl rfl OneC.h fun w24 hb6 hE24 hs24 => ?_)
                  have hb4 := hb4.ext1 hE24 ne4_6
                  have hb5 := hb5.ext1 hE24 ne5_6
                  have hq1 := hq1.extTy hE24 hb6o (by decide)
                  have hq2 := hq2.extTy hE24 hb6o (by decide)
                  have hQ := Nat.le_trans hQ hE24.size
                  have hX := hX.thenNew hE24 fr6
                  refine wb_nil ?_
                  exact f_cut (((q1, k1), (q2, k2)), b5, b6) rfl ⟨⟨hq1, hqn1, hq2, hqn2⟩, hb4, hb5, frhQ5, hb6, frhQ6, ne5_6, hX⟩
              · refine st_al I_ok rfl fun b6 w25 hn6 hb6 hE25 => ⟨hC.thenNo hE25, ?_⟩
                have ne4_6 : b4 ≠ b6 := Nat.ne_of_lt (Nat.lt_of_lt_of_le hb4.lt hn6)
                have fr6 := Nat.le_trans hX.size hn6
                have frhQ6 := Nat.le_trans hQ hn6
                have frhC6 := Nat.le_trans hC.size hn6
                have hb4 := hb4.extNo hE25
                have hq1 := hq1.ext hE25 fun _ _ => id
                have hQ := Nat.le_trans hQ hE25.size
                have hX := hX.thenNo hE25
                have hC := hC.thenNo hE25
                refine wx_plan [] 3 rfl (by kernel_rfl) (wd_tail rfl (wx_alt [3, 4] rfl (by kernel_rfl) ⟨⟨_, rfl, ?_⟩, ⟨_, rfl, ?_⟩, trivial⟩))
                · have hX0 := hX
                  refine st_call Tryd.call25 rfl rfl rfl rfl rfl rfl (texts2_calls w25 (hxi.extNo hX)) fun v26 w26 hr26 => ⟨(by obtain ⟨q2, k2, rfl, hq2, hn2, hE26⟩ := hr26; exact hC.thenNo hE26), ?_⟩
                  obtain ⟨q2, k2, rfl, hq2, hn2, hE26⟩ := hr26
                  have hb4 := hb4.extNo hE26
                  have hb6 := hb6.extNo hE26
                  have hq1 := hq1.ext hE26 fun _ _ => id
                  have hQ := Nat.le_trans hQ hE26.size
                  have hX := hX.thenNo hE26
                  have hC := hC.thenNo hE26
                  have hqn2 : (∀ x, OwnB q2 x → w.heap.size ≤ x) := fun x hx => Nat.le_trans hX0.size (hn2 x hx)
                  refine wx_plan [(4, false), (6, false)] 0 rfl (by kernel_rfl) (wd_l rfl (st_al I_ok rfl fun b5 w27 hn5 hb5 hE27 => ⟨hC.thenNo hE27, ?_⟩))
                  have ne4_5 : b4 ≠ b5 := Nat.ne_of_lt (Nat.lt_of_lt_of_le hb4.lt hn5)
                  have ne6_5 : b6 ≠ b5 := Nat.ne_of_lt (Nat.lt_of_lt_of_le hb6.lt hn5)
                  have fr5 := Nat.le_trans hX.size hn5
                  have frhQ5 := Nat.le_trans hQ hn5
                  have frhC5 := Nat.le_trans hC.size hn5
                  have hb4 := hb4.extNo hE27
                  have hb6 := hb6.extNo hE27
                  have hq1 := hq1.ext hE27 fun _ _ => id
                  have hq2 := hq2.ext hE27 fun _ _ => id
                  have hQ := Nat.le_trans hQ hE27.size
                  have hX := hX.thenNo hE27
                  have hC := hC.thenNo hE27
                  have hb5o := hb5
                  refine wd_l rfl (st_stW (l' := [.slice q1 (textsR (rows[i]).l).length k1]) I_ok hb5 rfl rfl rfl rfl OneC.h fun w28 hb5 hE28 hs28 => ⟨hC.thenNew hE28 frhC5, ?_⟩)
                  have hC := hC.thenNew hE28 frhC5
                  have hb4 := hb4.ext1 hE28 ne4_5
                  have hb6 := hb6.ext1 hE28 ne6_5
                  have hq1 := hq1.extTy hE28 hb5o (by decide)
                  have hq2 := hq2.extTy hE28 hb5o (by decide)
                  have hQ := Nat.le_trans hQ hE28.size
                  have hX := hX.thenNew hE28 fr5
                  refine wd_sw ?_
                  have hb6o := hb6
                  refine wb rfl (st_stW (l' := [.slice q2 (textsR (rows[i]).l).length k2]) I_ok hb6 rfl rfl rfl rfl OneC.h fun w29 hb6 hE29 hs29 => ?_)
                  have hb4 := hb4.ext1 hE29 ne4_6
                  have hb5 := hb5.ext1 hE29 ne6_5.symm
                  have hq1 := hq1.extTy hE29 hb6o (by decide)
                  have hq2 := hq2.extTy hE29 hb6o (by decide)
                  have hQ := Nat.le_trans hQ hE29.size
                  have hX := hX.thenNew hE29 fr6
                  refine wb_nil ?_
                  exact f_cut (((q1, k1), (q2, k2)), b5, b6) rfl ⟨⟨hq1, hqn1, hq2, hqn2⟩, hb4, hb5, frhQ5, hb6, frhQ6, ne6_5.symm, hX⟩
                · refine st_al I_ok rfl fun b5 w30 hn5 hb5 hE30 => ⟨hC.thenNo hE30, ?_⟩
                  have ne4_5 : b4 ≠ b5 := Nat.ne_of_lt (Nat.lt_of_lt_of_le hb4.lt hn5)
                  have ne6_5 : b6 ≠ b5 := Nat.ne_of_lt (Nat.lt_of_lt_of_le hb6.lt hn5)
                  have fr5 := Nat.le_trans hX.size hn5
                  have frhQ5 := Nat.le_trans hQ hn5
                  have frhC5 := Nat.le_trans hC.size hn5
                  have hb4 := hb4.extNo hE30
                  have hb6 := hb6.extNo hE30
                  have hq1 := hq1.ext hE30 fun _ _ => id
                  have hQ := Nat.le_trans hQ hE30.size
                  have hX := hX.thenNo hE30
                  have hC := hC.thenNo hE30
                  refine wx_plan [(3, false), (6, false)] 0 rfl (by kernel_rfl) ?_
                  have hX0 := hX
                  refine wd_l rfl (st_call Tryd.call25 rfl rfl rfl rfl rfl rfl (texts2_calls w30 (hxi.extNo hX)) fun v31 w31 hr31 => ⟨(by obtain ⟨q2, k2, rfl, hq2, hn2, hE31⟩ := hr31; exact hC.thenNo hE31), ?_⟩)
                  obtain ⟨q2, k2, rfl, hq2, hn2, hE31⟩ := hr31
                  have hb4 := hb4.extNo hE31
                  have hb6 := hb6.extNo hE31
                  have hb5 := hb5.extNo hE31
                  have hq1 := hq1.ext hE31 fun _ _ => id
                  have hQ := Nat.le_trans hQ hE31.size
                  have hX := hX.thenNo hE31
                  have hC := hC.thenNo hE31
                  have hqn2 : (∀ x, OwnB q2 x → w.heap.size ≤ x) := fun x hx => Nat.le_trans hX0.size (hn2 x hx)
                  have hb5o := hb5
                  refine wd_l rfl (st_stW (l' := [.slice q1 (textsR (rows[i]).l).length k1]) I_ok hb5 rfl rfl rfl rfl OneC.h fun w32 hb5 hE32 hs32 => ⟨hC.thenNew hE32 frhC5, ?_⟩)
                  have hC := hC.thenNew hE32 frhC5
                  have hb4 := hb4.ext1 hE32 ne4_5
                  have hb6 := hb6.ext1 hE32 ne6_5
                  have hq1 := hq1.extTy hE32 hb5o (by decide)
                  have hq2 := hq2.extTy hE32 hb5o (by decide)
                  have hQ := Nat.le_trans hQ hE32.size
                  have hX := hX.thenNew hE32 fr5
                  refine wd_sw ?_
                  have hb6o := hb6
                  refine wb rfl (st_stW (l' := [.slice q2 (textsR (rows[i]).l).length k2]) I_ok hb6 rfl rfl rfl rfl OneC.h fun w33 hb6 hE33 hs33 => ?_)
                  have hb4 := hb4.ext1 hE33 ne4_6
                  have hb5 := hb5.ext1 hE33 ne6_5.symm
                  have hq1 := hq1.extTy hE33 hb6o (by decide)
                  have hq2 := hq2.extTy hE33 hb6o (by decide)
                  have hQ := Nat.le_trans hQ hE33.size
                  have hX := hX.thenNew hE33 fr6
                  refine wb_nil ?_
                  exact f_cut (((q1, k1), (q2, k2)), b5, b6) rfl ⟨⟨hq1, hqn1, hq2, hqn2⟩, hb4, hb5, frhQ5, hb6, frhQ6, ne6_5.symm, hX⟩
            · refine st_al I_ok rfl fun b5 w34 hn5 hb5 hE34 => ⟨hC.thenNo hE34, ?_⟩
              have ne4_5 : b4 ≠ b5 := Nat.ne_of_lt (Nat.lt_of_lt_of_le hb4.lt hn5)
              have fr5 := Nat.le_trans hX.size hn5
              have frhQ5 := Nat.le_trans hQ hn5
              have frhC5 := Nat.le_trans hC.size hn5
              have hb4 := hb4.extNo hE34
              have hQ := Nat.le_trans hQ hE34.size
              have hX := hX.thenNo hE34
              have hC := hC.thenNo hE34
              refine wx_plan [] 4 rfl (by kernel_rfl) (wd_tail rfl (wx_alt [1, 5] rfl (by kernel_rfl) ⟨⟨_, rfl, ?_⟩, ⟨_, rfl, ?_⟩, trivial⟩))
              · have hX0 := hX
                refine st_call Tryd.call25 rfl rfl rfl rfl rfl rfl (texts2_calls w34 (hxi.extNo hX)) fun v35 w35 hr35 => ⟨(by obtain ⟨q1, k1, rfl, hq1, hn1, hE35⟩ := hr35; exact hC.thenNo hE35), ?_⟩
                obtain ⟨q1, k1, rfl, hq1, hn1, hE35⟩ := hr35
                have hb4 := hb4.extNo hE35
                have hb5 := hb5.extNo hE35
                have hQ := Nat.le_trans hQ hE35.size
                have hX := hX.thenNo hE35
                have hC := hC.thenNo hE35
                have hqn1 : (∀ x, OwnB q1 x → w.heap.size ≤ x) := fun x hx => Nat.le_trans hX0.size (hn1 x hx)
                refine wx_plan [] 3 rfl (by kernel_rfl) (wd_tail rfl (wx_alt [3, 5] rfl (by kernel_rfl) ⟨⟨_, rfl, ?_⟩, ⟨_, rfl, ?_⟩, trivial⟩))
                · have hX0 := hX
                  refine st_call Tryd.call25 rfl rfl rfl rfl rfl rfl (texts2_calls w35 (hxi.extNo hX)) fun v36 w36 hr36 => ⟨(by obtain ⟨q2, k2, rfl, hq2, hn2, hE36⟩ := hr36; exact hC.thenNo hE36), ?_⟩
                  obtain ⟨q2, k2, rfl, hq2, hn2, hE36⟩ := hr36
                  have hb4 := hb4.extNo hE36
                  have hb5 := hb5.extNo hE36
                  have hq1 := hq1.ext hE36 fun _ _ => id
                  have hQ := Nat.le_trans hQ hE36.size
                  have hX := hX.thenNo hE36
                  have hC := hC.thenNo hE36
                  have hqn2 : (∀ x, OwnB q2 x → w.heap.size ≤ x) := fun x hx => Nat.le_trans hX0.size (hn2 x hx)
                  refine wx_plan [(5, false), (6, false)] 0 rfl (by kernel_rfl) (wd_l rfl (st_al I_ok rfl fun b6 w37 hn6 hb6 hE37 => ⟨hC.thenNo hE37, ?_⟩))
                  have ne4_6 : b4 ≠ b6 := Nat.ne_of_lt (Nat.lt_of_lt_of_le hb4.lt hn6)
                  have ne5_6 : b5 ≠ b6 := Nat.ne_of_lt (Nat.lt_of_lt_of_le hb5.lt hn6)
                  have fr6 := Nat.le_trans hX.size hn6
                  have frhQ6 := Nat.le_trans hQ hn6
                  have frhC6 := Nat.le_trans hC.size hn6
                  have hb4 := hb4.extNo hE37
                  have hb5 := hb5.extNo hE37
                  have hq1 := hq1.ext hE37 fun _ _ => id
                  have hq2 := hq2.ext hE37 fun _ _ => id
                  have hQ := Nat.le_trans hQ hE37.size
                  have hX := hX.thenNo hE37
                  have hC := hC.thenNo hE37
                  have hb5o := hb5
                  refine wd_l rfl (st_stW (l' := [.slice q1 (textsR (rows[i]).l).length k1]) I_ok hb5 rfl rfl rfl rfl OneC.h fun w38 hb5 hE38 hs38 => ⟨hC.thenNew hE38 frhC5, ?_⟩)
                  have hC := hC.thenNew hE38 frhC5
                  have hb4 := hb4.ext1 hE38 ne4_5
                  have hb6 := hb6.ext1 hE38 ne5_6.symm
                  have hq1 := hq1.extTy hE38 hb5o (by decide)
                  have hq2 := hq2.extTy hE38 hb5o (by decide)
                  have hQ := Nat.le_trans hQ hE38.size
                  have hX := hX.thenNew hE38 fr5
                  refine wd_sw ?_
                  have hb6o := hb6
                  refine wb rfl (st_stW (l' := [.slice q2 (textsR (rows[i]).l).length k2]) I_ok hb6 rfl rfl rfl rfl OneC.h fun w39 hb6 hE39 hs39 => ?_)
                  have hb4 := hb4.ext1 hE39 ne4_6
                  have hb5 := hb5.ext1 hE39 ne5_6
                  have hq1 := hq1.extTy hE39 hb6o (by decide)
                  have hq2 := hq2.extTy hE39 hb6o (by decide)
                  have hQ := Nat.le_trans hQ hE39.size
                  have hX := hX.thenNew hE39 fr6
                  refine wb_nil ?_
                  exact f_cut (((q1, k1), (q2, k2)), b5, b6) rfl ⟨⟨hq1, hqn1, hq2, hqn2⟩, hb4, hb5, frhQ5, hb6, frhQ6, ne5_6, hX⟩
                · refine st_al I_ok rfl fun b6 w40 hn6 hb6 hE40 => ⟨hC.thenNo hE40, ?_⟩
                  have ne4_6 : b4 ≠ b6 := Nat.ne_of_lt (Nat.lt_of_lt_of_le hb4.lt hn6)
                  have ne5_6 : b5 ≠ b6 := Nat.ne_of_lt (Nat.lt_of_lt_of_le hb5.lt hn6)
                  have fr6 := Nat.le_trans hX.size hn6
                  have frhQ6 := Nat.le_trans hQ hn6
                  have frhC6 := Nat.le_trans hC.size hn6
                  have hb4 := hb4.extNo hE40
                  have hb5 := hb5.extNo hE40
                  have hq1 := hq1.ext hE40 fun _ _ => id
                  have hQ := Nat.le_trans hQ hE40.size
                  have hX := hX.thenNo hE40
                  have hC := hC.thenNo hE40
                  refine wx_plan [(3, false), (6, false)] 0 rfl (by kernel_rfl) ?_
                  have hX0 := hX
                  refine wd_l rfl (st_call Tryd.call25 rfl rfl rfl rfl rfl rfl (texts2_calls w40 (hxi.extNo hX)) fun v41 w41 hr41 => ⟨(by obtain ⟨q2, k2, rfl, hq2, hn2, hE41⟩ := hr41; exact hC.thenNo hE41), ?_⟩)
                  obtain ⟨q2, k2, rfl, hq2, hn2, hE41⟩ := hr41
                  have hb4 := hb4.extNo hE41
                  have hb5 := hb5.extNo hE41
                  have hb6 := hb6.extNo hE41
                  have hq1 := hq1.ext hE41 fun _ _ => id
                  have hQ := Nat.le_trans hQ hE41.size
                  have hX := hX.thenNo hE41
                  have hC := hC.thenNo hE41
                  have hqn2 : (∀ x, OwnB q2 x → w.heap.size ≤ x) := fun x hx => Nat.le_trans hX0.size (hn2 x hx)
                  have hb5o := hb5
                  refine wd_l rfl (st_stW (l' := [.slice q1 (textsR (rows[i]).l).length k1]) I_ok hb5 rfl rfl rfl rfl OneC.h fun w42 hb5 hE42 hs42 => ⟨hC.thenNew hE42 frhC5, ?_⟩)
                  have hC := hC.thenNew hE42 frhC5
                  have hb4 := hb4.ext1 hE42 ne4_5
                  have hb6 := hb6.ext1 hE42 ne5_6.symm
                  have hq1 := hq1.extTy hE42 hb5o (by decide)
                  have hq2 := hq2.extTy hE42 hb5o (by decide)
                  have hQ := Nat.le_trans hQ hE42.size
                  have hX := hX.thenNew hE42 fr5
                  refine wd_sw ?_
                  have hb6o := hb6
                  refine wb rfl (st_stW (l' := [.slice q2 (textsR (rows[i]).l).length k2]) I_ok hb6 rfl rfl rfl rfl OneC.h fun w43 hb6 hE43 hs43 => ?_)
                  have hb4 := hb4.ext1 hE43 ne4_6
                  have hb5 := hb5.ext1 hE43 ne5_6
                  have hq1 := hq1.extTy hE43 hb6o (by decide)
                  have hq2 := hq2.extTy hE43 hb6o (by decide)
                  have hQ := Nat.le_trans hQ hE43.size
                  have hX := hX.thenNew hE43 fr6
                  refine wb_nil ?_
                  exact f_cut (((q1, k1), (q2, k2)), b5, b6) rfl ⟨⟨hq1, hqn1, hq2, hqn2⟩, hb4, hb5, frhQ5, hb6, frhQ6, ne5_6, hX⟩
              · refine st_al I_ok rfl fun b6 w44 hn6 hb6 hE44 => ⟨hC.thenNo hE44, ?_⟩
                have ne4_6 : b4 ≠ b6 := Nat.ne_of_lt (Nat.lt_of_lt_of_le hb4.lt hn6)
                have ne5_6 : b5 ≠ b6 := Nat.ne_of_lt (Nat.lt_of_lt_of_le hb5.lt hn6)
                have fr6 := Nat.le_trans hX.size hn6
                have frhQ6 := Nat.le_trans hQ hn6
                have frhC6 := Nat.le_trans hC.size hn6
                have hb4 := hb4.extNo hE44
                have hb5 := hb5.extNo hE44
                have hQ := Nat.le_trans hQ hE44.size
                have hX := hX.thenNo hE44
                have hC := hC.thenNo hE44
                refine wx_plan [(1, false), (3, false), (6, false)] 0 rfl (by kernel_rfl) ?_
                have hX0 := hX
                refine wd_l rfl (st_call Tryd.call25 rfl rfl rfl rfl rfl rfl (texts2_calls w44 (hxi.extNo hX)) fun v45 w45 hr45 => ⟨(by obtain ⟨q1, k1, rfl, hq1, hn1, hE45⟩ := hr45; exact hC.thenNo hE45), ?_⟩)
                obtain ⟨q1, k1, rfl, hq1, hn1, hE45⟩ := hr45
                have hb4 := hb4.extNo hE45
                have hb5 := hb5.extNo hE45
                have hb6 := hb6.extNo hE45
                have hQ := Nat.le_trans hQ hE45.size
                have hX := hX.thenNo hE45
                have hC := hC.thenNo hE45
                have hqn1 : (∀ x, OwnB q1 x → w.heap.size ≤ x) := fun x hx => Nat.le_trans hX0.size (hn1 x hx)
                have hX0 := hX
                refine wd_l rfl (st_call Tryd.call25 rfl rfl rfl rfl rfl rfl (texts2_calls w45 (hxi.extNo hX)) fun v46 w46 hr46 => ⟨(by obtain ⟨q2, k2, rfl, hq2, hn2, hE46⟩ := hr46; exact hC.thenNo hE46), ?_⟩)
                obtain ⟨q2, k2, rfl, hq2, hn2, hE46⟩ := hr46
                have hb4 := hb4.extNo hE46
                have hb5 := hb5.extNo hE46
                have hb6 := hb6.extNo hE46
                have hq1 := hq1.ext hE46 fun _ _ => id
                have hQ := Nat.le_trans hQ hE46.size
                have hX := hX.thenNo hE46
                have hC := hC.thenNo hE46
                have hqn2 : (∀ x, OwnB q2 x → w.heap.size ≤ x) := fun x hx => Nat.le_trans hX0.size (hn2 x hx)
                have hb5o := hb5
                refine wd_l rfl (st_stW (l' := [.slice q1 (textsR (rows[i]).l).length k1]) I_ok hb5 rfl rfl rfl rfl OneC.h fun w47 hb5 hE47 hs47 => ⟨hC.thenNew hE47 frhC5, ?_⟩)
                have hC := hC.thenNew hE47 frhC5
                have hb4 := hb4.ext1 hE47 ne4_5
                have hb6 := hb6.ext1 hE47 ne5_6.symm
                have hq1 := hq1.extTy hE47 hb5o (by decide)
                have hq2 := hq2.extTy hE47 hb5o (by decide)
                have hQ := Nat.le_trans hQ hE47.size
                have hX := hX.thenNew hE47 fr5
                refine wd_sw ?_
                have hb6o := hb6
                refine wb rfl (st_stW (l' := [.slice q2 (textsR (rows[i]).l).length k2]) I_ok hb6 rfl rfl rfl rfl OneC.h fun w48 hb6 hE48 hs48 => ?_)
                have hb4 := hb4.ext1 hE48 ne4_6
                have hb5 := hb5.ext1 hE48 ne5_6
                have hq1 := hq1.extTy hE48 hb6o (by decide)
                have hq2 := hq2.extTy hE48 hb6o (by decide)
                have hQ := Nat.le_trans hQ hE48.size
                have hX := hX.thenNew hE48 fr6
                refine wb_nil ?_
                exact f_cut (((q1, k1), (q2, k2)), b5, b6) rfl ⟨⟨hq1, hqn1, hq2, hqn2⟩, hb4, hb5, frhQ5, hb6, frhQ6, ne5_6, hX⟩
            · refine st_al I_ok rfl fun b6 w49 hn6 hb6 hE49 => ⟨hC.thenNo hE49, ?_⟩
              have ne4_6 : b4 ≠ b6 := Nat.ne_of_lt (Nat.lt_of_lt_of_le hb4.lt hn6)
              have fr6 := Nat.le_trans hX.size hn6
              have frhQ6 := Nat.le_trans hQ hn6
              have frhC6 := Nat.le_trans hC.size hn6
              have hb4 := hb4.extNo hE49
              have hQ := Nat.le_trans hQ hE49.size
              have hX := hX.thenNo hE49
              have hC := hC.thenNo hE49
              refine wx_plan [] 4 rfl (by kernel_rfl) (wd_tail rfl (wx_alt [1, 4] rfl (by kernel_rfl) ⟨⟨_, rfl, ?_⟩, ⟨_, rfl, ?_⟩, trivial⟩))
              · have hX0 := hX
                refine st_call Tryd.call25 rfl rfl rfl rfl rfl rfl (texts2_calls w49 (hxi.extNo hX)) fun v50 w50 hr50 => ⟨(by obtain ⟨q1, k1, rfl, hq1, hn1, hE50⟩ := hr50; exact hC.thenNo hE50), ?_⟩
                obtain ⟨q1, k1, rfl, hq1, hn1, hE50⟩ := hr50
                have hb4 := hb4.extNo hE50
                have hb6 := hb6.extNo hE50
                have hQ := Nat.le_trans hQ hE50.size
                have hX := hX.thenNo hE50
                have hC := hC.thenNo hE50
                have hqn1 : (∀ x, OwnB q1 x → w.heap.size ≤ x) := fun x hx => Nat.le_trans hX0.size (hn1 x hx)
                refine wx_plan [] 3 rfl (by kernel_rfl) (wd_tail rfl (wx_alt [3, 4] rfl (by kernel_rfl) ⟨⟨_, rfl, ?_⟩, ⟨_, rfl, ?_⟩, trivial⟩))
                · have hX0 := hX
                  refine st_call Tryd.call25 rfl rfl rfl rfl rfl rfl (texts2_calls w50 (hxi.extNo hX)) fun v51 w51 hr51 => ⟨(by obtain ⟨q2, k2, rfl, hq2, hn2, hE51⟩ := hr51; exact hC.thenNo hE51), ?_⟩
                  obtain ⟨q2, k2, rfl, hq2, hn2, hE51⟩ := hr51
                  have hb4 := hb4.extNo hE51
                  have hb6 := hb6.extNo hE51
                  have hq1 := hq1.ext hE51 fun _ _ => id
                  have hQ := Nat.le_trans hQ hE51.size
                  have hX := hX.thenNo hE51
                  have hC := hC.thenNo hE51
                  have hqn2 : (∀ x, OwnB q2 x → w.heap.size ≤ x) := fun x hx => Nat.le_trans hX0.size (hn2 x hx)
                  refine wx_plan [(4, false), (6, false)] 0 rfl (by kernel_rfl) (wd_l rfl (st_al I_ok rfl fun b5 w52 hn5 hb5 hE52 => ⟨hC.thenNo hE52, ?_⟩))
                  have ne4_5 : b4 ≠ b5 := Nat.ne_of_lt (Nat.lt_of_lt_of_le hb4.lt hn5)
                  have ne6_5 : b6 ≠ b5 := Nat.ne_of_lt (Nat.lt_of_lt_of_le hb6.lt hn5)
                  have fr5 := Nat.le_trans hX.size hn5
                  have frhQ5 := Nat.le_trans hQ hn5
                  have frhC5 := Nat.le_trans hC.size hn5
                  have hb4 := hb4.extNo hE52
                  have hb6 := hb6.extNo hE52
                  have hq1 := hq1.ext hE52 fun _ _ => id
                  have hq2 := hq2.ext hE52 fun _ _ => id
                  have hQ := Nat.le_trans hQ hE52.size
                  have hX := hX.thenNo hE52
                  have hC := hC.thenNo hE52
                  have hb5o := hb5
                  refine wd_l rfl (st_stW (l' := [.slice q1 (textsR (rows[i]).l).length k1]) I_ok hb5 rfl rfl rfl rfl OneC.h fun w53 hb5 hE53 hs53 => ⟨hC.thenNew hE53 frhC5, ?_⟩)
                  have hC := hC.thenNew hE53 frhC5
                  have hb4 := hb4.ext1 hE53 ne4_5
                  have hb6 := hb6.ext1 hE53 ne6_5
                  have hq1 := hq1.extTy hE53 hb5o (by decide)
                  have hq2 := hq2.extTy hE53 hb5o (by decide)
                  have hQ := Nat.le_trans hQ hE53.size
                  have hX := hX.thenNew hE53 fr5
                  refine wd_sw ?_
                  have hb6o := hb6
                  refine wb rfl (st_stW (l' := [.slice q2 (textsR (rows[i]).l).length k2]) I_ok hb6 rfl rfl rfl rfl OneC.h fun w54 hb6 hE54 hs54 => ?_)
                  have hb4 := hb4.ext1 hE54 ne4_6
                  have hb5 := hb5.ext1 hE54 ne6_5.symm
                  have hq1 := hq1.extTy hE54 hb6o (by decide)
                  have hq2 := hq2.extTy hE54 hb6o (by decide)
                  have hQ := Nat.le_trans hQ hE54.size
                  have hX := hX.thenNew hE54 fr6
                  refine wb_nil ?_
                  exact f_cut (((q1, k1), (q2, k2)), b5, b6) rfl ⟨⟨hq1, hqn1, hq2, hqn2⟩, hb4, hb5, frhQ5, hb6, frhQ6, ne6_5.symm, hX⟩
                · refine st_al I_ok rfl fun b5 w55 hn5 hb5 hE55 => ⟨hC.thenNo hE55, ?_⟩
                  have ne4_5 : b4 ≠ b5 := Nat.ne_of_lt (Nat.lt_of_lt_of_le hb4.lt hn5)
                  have ne6_5 : b6 ≠ b5 := Nat.ne_of_lt (Nat.lt_of_lt_of_le hb6.lt hn5)
                  have fr5 := Nat.le_trans hX.size hn5
                  have frhQ5 := Nat.le_trans hQ hn5
                  have frhC5 := Nat.le_trans hC.size hn5
                  have hb4 := hb4.extNo hE55
                  have hb6 := hb6.extNo hE55
                  have hq1 := hq1.ext hE55 fun _ _ => id
                  have hQ := Nat.le_trans hQ hE55.size
                  have hX := hX.thenNo hE55
                  have hC := hC.thenNo hE55
                  refine wx_plan [(3, false), (6, false)] 0 rfl (by kernel_rfl) ?_
                  have hX0 := hX
                  refine wd_l rfl (st_call Tryd.call25 rfl rfl rfl rfl rfl rfl (texts2_calls w55 (hxi.extNo hX)) fun v56 w56 hr56 => ⟨(by obtain ⟨q2, k2, rfl, hq2, hn2, hE56⟩ := hr56; exact hC.thenNo hE56), ?_⟩)
                  obtain ⟨q2, k2, rfl, hq2, hn2, hE56⟩ := hr56
                  have hb4 := hb4.extNo hE56
                  have hb6 := hb6.extNo hE56
                  have hb5 := hb5.extNo hE56
                  have hq1 := hq1.ext hE56 fun _ _ => id
                  have hQ := Nat.le_trans hQ hE56.size
                  have hX := hX.thenNo hE56
                  have hC := hC.thenNo hE56
                  have hqn2 : (∀ x, OwnB q2 x → w.heap.size ≤ x) := fun x hx => Nat.le_trans hX0.size (hn2 x hx)
                  have hb5o := hb5
                  refine wd_l rfl (st_stW (l' := [.slice q1 (textsR (rows[i]).l).length k1]) I_ok hb5 rfl rfl rfl rfl OneC.h fun w57 hb5 hE57 hs57 => ⟨hC.thenNew hE57 frhC5, ?_⟩)
                  have hC := hC.thenNew hE57 frhC5
                  have hb4 := hb4.ext1 hE57 ne4_5
                  have hb6 := hb6.ext1 hE57 ne6_5
                  have hq1 := hq1.extTy hE57 hb5o (by decide)
                  have hq2 := hq2.extTy hE57 hb5o (by decide)
                  have hQ := Nat.le_trans hQ hE57.size
                  have hX := hX.thenNew hE57 fr5
                  refine wd_sw ?_
                  have hb6o := hb6
                  refine wb rfl (st_stW (l' := [.slice q2 (textsR (rows[i]).l).length k2]) I_ok hb6 rfl rfl rfl rfl OneC.h fun w58 hb6 hE58 hs58 => ?_)
                  have hb4 := hb4.ext1 hE58 ne4_6
                  have hb5 := hb5.ext1 hE58 ne6_5.symm
                  have hq1 := hq1.extTy hE58 hb6o (by decide)
                  have hq2 := hq2.extTy hE58 hb6o (by decide)
                  have hQ := Nat.le_trans hQ hE58.size
                  have hX := hX.thenNew hE58 fr6
                  refine wb_nil ?_
                  exact f_cut (((q1, k1), (q2, k2)), b5, b6) rfl ⟨⟨hq1, hqn1, hq2, hqn2⟩, hb4, hb5, frhQ5, hb6, frhQ6, ne6_5.symm, hX⟩
              · refine st_al I_ok rfl fun b5 w59 hn5 hb5 hE59 => ⟨hC.thenNo hE59, ?_⟩
                have ne4_5 : b4 ≠ b5 := Nat.ne_of_lt (Nat.lt_of_lt_of_le hb4.lt hn5)
                have ne6_5 : b6 ≠ b5 := Nat.ne_of_lt (Nat.lt_of_lt_of_le hb6.lt hn5)
                have fr5 := Nat.le_trans hX.size hn5
                have frhQ5 := Nat.le_trans hQ hn5
                have frhC5 := Nat.le_trans hC.size hn5
                have hb4 := hb4.extNo hE59
                have hb6 := hb6.extNo hE59
                have hQ := Nat.le_trans hQ hE59.size
                have hX := hX.thenNo hE59
                have hC := hC.thenNo hE59
                refine wx_plan [(1, false), (3, false), (6, false)] 0 rfl (by kernel_rfl) ?_
                have hX0 := hX
                refine wd_l rfl (st_call Tryd.call25 rfl rfl rfl rfl rfl rfl (texts2_calls w59 (hxi.extNo hX)) fun v60 w60 hr60 => ⟨(by obtain ⟨q1, k1, rfl, hq1, hn1, hE60⟩ := hr60; exact hC.thenNo hE60), ?_⟩)
                obtain ⟨q1, k1, rfl, hq1, hn1, hE60⟩ := hr60
                have hb4 := hb4.extNo hE60
                have hb6 := hb6.extNo hE60
                have hb5 := hb5.extNo hE60
                have hQ := Nat.le_trans hQ hE60.size
                have hX := hX.thenNo hE60
                have hC := hC.thenNo hE60
                have hqn1 : (∀ x, OwnB q1 x → w.heap.size ≤ x) := fun x hx => Nat.le_trans hX0.size (hn1 x hx)
                have hX0 := hX
                refine wd_l rfl (st_call Tryd.call25 rfl rfl rfl rfl rfl rfl (texts2_calls w60 (hxi.extNo hX)) fun v61 w61 hr61 => ⟨(by obtain ⟨q2, k2, rfl, hq2, hn2, hE61⟩ := hr61; exact hC.thenNo hE61), ?_⟩)
                obtain ⟨q2, k2, rfl, hq2, hn2, hE61⟩ := hr61
                have hb4 := hb4.extNo hE61
                have hb6 := hb6.extNo hE61
                have hb5 := hb5.extNo hE61
                have hq1 := hq1.ext hE61 fun _ _ => id
                have hQ := Nat.le_trans hQ hE61.size
                have hX := hX.thenNo hE61
                have hC := hC.thenNo hE61
                have hqn2 : (∀ x, OwnB q2 x → w.heap.size ≤ x) := fun x hx => Nat.le_trans hX0.size (hn2 x hx)
                have hb5o := hb5
                refine wd_l rfl (st_stW (l' := [.slice q1 (textsR (rows[i]).l).length k1]) I_ok hb5 rfl rfl rfl rfl OneC.h fun w62 hb5 hE62 hs62 => ⟨hC.thenNew hE62 frhC5, ?_⟩)
                have hC := hC.thenNew hE62 frhC5
                have hb4 := hb4.ext1 hE62 ne4_5
                have hb6 := hb6.ext1 hE62 ne6_5
                have hq1 := hq1.extTy hE62 hb5o (by decide)
                have hq2 := hq2.extTy hE62 hb5o (by decide)
                have hQ := Nat.le_trans hQ hE62.size
                have hX := hX.thenNew hE62 fr5
                refine wd_sw ?_
                have hb6o := hb6
                refine wb rfl (st_stW (l' := [.slice q2 (textsR (rows[i]).l).length k2]) I_ok hb6 rfl rfl rfl rfl OneC.h fun w63 hb6 hE63 hs63 => ?_)
                have hb4 := hb4.ext1 hE63 ne4_6
                have hb5 := hb5.ext1 hE63 ne6_5.symm
                have hq1 := hq1.extTy hE63 hb6o (by decide)
                have hq2 := hq2.extTy hE63 hb6o (by decide)
                have hQ := Nat.le_trans hQ hE63.size
                have hX := hX.thenNew hE63 fr6
                refine wb_nil ?_
                exact f_cut (((q1, k1), (q2, k2)), b5, b6) rfl ⟨⟨hq1, hqn1, hq2, hqn2⟩, hb4, hb5, frhQ5, hb6, frhQ6, ne6_5.symm, hX⟩
          rintro ⟨⟨⟨q1, k1⟩, ⟨q2, k2⟩⟩, b5, b6⟩ w64 ⟨⟨hq1, hqn1, hq2, hqn2⟩, hb4, hb5, hn5, hb6, hn6, ne5_6, hX⟩
          try dsimp only
          dsimp only at hb5 hn5 hb6 hn6 ne5_6
          have ne4_5 : b4 ≠ b5 := Nat.ne_of_lt (Nat.lt_of_lt_of_le hltc4 hn5)
          have fr5 := Nat.le_trans hszc hn5
          have ne4_6 : b4 ≠ b6 := Nat.ne_of_lt (Nat.lt_of_lt_of_le hltc4 hn6)
          have fr6 := Nat.le_trans hszc hn6
          dsimp only at hq1 hqn1 hq2 hqn2 hb5 hb6
          refine c_seq (c_region (wl (st_ldB I_ok hb5 rfl rfl (wl (st_call Tryd.call26 rfl rfl rfl rfl rfl rfl (objParts_calls w64 hq1.sl (by omega) (fun r hr => by have := (hTa r hr).1; omega) (hr.extNo hX)) fun v65 w65 hr65 => ?_)))))
          obtain ⟨pq, pk, lp, lc, rfl, hp, hpn, hlfc, hln, hE65⟩ := hr65
          have hb4 := hb4.extNo hE65
          have hb5 := hb5.extNo hE65
          have hb6 := hb6.extNo hE65
          have hq1 := hq1.ext hE65 fun _ _ => id
          have hq2 := hq2.ext hE65 fun _ _ => id
          have hX := hX.thenNo hE65
          refine wl_p I_ok rfl (wl_nil (f_then (c_seq (c_seq (c_region (wl (st_ldB I_ok hb5 rfl rfl (wl (st_ldB I_ok hb6 rfl rfl ?_)))))))))
          refine wl (st_call Tryd.call27 rfl rfl rfl rfl rfl rfl (same5_calls w65 hq1.sl hq2.sl (by omega) hTi hTi) fun v66 w66 hr66 => ?_)
          obtain ⟨rfl, hE66⟩ := hr66
          have hb4 := hb4.extNo hE66
          have hb5 := hb5.extNo hE66
          have hb6 := hb6.extNo hE66
          have hq1 := hq1.ext hE66 fun _ _ => id
          have hq2 := hq2.ext hE66 fun _ _ => id
          have hp := hp.ext hE66 fun _ _ => id
          have hlfc := fun h => (hlfc h).ext hE66 fun _ _ => id
          have hX := hX.thenNo hE66
          refine wl_p I_ok rfl (wl_nil (f_then (c_cond rfl (fun hc => ?_) (fun hc => ?_))))
          · exact absurd hc (by simp)
          · refine c_skip ?_
            refine f_then (c_seq (c_seq (c_region (wl (st_ldB I_ok hb6 rfl rfl (wl (st_call Tryd.call28 rfl rfl rfl rfl rfl rfl (right5_calls w66 hq2.sl (by omega) (fun r hr => by have := (hTa r hr).1; omega)) fun v67 w67 hr67 => ?_)))))))
            obtain ⟨rfl, hE67⟩ := hr67
            have hb4 := hb4.extNo hE67
            have hb5 := hb5.extNo hE67
            have hb6 := hb6.extNo hE67
            have hq1 := hq1.ext hE67 fun _ _ => id
            have hq2 := hq2.ext hE67 fun _ _ => id
            have hp := hp.ext hE67 fun _ _ => id
            have hlfc := fun h => (hlfc h).ext hE67 fun _ _ => id
            have hX := hX.thenNo hE67
            refine wl_p I_ok rfl (wl_nil (f_then (c_cond rfl (fun hc => ?_) (fun hc => ?_))))
            · have h1 : ¬ RowsOk (textsR (rows[i]).l) := by simpa using hc
              have e0 := partsE0 h1
              rw [e0, partsL0 e0 (by decide)]
              refine c_seq ?_
              refine c_cutK (α := Bool) [14, 15, 16] rfl (fun z => [(45, .bool z)]) (fun z u => (z = false) ∧ Blk u b5 58 ([.slice q1 (textsR (rows[i]).l).length k1]) ∧ Blk u b6 58 ([.slice q2 (textsR (rows[i]).l).length k2]) ∧ Ext No w u) ?_ ?_
              · refine c_region ?_
                refine wl_p I_ok rfl (wl_caseD 41 rfl (fun hg => ?_) (fun hg => ?_))
                · first | exact absurd rfl hg | exact absurd trivial hg
                · refine wl_pk I_ok 4 rfl ?_
                  refine wl_nil ?_
                  exact f_cut (_) rfl ⟨rfl, hb5, hb6, hX⟩
              rintro z w68 ⟨rfl, hb5, hb6, hX⟩
              refine c_condF rfl (c_skip (f_then (c_exit ?_)))
              exact f_thenE (f_blockE (f_cut (()) rfl ⟨h8, hX⟩))
            · have h1 : RowsOk (textsR (rows[i]).l) := by simpa using hc
              refine c_skip (f_then (c_seq (c_region (wl (st_ldB I_ok hb6 rfl rfl (wl (st_call Tryd.call29 rfl rfl rfl rfl rfl rfl (parts6L_calls w67 h1 hq2.sl) fun v69 w69 hr69 => ?_)))))))
              obtain ⟨wq, wk, lp2, lc2, rfl, hw, hwn, hlf2, hln2, hE69⟩ := hr69
              have hb4 := hb4.extNo hE69
              have hb5 := hb5.extNo hE69
              have hb6 := hb6.extNo hE69
              have hq1 := hq1.ext hE69 fun _ _ => id
              have hq2 := hq2.ext hE69 fun _ _ => id
              have hp := hp.ext hE69 fun _ _ => id
              have hlfc := fun h => (hlfc h).ext hE69 fun _ _ => id
              have hX := hX.thenNo hE69
              refine wl_p I_ok rfl (wl_nil (f_then (c_seq (c_seq (c_region (wl_p I_ok rfl ?_))))))
              have hwl : (refPL (textsR (rows[i]).l) (lfP lp2 lc2)).length < 1000000000 := by
                unfold refPL
                split
                · rw [refP_len]; have := refT_len (textsR (rows[i]).l); omega
                · decide
              refine wl (st_call Tryd.call30 rfl rfl rfl rfl rfl rfl (twins6_calls w69 hw.sl (fun h hh => by by_cases h2 : ObjOk (treeOf (textsR (rows[i]).l)); (rw [refPL, if_pos h2] at hh; exact refP_in h1 hlf2 h hh); (rw [refPL, if_neg h2] at hh; cases hh)) hw.cap hwl) fun v70 w70 hr70 => ?_)
              obtain ⟨tb, rfl, htb, hE70⟩ := hr70
              have hb4 := hb4.extNo hE70
              have hb5 := hb5.extNo hE70
              have hb6 := hb6.extNo hE70
              have hq1 := hq1.ext hE70 fun _ _ => id
              have hq2 := hq2.ext hE70 fun _ _ => id
              have hp := hp.ext hE70 fun _ _ => id
              have hlfc := fun h => (hlfc h).ext hE70 fun _ _ => id
              have hw := hw.ext hE70 fun _ _ => id
              have hlf2 := hlf2.ext hE70 fun _ _ => id
              have hX := hX.thenNo hE70
              refine wl_p I_ok rfl (wl_nil (f_then ?_))
              refine c_cutK (α := Bool) [7, 8, 9, 10, 14, 15, 16] rfl (fun z => [(55, .bool z)]) (fun z u => ((z = true ↔ tb = true ∨ (refPL (textsR (rows[i]).l) (lfP lp2 lc2)).length = 0) ∧ Own u pq (partsL (textsR (rows[i]).l) lp lc).length pk 68 105 ((partsL (textsR (rows[i]).l) lp lc).flatMap heldC) ∧ (partsE (textsR (rows[i]).l) = 0 → Own u lp (leavesOf (textsR (rows[i]).l)).length lc 76 33 ((leavesOf (textsR (rows[i]).l)).flatMap LeafD.cells)) ∧ Own u wq (refPL (textsR (rows[i]).l) (lfP lp2 lc2)).length wk 68 105 ((refPL (textsR (rows[i]).l) (lfP lp2 lc2)).flatMap heldC) ∧ Own u lp2 (leavesOf (textsR (rows[i]).l)).length lc2 76 33 ((leavesOf (textsR (rows[i]).l)).flatMap LeafD.cells)) ∧ Blk u b5 58 ([.slice q1 (textsR (rows[i]).l).length k1]) ∧ Blk u b6 58 ([.slice q2 (textsR (rows[i]).l).length k2]) ∧ Ext No w u) ?_ ?_
              · refine c_region ?_
                refine wl_p I_ok rfl (wl_case 51 rfl (fun hg => ?_) (fun hg => ?_))
                · refine wl_pk I_ok 4 rfl ?_
                  refine wl_nil ?_
                  exact f_cut (true) rfl ⟨⟨iff_of_true rfl (.inl hg), hp, hlfc, hw, hlf2⟩, hb5, hb6, hX⟩
                · refine wl_pk I_ok 4 rfl ?_
                  refine wl_nil ?_
                  exact f_cut (_) rfl ⟨⟨by rw [decide_eq_true_eq]; exact ⟨fun h => .inr (by omega), fun h => h.elim (fun h => by rw [hg] at h; cases h) fun h => by omega⟩, hp, hlfc, hw, hlf2⟩, hb5, hb6, hX⟩
              rintro z w71 ⟨⟨hz, hp, hlfc, hw, hlf2⟩, hb5, hb6, hX⟩
              refine c_cond rfl (fun hc => ?_) (fun hc => ?_)
              · have hor := hz.1 hc
                refine c_seq ?_
                refine c_cutK (α := Bool) [14, 15, 16] rfl (fun z => [(73, .bool z)]) (fun z u => (z = false) ∧ Blk u b5 58 ([.slice q1 (textsR (rows[i]).l).length k1]) ∧ Blk u b6 58 ([.slice q2 (textsR (rows[i]).l).length k2]) ∧ Ext No w u) ?_ ?_
                · refine c_region ?_
                  refine wl_p I_ok rfl (wl_case 57 rfl (fun hg => ?_) (fun hg => ?_))
                  · have htt : tb = true := hg
                    subst htt
                    have e1 := partsTwin h1 (htb.1 rfl)
                    rw [e1, partsL0 e1 (by decide)]
                    refine wl_pk I_ok 4 rfl (wl_caseD 61 rfl (fun hg => ?_) (fun hg => ?_))
                    · first | exact absurd rfl hg | exact absurd trivial hg
                    · refine wl_pk I_ok 3 rfl ?_
                      refine wl_case 64 rfl (fun hg => ?_) (fun hg => ?_)
                      · cases hg
                      · refine wl_pk I_ok 9 rfl ?_
                        refine wl_nil ?_
                        exact f_cut (_) rfl ⟨rfl, hb5, hb6, hX⟩
                  · have htt : tb = false := hg
                    subst htt
                    have e1 := partsFull h1 (hor.resolve_left (by decide))
                    rw [e1, partsL0 e1 (by decide)]
                    refine wl_pk I_ok 7 rfl (wl_case 64 rfl (fun hg => ?_) (fun hg => ?_))
                    · refine wl_pk I_ok 5 rfl ?_
                      refine wl_caseD 69 rfl (fun hg => ?_) (fun hg => ?_)
                      · first | exact absurd rfl hg | exact absurd trivial hg
                      · refine wl_pk I_ok 4 rfl ?_
                        refine wl_nil ?_
                        exact f_cut (_) rfl ⟨rfl, hb5, hb6, hX⟩
                    · cases hg
                rintro z w72 ⟨rfl, hb5, hb6, hX⟩
                refine c_condF rfl (c_skip (f_then (c_exit ?_)))
                exact f_thenE (f_blockE (f_cut (()) rfl ⟨h8, hX⟩))
              · have hno : ¬ (tb = true ∨ (refPL (textsR (rows[i]).l) (lfP lp2 lc2)).length = 0) := fun h => by rw [hz.2 h] at hc; cases hc
                obtain ⟨h2, e0, eP⟩ := partsSame h1 (fun h => hno (.inl (htb.2 h))) (fun h => hno (.inr h))
                have eL : (partsL (textsR (rows[i]).l) lp lc) = (refP (textsR (rows[i]).l) (lfP lp lc)) := by rw [partsL1 e0, eP]
                have eR : (refPL (textsR (rows[i]).l) (lfP lp2 lc2)) = (refP (textsR (rows[i]).l) (lfP lp2 lc2)) := if_pos h2
                have hlf := hlfc e0
                rw [eL] at hp
                rw [eR] at hw
                rw [e0, eL, eR]
                refine c_skip (f_then (c_seq ?_))
                refine c_cutK (α := Bool) [7, 9, 14, 15, 16] rfl (fun z => [(82, .bool z)]) (fun z u => (z = false ∧ Own u pq (refP (textsR (rows[i]).l) (lfP lp lc)).length pk 68 105 ((refP (textsR (rows[i]).l) (lfP lp lc)).flatMap heldC) ∧ Own u lp (leavesOf (textsR (rows[i]).l)).length lc 76 33 ((leavesOf (textsR (rows[i]).l)).flatMap LeafD.cells) ∧ Own u wq (refP (textsR (rows[i]).l) (lfP lp2 lc2)).length wk 68 105 ((refP (textsR (rows[i]).l) (lfP lp2 lc2)).flatMap heldC) ∧ Own u lp2 (leavesOf (textsR (rows[i]).l)).length lc2 76 33 ((leavesOf (textsR (rows[i]).l)).flatMap LeafD.cells)) ∧ Blk u b5 58 ([.slice q1 (textsR (rows[i]).l).length k1]) ∧ Blk u b6 58 ([.slice q2 (textsR (rows[i]).l).length k2]) ∧ Ext No w u) ?_ ?_
                · refine c_region ?_
                  refine wl_p I_ok rfl (wl_caseD 76 rfl (fun hg => ?_) (fun hg => ?_))
                  · first | exact absurd rfl hg | exact absurd trivial hg
                  · refine wl_pk I_ok 6 rfl ?_
                    refine wl_nil ?_
                    exact f_cut (_) rfl ⟨⟨by simp [refP_len], hp, hlf, hw, hlf2⟩, hb5, hb6, hX⟩
                rintro z w73 ⟨⟨rfl, hp, hlf, hw, hlf2⟩, hb5, hb6, hX⟩
                refine c_condF rfl (c_skip (f_then (c_seq (c_region (wl_p I_ok rfl (wl_nil (f_then (c_block ?_))))))))
                refine c_loopK (α := Nat) [7, 9, 14, 15, 16, 84] rfl (fun z => [(85, .int .i64 (z : Int))]) (fun z u => (z ≤ (refP (textsR (rows[i]).l) (lfP lp lc)).length ∧ Own u pq (refP (textsR (rows[i]).l) (lfP lp lc)).length pk 68 105 ((refP (textsR (rows[i]).l) (lfP lp lc)).flatMap heldC) ∧ Own u lp (leavesOf (textsR (rows[i]).l)).length lc 76 33 ((leavesOf (textsR (rows[i]).l)).flatMap LeafD.cells) ∧ Own u wq (refP (textsR (rows[i]).l) (lfP lp2 lc2)).length wk 68 105 ((refP (textsR (rows[i]).l) (lfP lp2 lc2)).flatMap heldC) ∧ Own u lp2 (leavesOf (textsR (rows[i]).l)).length lc2 76 33 ((leavesOf (textsR (rows[i]).l)).flatMap LeafD.cells)) ∧ Blk u b5 58 ([.slice q1 (textsR (rows[i]).l).length k1]) ∧ Blk u b6 58 ([.slice q2 (textsR (rows[i]).l).length k2]) ∧ Ext No w u) (fun z u => (refP (textsR (rows[i]).l) (lfP lp lc)).length - z) (0) rfl ⟨⟨Nat.zero_le _, hp, hlf, hw, hlf2⟩, hb5, hb6, hX⟩ ?_
                rintro k w74 ⟨⟨hk, hp, hlf, hw, hlf2⟩, hb5, hb6, hX⟩
                refine c_seq (c_region (wl_p I_ok rfl (wl_nil (f_then (c_seq (c_if rfl (fun hc => ?_) (fun hc => ?_)))))))
                · have hk : k < (refP (textsR (rows[i]).l) (lfP lp lc)).length := by omega
                  have hk2 : k < (refP (textsR (rows[i]).l) (lfP lp2 lc2)).length := by rw [refP_len] at hk ⊢; exact hk
                  have hkl : (refP (textsR (rows[i]).l) (lfP lp lc)).length ≤ 40 := by rw [refP_len]; have := refT_len (textsR (rows[i]).l); omega
                  obtain ⟨pb, poff, hpe, hps⟩ := hp.sl.rowAll (fun h hh => (refP_in h1 hlf h hh).c) (by omega)
                  obtain ⟨wb, woff, hwe, hws⟩ := hw.sl.rowAll (fun h hh => (refP_in h1 hlf2 h hh).c) (by omega)
                  rw [hpe] at hp ⊢
                  rw [hwe] at hw ⊢
                  have hrp := hps k hk
                  have hrw := hws k hk2
                  have hip := refP_in h1 hlf _ (List.getElem_mem hk)
                  have hiw := refP_in h1 hlf2 _ (List.getElem_mem hk2)
                  have heq := refP_eq hk hk2
                  refine c_skip (f_then (c_seq (c_block (c_seq (c_region (wl_p I_ok rfl (wl_nil (f_then ?_))))))))
                  refine c_cutK (α := Bool) [7, 9, 14, 15, 16, 84, 85] rfl (fun z => [(112, .bool z)]) (fun z u => (z = false ∧ Own u (some ⟨pb, poff, none⟩) (refP (textsR (rows[i]).l) (lfP lp lc)).length pk 68 105 ((refP (textsR (rows[i]).l) (lfP lp lc)).flatMap heldC) ∧ Own u lp (leavesOf (textsR (rows[i]).l)).length lc 76 33 ((leavesOf (textsR (rows[i]).l)).flatMap LeafD.cells) ∧ Own u (some ⟨wb, woff, none⟩) (refP (textsR (rows[i]).l) (lfP lp2 lc2)).length wk 68 105 ((refP (textsR (rows[i]).l) (lfP lp2 lc2)).flatMap heldC) ∧ Own u lp2 (leavesOf (textsR (rows[i]).l)).length lc2 76 33 ((leavesOf (textsR (rows[i]).l)).flatMap LeafD.cells)) ∧ Blk u b5 58 ([.slice q1 (textsR (rows[i]).l).length k1]) ∧ Blk u b6 58 ([.slice q2 (textsR (rows[i]).l).length k2]) ∧ Ext No w u) ?_ ?_
                  · refine c_draw rfl 25 [(0, true), (1, true), (2, true), (3, true), (4, true), (5, true), (6, true), (7, true), (8, true), (9, true), (10, true), (11, true), (12, true), (13, true), (14, true), (15, true), (16, true), (17, true), (18, true), (19, true), (20, true), (21, true), (22, false), (23, true), (24, true)] [] (No) (by kernel_rfl) fun w75 hE75 hs75 => ?_
                    have hd5 := hb5
                    have hd6 := hb6
                    have hq1d := hq1
                    have hq2d := hq2
                    have hpd := hp
                    have hlfcd := hlfc
                    have hwd := hw
                    have hlf2d := hlf2
                    have hlfd := hlf
                    have hXd := hX
                    have hb5 := hb5.extNo hE75
                    have hb6 := hb6.extNo hE75
                    have hp := hp.ext hE75 fun _ _ => id
                    have hw := hw.ext hE75 fun _ _ => id
                    have hlf2 := hlf2.ext hE75 fun _ _ => id
                    have hlf := hlf.ext hE75 fun _ _ => id
                    have hX := hX.thenNo hE75
                    have hC : Ext (No) _ w75 := hE75.no
                    refine wd_k I_ok 2 rfl (wd_ix I_ok rfl rfl 105 rfl k rfl hk (poff + k * 105) rfl (wd_k I_ok 1 rfl (wd_ldN I_ok rfl rfl (fun w' hw' => (held_id (hrp.extNo hw'))) (by rw [bytesU_len]; exact hip.id) ?_)))
                    refine wd_k I_ok 2 rfl (wd_ix I_ok rfl rfl 105 rfl k rfl hk2 (woff + k * 105) rfl (wd_k I_ok 1 rfl (wd_ldN I_ok rfl rfl (fun w' hw' => (held_id (hrw.extNo hw'))) (by rw [bytesU_len]; exact hiw.id) ?_)))
                    refine wd_eqK rfl rfl gId 10 (by decide) kId (idForm hip.id) (idForm hiw.id) (idKey hip.id) (idKey hiw.id) idLits_inj ?_
                    simp only [Bool.false_eq_true, if_false]
                    refine wd_k I_ok 1 rfl (wd_caseD 99 rfl (fun hg => ?_) (fun hg => ?_))
                    · exact absurd heq.1 hg
                    · refine wd_k I_ok 2 rfl ?_
                      refine wd_ix I_ok rfl rfl 105 rfl k rfl hk (poff + k * 105) rfl (wd_k I_ok 1 rfl (wd_ldN I_ok rfl rfl (fun w' hw' => (held_obj (hrp.extNo hw') hip.id)) (objC_len hip.o) ?_))
                      refine wd_k I_ok 2 rfl (wd_ix I_ok rfl rfl 105 rfl k rfl hk2 (woff + k * 105) rfl (wd_k I_ok 1 rfl (wd_ldN I_ok rfl rfl (fun w' hw' => (held_obj (hrw.extNo hw') hiw.id)) (objC_len hiw.o) ?_)))
                      refine wd_l rfl (st_call Tryd.call15 rfl rfl rfl rfl rfl rfl (same6_calls w75 hip.o hiw.o (refP_in h1 hlf _ (List.getElem_mem hk)).l (refP_in h1 hlf2 _ (List.getElem_mem hk2)).l hip.sh) fun v76 w76 hr76 => ⟨(by obtain ⟨rfl, hE76⟩ := hr76; exact hC.thenNo hE76), ?_⟩)
                      obtain ⟨rfl, hE76⟩ := hr76
                      have hb5 := hb5.extNo hE76
                      have hb6 := hb6.extNo hE76
                      have hp := hp.ext hE76 fun _ _ => id
                      have hw := hw.ext hE76 fun _ _ => id
                      have hlf2 := hlf2.ext hE76 fun _ _ => id
                      have hlf := hlf.ext hE76 fun _ _ => id
                      have hX := hX.thenNo hE76
                      have hC := hC.thenNo hE76
                      refine wd_k I_ok 2 rfl (wd_sw (wb_nil ?_))
                      exact f_cut (_) rfl ⟨⟨by rw [decide_eq_true heq.2]; rfl, hp, hlf, hw, hlf2⟩, hb5, hb6, hX⟩
                  rintro z w77 ⟨⟨rfl, hp, hlf, hw, hlf2⟩, hb5, hb6, hX⟩
                  refine c_condF rfl (c_skip (f_blockN (f_then (c_region (wl_p I_ok rfl ?_)))))
                  rw [IntWalk.i64_in _ (by omega)]
                  refine wl_nil ?_
                  exact f_round (k + 1) rfl ⟨⟨hk, hp, hlf, hw, hlf2⟩, hb5, hb6, hX⟩ (by first | omega | (dsimp only; omega))
                · refine c_exit ?_
                  exact f_thenE (f_thenE (f_blockE (f_blockN (f_cut (()) rfl ⟨h8, hX⟩))))
      rintro _ w78 ⟨h8, hX⟩
      refine c_region (wl_p I_ok rfl ?_)
      rw [IntWalk.i64_in _ (by omega)]
      refine wl_nil ?_
      exact f_round (i + 1) rfl ⟨⟨hi, h8⟩, hX⟩ (by first | omega | (dsimp only; omega))
    · refine c_exit ?_
      exact f_thenE (f_thenE (f_blockE (f_cut (()) rfl ⟨trivial, hX⟩)))
  rintro _ w79 ⟨_, hX⟩
  refine c_seq (c_region (wl_p I_ok rfl (wl_nil (f_then (c_ret (f_ret1 rfl rfl ?_))))))
  exact ⟨rfl, hX⟩
end Go.Proofs.YtjghckniloikgaaDoor
