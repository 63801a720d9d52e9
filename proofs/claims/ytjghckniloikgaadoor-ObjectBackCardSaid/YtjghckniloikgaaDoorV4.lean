/- ObjectEncodes -/
import Derived.Test.YtjghckniloikgaaDoorV3
namespace Go.Proofs.YtjghckniloikgaaDoor
open Go.Vc
structure ObjA where
  o : ObjD
  a : ObjP
def ObjA.cell (r : ObjA) : List Value := objC r.o r.a
theorem ObjNew.extF {W0 w w' : World} {o : ObjD} {a : ObjP} (h : ObjNew W0 w o a) {b : Nat} {L : List Value} (hE : Ext (One b) w w') (hb : Blk w b 26 L) (hne : ∀ x, OwnB a.pp x → x ≠ b) : ObjNew W0 w' o a :=
  ⟨h.ol.extTy hE hb (by decide), h.op.ext hE fun x hx e => hne x hx e, h.or.extTy hE hb (by decide), h.nl, h.np, h.nr⟩
theorem objNo {x : ObjD} (h : ¬ ObjOk x) : encB x = [] ∧ idB x = idZ ∧ linksB x = [] := ⟨if_neg h, if_neg h, if_neg h⟩
theorem objYes {x : ObjD} (h : ObjOk x) : encB x = laidB x ∧ idB x = idOf x ∧ linksB x = linksOf x := ⟨if_pos h, if_pos h, if_pos h⟩
theorem linksOf_in {x : ObjD} (h : ObjIn x) : ∀ r ∈ linksOf x, IdIn r := fun r hr => by
  unfold linksOf at hr
  split at hr
  · obtain ⟨l, hl, rfl⟩ := List.mem_map.1 hr
    exact (h.leaves l hl).2
  · split at hr
    · rcases List.mem_cons.1 hr with rfl | hr
      · exact h.tree
      · exact h.parents r hr
    · cases hr
theorem linksOf_len {x : ObjD} (h : Short x) : (linksOf x).length < 1000000000 + 1 := by
  unfold linksOf
  split
  · rw [List.length_map]; have := h.leaves; omega
  · split
    · rw [List.length_cons]; have := h.parents; omega
    · decide
theorem linksS (x : ObjD) : (linksOf (shortO x)).length ≤ 33 := by
  unfold linksOf
  split
  · rw [List.length_map]; show ((x.leaves.take 33).map cutLeaf).length ≤ 33; rw [List.length_map, List.length_take]; omega
  · split
    · rw [List.length_cons]; show (x.parents.take 4).length + 1 ≤ 33; rw [List.length_take]; omega
    · exact Nat.zero_le _
theorem objectEncodes_calls (w : World) {p : Option Addr} {c : Nat} {rows : List ObjA} (hs : Sl w p rows.length 73 (rows.flatMap ObjA.cell)) (hin : ∀ r ∈ rows, ObjArg w r.o r.a) (hr : Seg w 0 0 (wordsV rootsW)) :
    CallsV Tryd.prog 3 [.slice p rows.length c] w fun v w' => v = .bool true ∧ Ext No w w' := by
  refine calls_enter Tryd.func3 rfl rfl rfl rfl ?_
  have hX := Ext.refl No w
  refine c_seq (c_region (wl_p I_ok rfl (wl_nil (f_then (c_seq (c_seq (c_region (wl (st_call Tryd.call9 rfl rfl rfl rfl rfl rfl (wakes_calls w (hr.extNo hX)) fun v1 w1 hr1 => ?_)))))))))
  obtain ⟨rfl, hE1⟩ := hr1
  have hX := hX.thenNo hE1
  refine wl_p I_ok rfl (wl_nil (f_then (c_condF rfl (c_skip (f_then (c_cutK (α := Unit) [] rfl (fun z => []) (fun z u => (True) ∧ Ext No w u) ?_ ?_))))))
  · refine c_seq ?_
    refine c_region (wl_p I_ok rfl (wl_nil (f_then (c_block ?_))))
    refine c_loopK (α := Nat) [16, 17] rfl (fun z => [(18, .int .i64 (z : Int))]) (fun z u => (z ≤ rows.length ∧ z ≤ 12) ∧ Ext No w u) (fun z u => rows.length - z) (0) rfl ⟨⟨Nat.zero_le _, Nat.zero_le _⟩, hX⟩ ?_
    rintro i w2 ⟨⟨hi, hi12⟩, hX⟩
    refine c_seq (c_region (wl_p I_ok rfl (wl_nil (f_then (c_seq (c_if rfl (fun hc => ?_) (fun hc => ?_)))))))
    · have hi : i < rows.length := by omega
      obtain ⟨qb, qoff, hp, hsq⟩ := hs.rowAll (fun r hr => objC_len (hin r hr).i) (by omega)
      rw [hp]
      have hxi := hin _ (List.getElem_mem hi)
      have hsi : ObjIn (shortO (rows[i]).o) := shortO_in hxi.i
      have hss : Short (shortO (rows[i]).o) := shortO_sh _
      refine c_skip (f_then (c_cutK (α := Unit) [16, 17, 18] rfl (fun z => []) (fun z u => (i < 12) ∧ Ext No w u) ?_ ?_))
      · refine c_block ?_
        refine c_seq (c_region (wl_p I_ok rfl (wl (st_ix I_ok rfl 73 rfl i rfl hi (qoff + i * 73) rfl (wl (st_ldN I_ok rfl ((hsq i hi).extNo hX) (objC_len hxi.i) (wl (st_al I_ok rfl fun b4 w3 hn4 hb4 hE3 => ?_))))))))
        have fr4 := Nat.le_trans hX.size hn4
        have hX := hX.thenNo hE3
        refine wl_p I_ok rfl (wl (st_stW (l' := objC (rows[i]).o (rows[i]).a) I_ok hb4 rfl rfl (objC_len hxi.i) (by rw [objC_len hxi.i]; rfl) OneC.h fun w4 hb4 hE4 hs4 => ?_))
        have hX := hX.thenNew hE4 fr4
        refine wl_nil (f_then (c_seq (c_seq (c_region (wl_p I_ok rfl (wl_nil (f_then (c_if rfl (fun hc => ?_) (fun hc => ?_)))))))))
        · refine c_exit ?_
          exact f_thenE (f_blockE' rfl (f_thenE (f_thenE (f_blockE (f_cut (()) rfl ⟨trivial, hX⟩)))))
        · have h12 : i < 12 := by omega
          refine c_skip (f_then ?_)
          have hltc4 := hb4.lt
          have hszc := hX.size
          refine c_cutK (α := (ObjP × ObjP) × Nat × Nat) [16, 17, 18] rfl (fun z => [(5, .pointer (some ⟨z.2.1, 0, none⟩)), (6, .pointer (some ⟨z.2.2, 0, none⟩))]) (fun z u => (ObjNew w u (shortO (rows[i]).o) z.1.1 ∧ ObjNew w u (shortO (rows[i]).o) z.1.2) ∧ Blk u b4 33 (objC (rows[i]).o (rows[i]).a) ∧ Blk u z.2.1 33 (objC (shortO (rows[i]).o) z.1.1) ∧ w4.heap.size ≤ z.2.1 ∧ Blk u z.2.2 33 (objC (shortO (rows[i]).o) z.1.2) ∧ w4.heap.size ≤ z.2.2 ∧ z.2.1 ≠ z.2.2 ∧ Ext No w u) ?_ ?_
          · have hQ := Nat.le_refl w4.heap.size
            refine c_drawX rfl 7 7 [7] (No) (by kernel_rfl) fun w5 hE5 hs5 => ?_
            have hd4 := hb4
            have hXd := hX
            have hb4 := hb4.extNo hE5
            have hQ := Nat.le_trans hQ hE5.size
            have hX := hX.thenNo hE5
            have hC : Ext No _ w5 := hE5
            refine wx_plan [(0, true), (2, true)] 5 rfl (by kernel_rfl) (wd_ldN I_ok rfl rfl (fun w' hw' => (hd4.extNo hw').seg) (objC_len hxi.i) ?_)
            refine wd_ldN I_ok rfl rfl (fun w' hw' => (hd4.extNo hw').seg) (objC_len hxi.i) ?_
            refine wd_tail rfl (wx_alt [1, 4, 5] rfl (by kernel_rfl) ⟨⟨_, rfl, ?_⟩, ⟨_, rfl, ?_⟩, ⟨_, rfl, ?_⟩, trivial⟩)
            · have hX0 := hX
              refine st_call Tryd.call10 rfl rfl rfl rfl rfl rfl (shortA (hxi.extNo hX)) fun v6 w6 hr6 => ⟨(by obtain ⟨a1, rfl, hN1, hE6⟩ := hr6; exact hC.thenNo hE6), ?_⟩
              obtain ⟨a1, rfl, hN1, hE6⟩ := hr6
              have hb4 := hb4.extNo hE6
              have hQ := Nat.le_trans hQ hE6.size
              have hX := hX.thenNo hE6
              have hC := hC.thenNo hE6
              have hN1 := hN1.older hX0.size
              refine wx_plan [] 4 rfl (by kernel_rfl) (wd_tail rfl (wx_alt [3, 4, 5] rfl (by kernel_rfl) ⟨⟨_, rfl, ?_⟩, ⟨_, rfl, ?_⟩, ⟨_, rfl, ?_⟩, trivial⟩))
              · have hX0 := hX
                refine st_call Tryd.call10 rfl rfl rfl rfl rfl rfl (shortA (hxi.extNo hX)) fun v7 w7 hr7 => ⟨(by obtain ⟨a2, rfl, hN2, hE7⟩ := hr7; exact hC.thenNo hE7), ?_⟩
                obtain ⟨a2, rfl, hN2, hE7⟩ := hr7
                have hb4 := hb4.extNo hE7
                have hN1 := hN1.extNo hE7
                have hQ := Nat.le_trans hQ hE7.size
                have hX := hX.thenNo hE7
                have hC := hC.thenNo hE7
                have hN2 := hN2.older hX0.size
                refine wx_plan [] 3 rfl (by kernel_rfl) (wd_tail rfl (wx_alt [4, 5] rfl (by kernel_rfl) ⟨⟨_, rfl, ?_⟩, ⟨_, rfl, ?_⟩, trivial⟩))
                · refine st_al I_ok rfl fun b5 w8 hn5 hb5 hE8 => ⟨hC.thenNo hE8, ?_⟩
                  have ne4_5 : b4 ≠ b5 := Nat.ne_of_lt (Nat.lt_of_lt_of_le hb4.lt hn5)
                  have fr5 := Nat.le_trans hX.size hn5
                  have frhQ5 := Nat.le_trans hQ hn5
                  have frhC5 := Nat.le_trans hC.size hn5
                  have hb4 := hb4.extNo hE8
                  have hN1 := hN1.extNo hE8
                  have hN2 := hN2.extNo hE8
                  have hQ := Nat.le_trans hQ hE8.size
                  have hX := hX.thenNo hE8
                  have hC := hC.thenNo hE8
                  refine wx_plan [(5, false), (6, false)] 0 rfl (by kernel_rfl) (wd_l rfl (st_al I_ok rfl fun b6 w9 hn6 hb6 hE9 => ⟨hC.thenNo hE9, ?_⟩))
                  have ne4_6 : b4 ≠ b6 := Nat.ne_of_lt (Nat.lt_of_lt_of_le hb4.lt hn6)
                  have ne5_6 : b5 ≠ b6 := Nat.ne_of_lt (Nat.lt_of_lt_of_le hb5.lt hn6)
                  have fr6 := Nat.le_trans hX.size hn6
                  have frhQ6 := Nat.le_trans hQ hn6
                  have frhC6 := Nat.le_trans hC.size hn6
                  have hb4 := hb4.extNo hE9
                  have hb5 := hb5.extNo hE9
                  have hN1 := hN1.extNo hE9
                  have hN2 := hN2.extNo hE9
                  have hQ := Nat.le_trans hQ hE9.size
                  have hX := hX.thenNo hE9
                  have hC := hC.thenNo hE9
                  have hb5o := hb5
                  refine wd_l rfl (st_stW (l' := objC (shortO (rows[i]).o) a1) I_ok hb5 rfl rfl (objC_len hsi) (by rw [(objC_len hsi)]; rfl) OneC.h fun w10 hb5 hE10 hs10 => ⟨hC.thenNew hE10 frhC5, ?_⟩)
                  have hC := hC.thenNew hE10 frhC5
                  have hb4 := hb4.ext1 hE10 ne4_5
                  have hb6 := hb6.ext1 hE10 ne5_6.symm
                  have hN1 := hN1.ext1 hE10 hb5o (by decide) (by decide) (by decide)
                  have hN2 := hN2.ext1 hE10 hb5o (by decide) (by decide) (by decide)
                  have hQ := Nat.le_trans hQ hE10.size
                  have hX := hX.thenNew hE10 fr5
                  refine wd_sw ?_
                  have hb6o := hb6
                  refine wb rfl (st_stW (l' := objC (shortO (rows[i]).o) a2) I_ok hb6 rfl rfl (objC_len hsi) (by rw [(objC_len hsi)]; rfl) OneC.h fun w11 hb6 hE11 hs11 => ?_)
                  have hb4 := hb4.ext1 hE11 ne4_6
                  have hb5 := hb5.ext1 hE11 ne5_6
                  have hN1 := hN1.ext1 hE11 hb6o (by decide) (by decide) (by decide)
                  have hN2 := hN2.ext1 hE11 hb6o (by decide) (by decide) (by decide)
                  have hQ := Nat.le_trans hQ hE11.size
                  have hX := hX.thenNew hE11 fr6
                  refine wb_nil ?_
                  exact f_cut ((a1, a2), b5, b6) rfl ⟨⟨hN1, hN2⟩, hb4, hb5, frhQ5, hb6, frhQ6, ne5_6, hX⟩
                · refine st_al I_ok rfl fun b6 w12 hn6 hb6 hE12 => ⟨hC.thenNo hE12, ?_⟩
                  have ne4_6 : b4 ≠ b6 := Nat.ne_of_lt (Nat.lt_of_lt_of_le hb4.lt hn6)
                  have fr6 := Nat.le_trans hX.size hn6
                  have frhQ6 := Nat.le_trans hQ hn6
                  have frhC6 := Nat.le_trans hC.size hn6
                  have hb4 := hb4.extNo hE12
                  have hN1 := hN1.extNo hE12
                  have hN2 := hN2.extNo hE12
                  have hQ := Nat.le_trans hQ hE12.size
                  have hX := hX.thenNo hE12
                  have hC := hC.thenNo hE12
                  refine wx_plan [(4, false), (6, false)] 0 rfl (by kernel_rfl) (wd_l rfl (st_al I_ok rfl fun b5 w13 hn5 hb5 hE13 => ⟨hC.thenNo hE13, ?_⟩))
                  have ne4_5 : b4 ≠ b5 := Nat.ne_of_lt (Nat.lt_of_lt_of_le hb4.lt hn5)
                  have ne6_5 : b6 ≠ b5 := Nat.ne_of_lt (Nat.lt_of_lt_of_le hb6.lt hn5)
                  have fr5 := Nat.le_trans hX.size hn5
                  have frhQ5 := Nat.le_trans hQ hn5
                  have frhC5 := Nat.le_trans hC.size hn5
                  have hb4 := hb4.extNo hE13
                  have hb6 := hb6.extNo hE13
                  have hN1 := hN1.extNo hE13
                  have hN2 := hN2.extNo hE13
                  have hQ := Nat.le_trans hQ hE13.size
                  have hX := hX.thenNo hE13
                  have hC := hC.thenNo hE13
                  have hb5o := hb5
                  refine wd_l rfl (st_stW (l' := objC (shortO (rows[i]).o) a1) I_ok hb5 rfl rfl (objC_len hsi) (by rw [(objC_len hsi)]; rfl) OneC.h fun w14 hb5 hE14 hs14 => ⟨hC.thenNew hE14 frhC5, ?_⟩)
                  have hC := hC.thenNew hE14 frhC5
                  have hb4 := hb4.ext1 hE14 ne4_5
                  have hb6 := hb6.ext1 hE14 ne6_5
                  have hN1 := hN1.ext1 hE14 hb5o (by decide) (by decide) (by decide)
                  have hN2 := hN2.ext1 hE14 hb5o (by decide) (by decide) (by decide)
                  have hQ := Nat.le_trans hQ hE14.size
                  have hX := hX.thenNew hE14 fr5
                  refine wd_sw ?_
                  have hb6o := hb6
                  refine wb rfl (st_stW (l' := objC (shortO (rows[i]).o) a2) I_ok hb6 rfl rfl (objC_len hsi) (by rw [(objC_len hsi)]; rfl) OneC.h fun w15 hb6 hE15 hs15 => ?_)
                  have hb4 := hb4.ext1 hE15 ne4_6
                  have hb5 := hb5.ext1 hE15 ne6_5.symm
                  have hN1 := hN1.ext1 hE15 hb6o (by decide) (by decide) (by decide)
                  have hN2 := hN2.ext1 hE15 hb6o (by decide) (by decide) (by decide)
                  have hQ := Nat.le_trans hQ hE15.size
                  have hX := hX.thenNew hE15 fr6
                  refine wb_nil ?_
                  exact f_cut ((a1, a2), b5, b6) rfl ⟨⟨hN1, hN2⟩, hb4, hb5, frhQ5, hb6, frhQ6, ne6_5.symm, hX⟩
              · refine st_al I_ok rfl fun b5 w16 hn5 hb5 hE16 => ⟨hC.thenNo hE16, ?_⟩
                have ne4_5 : b4 ≠ b5 := Nat.ne_of_lt (Nat.lt_of_lt_of_le hb4.lt hn5)
                have fr5 := Nat.le_trans hX.size hn5
                have frhQ5 := Nat.le_trans hQ hn5
                have frhC5 := Nat.le_trans hC.size hn5
                have hb4 := hb4.extNo hE16
                have hN1 := hN1.extNo hE16
                have hQ := Nat.le_trans hQ hE16.size
                have hX := hX.thenNo hE16
                have hC := hC.thenNo hE16
                refine wx_plan [] 3 rfl (by kernel_rfl) (wd_tail rfl (wx_alt [3, 5] rfl (by kernel_rfl) ⟨⟨_, rfl, ?_⟩, ⟨_, rfl, ?_⟩, trivial⟩))
                · have hX0 := hX
                  refine st_call Tryd.call10 rfl rfl rfl rfl rfl rfl (shortA (hxi.extNo hX)) fun v17 w17 hr17 => ⟨(by obtain ⟨a2, rfl, hN2, hE17⟩ := hr17; exact hC.thenNo hE17), ?_⟩
                  obtain ⟨a2, rfl, hN2, hE17⟩ := hr17
                  have hb4 := hb4.extNo hE17
                  have hb5 := hb5.extNo hE17
                  have hN1 := hN1.extNo hE17
                  have hQ := Nat.le_trans hQ hE17.size
                  have hX := hX.thenNo hE17
                  have hC := hC.thenNo hE17
                  have hN2 := hN2.older hX0.size
                  refine wx_plan [(5, false), (6, false)] 0 rfl (by kernel_rfl) (wd_l rfl (st_al I_ok rfl fun b6 w18 hn6 hb6 hE18 => ⟨hC.thenNo hE18, ?_⟩))
                  have ne4_6 : b4 ≠ b6 := Nat.ne_of_lt (Nat.lt_of_lt_of_le hb4.lt hn6)
                  have ne5_6 : b5 ≠ b6 := Nat.ne_of_lt (Nat.lt_of_lt_of_le hb5.lt hn6)
                  have fr6 := Nat.le_trans hX.size hn6
                  have frhQ6 := Nat.le_trans hQ hn6
                  have frhC6 := Nat.le_trans hC.size hn6
                  have hb4 := hb4.extNo hE18
                  have hb5 := hb5.extNo hE18
                  have hN1 := hN1.extNo hE18
                  have hN2 := hN2.extNo hE18
                  have hQ := Nat.le_trans hQ hE18.size
                  have hX := hX.thenNo hE18
                  have hC := hC.thenNo hE18
                  have hb5o := hb5
                  refine wd_l rfl (st_stW (l' := objC (shortO (rows[i]).o) a1) I_ok hb5 rfl rfl (objC_len hsi) (by rw [(objC_len hsi)]; rfl) OneC.h fun w19 hb5 hE19 hs19 => ⟨hC.thenNew hE19 frhC5, ?_⟩)
                  have hC := hC.thenNew hE19 frhC5
                  have hb4 := hb4.ext1 hE19 ne4_5
                  have hb6 := hb6.ext1 hE19 ne5_6.symm
                  have hN1 := hN1.ext1 hE19 hb5o (by decide) (by decide) (by decide)
                  have hN2 := hN2.ext1 hE19 hb5o (by decide) (by decide) (by decide)
                  have hQ := Nat.le_trans hQ hE19.size
                  have hX := hX.thenNew hE19 fr5
                  refine wd_sw ?_
                  have hb6o := hb6
                  refine wb rfl (st_stW (l' := objC (shortO (rows[i]).o) a2) I_ok hb6 rfl rfl (objC_len hsi) (by rw [(objC_len hsi)]; rfl) OneC.h fun w20 hb6 hE20 hs20 => ?_)
                  have hb4 := hb4.ext1 hE20 ne4_6
                  have hb5 := hb5.ext1 hE20 ne5_6
                  have hN1 := hN1.ext1 hE20 hb6o (by decide) (by decide) (by decide)
                  have hN2 := hN2.ext1 hE20 hb6o (by decide) (by decide) (by decide)
                  have hQ := Nat.le_trans hQ hE20.size
                  have hX := hX.thenNew hE20 fr6
                  refine wb_nil ?_
                  exact f_cut ((a1, a2), b5, b6) rfl ⟨⟨hN1, hN2⟩, hb4, hb5, frhQ5, hb6, frhQ6, ne5_6, hX⟩
                · refine st_al I_ok rfl fun b6 w21 hn6 hb6 hE21 => ⟨hC.thenNo hE21, ?_⟩
                  have ne4_6 : b4 ≠ b6 := Nat.ne_of_lt (Nat.lt_of_lt_of_le hb4.lt hn6)
                  have ne5_6 : b5 ≠ b6 := Nat.ne_of_lt (Nat.lt_of_lt_of_le hb5.lt hn6)
                  have fr6 := Nat.le_trans hX.size hn6
                  have frhQ6 := Nat.le_trans hQ hn6
                  have frhC6 := Nat.le_trans hC.size hn6
                  have hb4 := hb4.extNo hE21
                  have hb5 := hb5.extNo hE21
                  have hN1 := hN1.extNo hE21
                  have hQ := Nat.le_trans hQ hE21.size
                  have hX := hX.thenNo hE21
                  have hC := hC.thenNo hE21
                  refine wx_plan [(3, false), (6, false)] 0 rfl (by kernel_rfl) ?_
                  have hX0 := hX
                  refine wd_l rfl (st_call Tryd.call10 rfl rfl rfl rfl rfl rfl (shortA (hxi.extNo hX)) fun v22 w22 hr22 => ⟨(by obtain ⟨a2, rfl, hN2, hE22⟩ := hr22; exact hC.thenNo hE22), ?_⟩)
                  obtain ⟨a2, rfl, hN2, hE22⟩ := hr22
                  have hb4 := hb4.extNo hE22
                  have hb5 := hb5.extNo hE22
                  have hb6 := hb6.extNo hE22
                  have hN1 := hN1.extNo hE22
                  have hQ := Nat.le_trans hQ hE22.size
                  have hX := hX.thenNo hE22
                  have hC := hC.thenNo hE22
                  have hN2 := hN2.older hX0.size
                  have hb5o := hb5
                  refine wd_l rfl (st_stW (l' := objC (shortO (rows[i]).o) a1) I_ok hb5 rfl rfl (objC_len hsi) (by rw [(objC_len hsi)]; rfl) OneC.h fun w23 hb5 hE23 hs23 => ⟨hC.thenNew hE23 frhC5, ?_⟩)
                  have hC := hC.thenNew hE23 frhC5
                  have hb4 := hb4.ext1 hE23 ne4_5
                  have hb6 := hb6.ext1 hE23 ne5_6.symm
                  have hN1 := hN1.ext1 hE23 hb5o (by decide) (by decide) (by decide)
                  have hN2 := hN2.ext1 hE23 hb5o (by decide) (by decide) (by decide)
                  have hQ := Nat.le_trans hQ hE23.size
                  have hX := hX.thenNew hE23 fr5
                  refine wd_sw ?_
                  have hb6o := hb6
                  refine wb rfl (st_stW (l' := objC (shortO (rows[i]).o) a2) I_ok hb6 rfl rfl (objC_len hsi) (by rw [(objC_len hsi)]; rfl) OneC.h fun w24 hb6 hE24 hs24 => ?_)
                  have hb4 := hb4.ext1 hE24 ne4_6
                  have hb5 := hb5.ext1 hE24 ne5_6
                  have hN1 := hN1.ext1 hE24 hb6o (by decide) (by decide) (by decide)
                  have hN2 := hN2.ext1 hE24 hb6o (by decide) (by decide) (by decide)
                  have hQ := Nat.le_trans hQ hE24.size
                  have hX := hX.thenNew hE24 fr6
                  refine wb_nil ?_
                  exact f_cut ((a1, a2), b5, b6) rfl ⟨⟨hN1, hN2⟩, hb4, hb5, frhQ5, hb6, frhQ6, ne5_6, hX⟩
              · refine st_al I_ok rfl fun b6 w25 hn6 hb6 hE25 => ⟨hC.thenNo hE25, ?_⟩
                have ne4_6 : b4 ≠ b6 := Nat.ne_of_lt (Nat.lt_of_lt_of_le hb4.lt hn6)
                have fr6 := Nat.le_trans hX.size hn6
                have frhQ6 := Nat.le_trans hQ hn6
                have frhC6 := Nat.le_trans hC.size hn6
                have hb4 := hb4.extNo hE25
                have hN1 := hN1.extNo hE25
                have hQ := Nat.le_trans hQ hE25.size
                have hX := hX.thenNo hE25
                have hC := hC.thenNo hE25
                refine wx_plan [] 3 rfl (by kernel_rfl) (wd_tail rfl (wx_alt [3, 4] rfl (by kernel_rfl) ⟨⟨_, rfl, ?_⟩, ⟨_, rfl, ?_⟩, trivial⟩))
                · have hX0 := hX
                  refine st_call Tryd.call10 rfl rfl rfl rfl rfl rfl (shortA (hxi.extNo hX)) fun v26 w26 hr26 => ⟨(by obtain ⟨a2, rfl, hN2, hE26⟩ := hr26; exact hC.thenNo hE26), ?_⟩
                  obtain ⟨a2, rfl, hN2, hE26⟩ := hr26
                  have hb4 := hb4.extNo hE26
                  have hb6 := hb6.extNo hE26
                  have hN1 := hN1.extNo hE26
                  have hQ := Nat.le_trans hQ hE26.size
                  have hX := hX.thenNo hE26
                  have hC := hC.thenNo hE26
                  have hN2 := hN2.older hX0.size
                  refine wx_plan [(4, false), (6, false)] 0 rfl (by kernel_rfl) (wd_l rfl (st_al I_ok rfl fun b5 w27 hn5 hb5 hE27 => ⟨hC.thenNo hE27, ?_⟩))
                  have ne4_5 : b4 ≠ b5 := Nat.ne_of_lt (Nat.lt_of_lt_of_le hb4.lt hn5)
                  have ne6_5 : b6 ≠ b5 := Nat.ne_of_lt (Nat.lt_of_lt_of_le hb6.lt hn5)
                  have fr5 := Nat.le_trans hX.size hn5
                  have frhQ5 := Nat.le_trans hQ hn5
                  have frhC5 := Nat.le_trans hC.size hn5
                  have hb4 := hb4.extNo hE27
                  have hb6 := hb6.extNo hE27
                  have hN1 := hN1.extNo hE27
                  have hN2 := hN2.extNo hE27
                  have hQ := Nat.le_trans hQ hE27.size
                  have hX := hX.thenNo hE27
                  have hC := hC.thenNo hE27
                  have hb5o := hb5
                  refine wd_l rfl (st_stW (l' := objC (shortO (rows[i]).o) a1) I_ok hb5 rfl rfl (objC_len hsi) (by rw [(objC_len hsi)]; rfl) OneC.h fun w28 hb5 hE28 hs28 => ⟨hC.thenNew hE28 frhC5, ?_⟩)
                  have hC := hC.thenNew hE28 frhC5
                  have hb4 := hb4.ext1 hE28 ne4_5
                  have hb6 := hb6.ext1 hE28 ne6_5
                  have hN1 := hN1.ext1 hE28 hb5o (by decide) (by decide) (by decide)
                  have hN2 := hN2.ext1 hE28 hb5o (by decide) (by decide) (by decide)
                  have hQ := Nat.le_trans hQ hE28.size
                  have hX := hX.thenNew hE28 fr5
                  refine wd_sw ?_
                  have hb6o := hb6
                  refine wb rfl (st_stW (l' := objC (shortO (rows[i]).o) a2) I_ok hb6 rfl rfl (objC_len hsi) (by rw [(objC_len hsi)]; rfl) OneC.h fun w29 hb6 hE29 hs29 => ?_)
                  have hb4 := hb4.ext1 hE29 ne4_6
                  have hb5 := hb5.ext1 hE29 ne6_5.symm
                  have hN1 := hN1.ext1 hE29 hb6o (by decide) (by decide) (by decide)
                  have hN2 := hN2.ext1 hE29 hb6o (by decide) (by decide) (by decide)
                  have hQ := Nat.le_trans hQ hE29.size
                  have hX := hX.thenNew hE29 fr6
                  refine wb_nil ?_
                  exact f_cut ((a1, a2), b5, b6) rfl ⟨⟨hN1, hN2⟩, hb4, hb5, frhQ5, hb6, frhQ6, ne6_5.symm, hX⟩
                · refine st_al I_ok rfl fun b5 w30 hn5 hb5 hE30 => ⟨hC.thenNo hE30, ?_⟩
                  have ne4_5 : b4 ≠ b5 := Nat.ne_of_lt (Nat.lt_of_lt_of_le hb4.lt hn5)
                  have ne6_5 : b6 ≠ b5 := Nat.ne_of_lt (Nat.lt_of_lt_of_le hb6.lt hn5)
                  have fr5 := Nat.le_trans hX.size hn5
                  have frhQ5 := Nat.le_trans hQ hn5
                  have frhC5 := Nat.le_trans hC.size hn5
                  have hb4 := hb4.extNo hE30
                  have hb6 := hb6.extNo hE30
                  have hN1 := hN1.extNo hE30
                  have hQ := Nat.le_trans hQ hE30.size
                  have hX := hX.thenNo hE30
                  have hC := hC.thenNo hE30
                  refine wx_plan [(3, false), (6, false)] 0 rfl (by kernel_rfl) ?_
                  have hX0 := hX
                  refine wd_l rfl (st_call Tryd.call10 rfl rfl rfl rfl rfl rfl (shortA (hxi.extNo hX)) fun v31 w31 hr31 => ⟨(by obtain ⟨a2, rfl, hN2, hE31⟩ := hr31; exact hC.thenNo hE31), ?_⟩)
                  obtain ⟨a2, rfl, hN2, hE31⟩ := hr31
                  have hb4 := hb4.extNo hE31
                  have hb6 := hb6.extNo hE31
                  have hb5 := hb5.extNo hE31
                  have hN1 := hN1.extNo hE31
                  have hQ := Nat.le_trans hQ hE31.size
                  have hX := hX.thenNo hE31
                  have hC := hC.thenNo hE31
                  have hN2 := hN2.older hX0.size
                  have hb5o := hb5
                  refine wd_l rfl (st_stW (l' := objC (shortO (rows[i]).o) a1) I_ok hb5 rfl rfl (objC_len hsi) (by rw [(objC_len hsi)]; rfl) OneC.h fun w32 hb5 hE32 hs32 => ⟨hC.thenNew hE32 frhC5, ?_⟩)
                  have hC := hC.thenNew hE32 frhC5
                  have hb4 := hb4.ext1 hE32 ne4_5
                  have hb6 := hb6.ext1 hE32 ne6_5
                  have hN1 := hN1.ext1 hE32 hb5o (by decide) (by decide) (by decide)
                  have hN2 := hN2.ext1 hE32 hb5o (by decide) (by decide) (by decide)
                  have hQ := Nat.le_trans hQ hE32.size
                  have hX := hX.thenNew hE32 fr5
                  refine wd_sw ?_
                  have hb6o := hb6
                  refine wb rfl (st_stW (l' := objC (shortO (rows[i]).o) a2) I_ok hb6 rfl rfl (objC_len hsi) (by rw [(objC_len hsi)]; rfl) OneC.h fun w33 hb6 hE33 hs33 => ?_)
                  have hb4 := hb4.ext1 hE33 ne4_6
                  have hb5 := hb5.ext1 hE33 ne6_5.symm
                  have hN1 := hN1.ext1 hE33 hb6o (by decide) (by decide) (by decide)
                  have hN2 := hN2.ext1 hE33 hb6o (by decide) (by decide) (by decide)
                  have hQ := Nat.le_trans hQ hE33.size
                  have hX := hX.thenNew hE33 fr6
                  refine wb_nil ?_
                  exact f_cut ((a1, a2), b5, b6) rfl ⟨⟨hN1, hN2⟩, hb4, hb5, frhQ5, hb6, frhQ6, ne6_5.symm, hX⟩
            · refine st_al I_ok rfl fun b5 w34 hn5 hb5 hE34 => ⟨hC.thenNo hE34, ?_⟩
              have ne4_5 : b4 ≠ b5 := Nat.ne_of_lt (Nat.lt_of_lt_of_le hb4.lt hn5)
              have fr5 := Nat.le_trans hX.size hn5
              have frhQ5 := Nat.le_trans hQ hn5
              have frhC5 := Nat.le_trans hC.size hn5
              have hb4 := hb4.extNo hE34
              have hQ := Nat.le_trans hQ hE34.size
              have hX := hX.thenNo hE34
              have hC := hC.thenNo hE34
              refine wx_plan [] 4 rfl (by kernel_rfl) (wd_tail rfl (wx_alt [1, 5] rfl (by kernel_rfl) ⟨⟨_, rfl, ?_⟩, ⟨_, rfl, ?_⟩, trivial⟩))
              · have hX0 := hX
                refine st_call Tryd.call10 rfl rfl rfl rfl rfl rfl (shortA (hxi.extNo hX)) fun v35 w35 hr35 => ⟨(by obtain ⟨a1, rfl, hN1, hE35⟩ := hr35; exact hC.thenNo hE35), ?_⟩
                obtain ⟨a1, rfl, hN1, hE35⟩ := hr35
                have hb4 := hb4.extNo hE35
                have hb5 := hb5.extNo hE35
                have hQ := Nat.le_trans hQ hE35.size
                have hX := hX.thenNo hE35
                have hC := hC.thenNo hE35
                have hN1 := hN1.older hX0.size
                refine wx_plan [] 3 rfl (by kernel_rfl) (wd_tail rfl (wx_alt [3, 5] rfl (by kernel_rfl) ⟨⟨_, rfl, ?_⟩, ⟨_, rfl, ?_⟩, trivial⟩))
                · have hX0 := hX
                  refine st_call Tryd.call10 rfl rfl rfl rfl rfl rfl (shortA (hxi.extNo hX)) fun v36 w36 hr36 => ⟨(by obtain ⟨a2, rfl, hN2, hE36⟩ := hr36; exact hC.thenNo hE36), ?_⟩
                  obtain ⟨a2, rfl, hN2, hE36⟩ := hr36
                  have hb4 := hb4.extNo hE36
                  have hb5 := hb5.extNo hE36
                  have hN1 := hN1.extNo hE36
                  have hQ := Nat.le_trans hQ hE36.size
                  have hX := hX.thenNo hE36
                  have hC := hC.thenNo hE36
                  have hN2 := hN2.older hX0.size
                  refine wx_plan [(5, false), (6, false)] 0 rfl (by kernel_rfl) (wd_l rfl (st_al I_ok rfl fun b6 w37 hn6 hb6 hE37 => ⟨hC.thenNo hE37, ?_⟩))
                  have ne4_6 : b4 ≠ b6 := Nat.ne_of_lt (Nat.lt_of_lt_of_le hb4.lt hn6)
                  have ne5_6 : b5 ≠ b6 := Nat.ne_of_lt (Nat.lt_of_lt_of_le hb5.lt hn6)
                  have fr6 := Nat.le_trans hX.size hn6
                  have frhQ6 := Nat.le_trans hQ hn6
                  have frhC6 := Nat.le_trans hC.size hn6
                  have hb4 := hb4.extNo hE37
                  have hb5 := hb5.extNo hE37
                  have hN1 := hN1.extNo hE37
                  have hN2 := hN2.extNo hE37
                  have hQ := Nat.le_trans hQ hE37.size
                  have hX := hX.thenNo hE37
                  have hC := hC.thenNo hE37
                  have hb5o := hb5
                  refine wd_l rfl (st_stW (l' := objC (shortO (rows[i]).o) a1) I_ok hb5 rfl rfl (objC_len hsi) (by rw [(objC_len hsi)]; rfl) OneC.h fun w38 hb5 hE38 hs38 => ⟨hC.thenNew hE38 frhC5, ?_⟩)
                  have hC := hC.thenNew hE38 frhC5
                  have hb4 := hb4.ext1 hE38 ne4_5
                  have hb6 := hb6.ext1 hE38 ne5_6.symm
                  have hN1 := hN1.ext1 hE38 hb5o (by decide) (by decide) (by decide)
                  have hN2 := hN2.ext1 hE38 hb5o (by decide) (by decide) (by decide)
                  have hQ := Nat.le_trans hQ hE38.size
                  have hX := hX.thenNew hE38 fr5
                  refine wd_sw ?_
                  have hb6o := hb6
                  refine wb rfl (st_stW (l' := objC (shortO (rows[i]).o) a2) I_ok hb6 rfl rfl (objC_len hsi) (by rw [(objC_len hsi)]; rfl) OneC.h fun w39 hb6 hE39 hs39 => ?_)
                  have hb4 := hb4.ext1 hE39 ne4_6
                  have hb5 := hb5.ext1 hE39 ne5_6
                  have hN1 := hN1.ext1 hE39 hb6o (by decide) (by decide) (by decide)
                  have hN2 := hN2.ext1 hE39 hb6o (by decide) (by decide) (by decide)
                  have hQ := Nat.le_trans hQ hE39.size
                  have hX := hX.thenNew hE39 fr6
                  refine wb_nil ?_
                  exact f_cut ((a1, a2), b5, b6) rfl ⟨⟨hN1, hN2⟩, hb4, hb5, frhQ5, hb6, frhQ6, ne5_6, hX⟩
                · refine st_al I_ok rfl fun b6 w40 hn6 hb6 hE40 => ⟨hC.thenNo hE40, ?_⟩
                  have ne4_6 : b4 ≠ b6 := Nat.ne_of_lt (Nat.lt_of_lt_of_le hb4.lt hn6)
                  have ne5_6 : b5 ≠ b6 := Nat.ne_of_lt (Nat.lt_of_lt_of_le hb5.lt hn6)
                  have fr6 := Nat.le_trans hX.size hn6
                  have frhQ6 := Nat.le_trans hQ hn6
                  have frhC6 := Nat.le_trans hC.size hn6
                  have hb4 := hb4.extNo hE40
                  have hb5 := hb5.extNo hE40
                  have hN1 := hN1.extNo hE40
                  have hQ := Nat.le_trans hQ hE40.size
                  have hX := hX.thenNo hE40
                  have hC := hC.thenNo hE40
                  refine wx_plan [(3, false), (6, false)] 0 rfl (by kernel_rfl) ?_
                  have hX0 := hX
                  refine wd_l rfl (st_call Tryd.call10 rfl rfl rfl rfl rfl rfl (shortA (hxi.extNo hX)) fun v41 w41 hr41 => ⟨(by obtain ⟨a2, rfl, hN2, hE41⟩ := hr41; exact hC.thenNo hE41), ?_⟩)
                  obtain ⟨a2, rfl, hN2, hE41⟩ := hr41
                  have hb4 := hb4.extNo hE41
                  have hb5 := hb5.extNo hE41
                  have hb6 := hb6.extNo hE41
                  have hN1 := hN1.extNo hE41
                  have hQ := Nat.le_trans hQ hE41.size
                  have hX := hX.thenNo hE41
                  have hC := hC.thenNo hE41
                  have hN2 := hN2.older hX0.size
                  have hb5o := hb5
                  refine wd_l rfl (st_stW (l' := objC (shortO (rows[i]).o) a1) I_ok hb5 rfl rfl (objC_len hsi) (by rw [(objC_len hsi)]; rfl) OneC.h fun w42 hb5 hE42 hs42 => ⟨hC.thenNew hE42 frhC5, ?_⟩)
                  have hC := hC.thenNew hE42 frhC5
                  have hb4 := hb4.ext1 hE42 ne4_5
                  have hb6 := hb6.ext1 hE42 ne5_6.symm
                  have hN1 := hN1.ext1 hE42 hb5o (by decide) (by decide) (by decide)
                  have hN2 := hN2.ext1 hE42 hb5o (by decide) (by decide) (by decide)
                  have hQ := Nat.le_trans hQ hE42.size
                  have hX := hX.thenNew hE42 fr5
                  refine wd_sw ?_
                  have hb6o := hb6
                  refine wb rfl (st_stW (l' := objC (shortO (rows[i]).o) a2) I_ok hb6 rfl rfl (objC_len hsi) (by rw [(objC_len hsi)]; rfl) OneC.h fun w43 hb6 hE43 hs43 => ?_)
                  have hb4 := hb4.ext1 hE43 ne4_6
                  have hb5 := hb5.ext1 hE43 ne5_6
                  have hN1 := hN1.ext1 hE43 hb6o (by decide) (by decide) (by decide)
                  have hN2 := hN2.ext1 hE43 hb6o (by decide) (by decide) (by decide)
                  have hQ := Nat.le_trans hQ hE43.size
                  have hX := hX.thenNew hE43 fr6
                  refine wb_nil ?_
                  exact f_cut ((a1, a2), b5, b6) rfl ⟨⟨hN1, hN2⟩, hb4, hb5, frhQ5, hb6, frhQ6, ne5_6, hX⟩
              · refine st_al I_ok rfl fun b6 w44 hn6 hb6 hE44 => ⟨hC.thenNo hE44, ?_⟩
                have ne4_6 : b4 ≠ b6 := Nat.ne_of_lt (Nat.lt_of_lt_of_le hb4.lt hn6)
                have ne5_6 : b5 ≠ b6 := Nat.ne_of_lt (Nat.lt_of_lt_of_le hb5.lt hn6)
                have fr6 := Nat.le_trans hX.size hn6
                have frhQ6 := Nat.le_trans hQ hn6
                have frhC6 := Nat.le_trans hC.size hn6
                have hb4 := hb4.extNo hE44
                have hb5 := hb5.extNo hE44
                have hQ := Nat.le_trans hQ hE44.size
                have hX := hX.thenNo hE44
                have hC := hC.thenNo hE44
                refine wx_plan [(1, false), (3, false), (6, false)] 0 rfl (by kernel_rfl) ?_
                have hX0 := hX
                refine wd_l rfl (st_call Tryd.call10 rfl rfl rfl rfl rfl rfl (shortA (hxi.extNo hX)) fun v45 w45 hr45 => ⟨(by obtain ⟨a1, rfl, hN1, hE45⟩ := hr45; exact hC.thenNo hE45), ?_⟩)
                obtain ⟨a1, rfl, hN1, hE45⟩ := hr45
                have hb4 := hb4.extNo hE45
                have hb5 := hb5.extNo hE45
                have hb6 := hb6.extNo hE45
                have hQ := Nat.le_trans hQ hE45.size
                have hX := hX.thenNo hE45
                have hC := hC.thenNo hE45
                have hN1 := hN1.older hX0.size
                have hX0 := hX
                refine wd_l rfl (st_call Tryd.call10 rfl rfl rfl rfl rfl rfl (shortA (hxi.extNo hX)) fun v46 w46 hr46 => ⟨(by obtain ⟨a2, rfl, hN2, hE46⟩ := hr46; exact hC.thenNo hE46), ?_⟩)
                obtain ⟨a2, rfl, hN2, hE46⟩ := hr46
                have hb4 := hb4.extNo hE46
                have hb5 := hb5.extNo hE46
                have hb6 := hb6.extNo hE46
                have hN1 := hN1.extNo hE46
                have hQ := Nat.le_trans hQ hE46.size
                have hX := hX.thenNo hE46
                have hC := hC.thenNo hE46
                have hN2 := hN2.older hX0.size
                have hb5o := hb5
                refine wd_l rfl (st_stW (l' := objC (shortO (rows[i]).o) a1) I_ok hb5 rfl rfl (objC_len hsi) (by rw [(objC_len hsi)]; rfl) OneC.h fun w47 hb5 hE47 hs47 => ⟨hC.thenNew hE47 frhC5, ?_⟩)
                have hC := hC.thenNew hE47 frhC5
                have hb4 := hb4.ext1 hE47 ne4_5
                have hb6 := hb6.ext1 hE47 ne5_6.symm
                have hN1 := hN1.ext1 hE47 hb5o (by decide) (by decide) (by decide)
                have hN2 := hN2.ext1 hE47 hb5o (by decide) (by decide) (by decide)
                have hQ := Nat.le_trans hQ hE47.size
                have hX := hX.thenNew hE47 fr5
                refine wd_sw ?_
                have hb6o := hb6
                refine wb rfl (st_stW (l' := objC (shortO (rows[i]).o) a2) I_ok hb6 rfl rfl (objC_len hsi) (by rw [(objC_len hsi)]; rfl) OneC.h fun w48 hb6 hE48 hs48 => ?_)
                have hb4 := hb4.ext1 hE48 ne4_6
                have hb5 := hb5.ext1 hE48 ne5_6
                have hN1 := hN1.ext1 hE48 hb6o (by decide) (by decide) (by decide)
                have hN2 := hN2.ext1 hE48 hb6o (by decide) (by decide) (by decide)
                have hQ := Nat.le_trans hQ hE48.size
                have hX := hX.thenNew hE48 fr6
                refine wb_nil ?_
                exact f_cut ((a1, a2), b5, b6) rfl ⟨⟨hN1, hN2⟩, hb4, hb5, frhQ5, hb6, frhQ6, ne5_6, hX⟩
            · refine st_al I_ok rfl fun b6 w49 hn6 hb6 hE49 => ⟨hC.thenNo hE49, ?_⟩
              have ne4_6 : b4 ≠ b6 := Nat.ne_of_lt (Nat.lt_of_lt_of_le hb4.lt hn6)
              have fr6 := Nat.le_trans hX.size hn6
              have frhQ6 := Nat.le_trans hQ hn6
              have frhC6 := Nat.le_trans hC.size hn6
              have hb4 := hb4.extNo hE49
              have hQ := Nat.le_trans hQ hE49.size
              have hX := hX.thenNo hE49
              have hC := hC.thenNo hE49
              refine wx_plan [] 4 rfl (by kernel_rfl) (wd_tail rfl (wx_alt [1, 4] rfl (by kernel_rfl) ⟨⟨_, rfl, ?_⟩, ⟨_, rfl, ?_⟩, trivial⟩))
              · have hX0 := hX
                refine st_call Tryd.call10 rfl rfl rfl rfl rfl rfl (shortA (hxi.extNo hX)) fun v50 w50 hr50 => ⟨(by obtain ⟨a1, rfl, hN1, hE50⟩ := hr50; exact hC.thenNo hE50), ?_⟩
                obtain ⟨a1, rfl, hN1, hE50⟩ := hr50
                have hb4 := hb4.extNo hE50
                have hb6 := hb6.extNo hE50
                have hQ := Nat.le_trans hQ hE50.size
                have hX := hX.thenNo hE50
                have hC := hC.thenNo hE50
                have hN1 := hN1.older hX0.size
                refine wx_plan [] 3 rfl (by kernel_rfl) (wd_tail rfl (wx_alt [3, 4] rfl (by kernel_rfl) ⟨⟨_, rfl, ?_⟩, ⟨_, rfl, ?_⟩, trivial⟩))
                · have hX0 := hX
                  refine st_call Tryd.call10 rfl rfl rfl rfl rfl rfl (shortA (hxi.extNo hX)) fun v51 w51 hr51 => ⟨(by obtain ⟨a2, rfl, hN2, hE51⟩ := hr51; exact hC.thenNo hE51), ?_⟩
                  obtain ⟨a2, rfl, hN2, hE51⟩ := hr51
                  have hb4 := hb4.extNo hE51
                  have hb6 := hb6.extNo hE51
                  have hN1 := hN1.extNo hE51
                  have hQ := Nat.le_trans hQ hE51.size
                  have hX := hX.thenNo hE51
                  have hC := hC.thenNo hE51
                  have hN2 := hN2.older hX0.size
                  refine wx_plan [(4, false), (6, false)] 0 rfl (by kernel_rfl) (wd_l rfl (st_al I_ok rfl fun b5 w52 hn5 hb5 hE52 => ⟨hC.thenNo hE52, ?_⟩))
                  have ne4_5 : b4 ≠ b5 := Nat.ne_of_lt (Nat.lt_of_lt_of_le hb4.lt hn5)
                  have ne6_5 : b6 ≠ b5 := Nat.ne_of_lt (Nat.lt_of_lt_of_le hb6.lt hn5)
                  have fr5 := Nat.le_trans hX.size hn5
                  have frhQ5 := Nat.le_trans hQ hn5
                  have frhC5 := Nat.le_trans hC.size hn5
                  have hb4 := hb4.extNo hE52
                  have hb6 := hb6.extNo hE52
                  have hN1 := hN1.extNo hE52
                  have hN2 := hN2.extNo hE52
                  have hQ := Nat.le_trans hQ hE52.size
                  have hX := hX.thenNo hE52
                  have hC := hC.thenNo hE52
                  have hb5o := hb5
                  refine wd_l rfl (st_stW (l' := objC (shortO (rows[i]).o) a1) I_ok hb5 rfl rfl (objC_len hsi) (by rw [(objC_len hsi)]; rfl) OneC.h fun w53 hb5 hE53 hs53 => ⟨hC.thenNew hE53 frhC5, ?_⟩)
                  have hC := hC.thenNew hE53 frhC5
                  have hb4 := hb4.ext1 hE53 ne4_5
                  have hb6 := hb6.ext1 hE53 ne6_5
                  have hN1 := hN1.ext1 hE53 hb5o (by decide) (by decide) (by decide)
                  have hN2 := hN2.ext1 hE53 hb5o (by decide) (by decide) (by decide)
                  have hQ := Nat.le_trans hQ hE53.size
                  have hX := hX.thenNew hE53 fr5
                  refine wd_sw ?_
                  have hb6o := hb6
                  refine wb rfl (st_stW (l' := objC (shortO (rows[i]).o) a2) I_ok hb6 rfl rfl (objC_len hsi) (by rw [(objC_len hsi)]; rfl) OneC.h fun w54 hb6 hE54 hs54 => ?_)
                  have hb4 := hb4.ext1 hE54 ne4_6
                  have hb5 := hb5.ext1 hE54 ne6_5.symm
                  have hN1 := hN1.ext1 hE54 hb6o (by decide) (by decide) (by decide)
                  have hN2 := hN2.ext1 hE54 hb6o (by decide) (by decide) (by decide)
                  have hQ := Nat.le_trans hQ hE54.size
                  have hX := hX.thenNew hE54 fr6
                  refine wb_nil ?_
                  exact f_cut ((a1, a2), b5, b6) rfl ⟨⟨hN1, hN2⟩, hb4, hb5, frhQ5, hb6, frhQ6, ne6_5.symm, hX⟩
                · refine st_al I_ok rfl fun b5 w55 hn5 hb5 hE55 => ⟨hC.thenNo hE55, ?_⟩
                  have ne4_5 : b4 ≠ b5 := Nat.ne_of_lt (Nat.lt_of_lt_of_le hb4.lt hn5)
                  have ne6_5 : b6 ≠ b5 := Nat.ne_of_lt (Nat.lt_of_lt_of_le hb6.lt hn5)
                  have fr5 := Nat.le_trans hX.size hn5
                  have frhQ5 := Nat.le_trans hQ hn5
                  have frhC5 := Nat.le_trans hC.size hn5
                  have hb4 := hb4.extNo hE55
                  have hb6 := hb6.extNo hE55
                  have hN1 := hN1.extNo hE55
                  have hQ := Nat.le_trans hQ hE55.size
                  have hX := hX.thenNo hE55
                  have hC := hC.thenNo hE55
                  refine wx_plan [(3, false), (6, false)] 0 rfl (by kernel_rfl) ?_
                  have hX0 := hX
                  refine wd_l rfl (st_call Tryd.call10 rfl rfl rfl rfl rfl rfl (shortA (hxi.extNo hX)) fun v56 w56 hr56 => ⟨(by obtain ⟨a2, rfl, hN2, hE56⟩ := hr56; exact hC.thenNo hE56), ?_⟩)
                  obtain ⟨a2, rfl, hN2, hE56⟩ := hr56
                  have hb4 := hb4.extNo hE56
                  have hb6 := hb6.extNo hE56
                  have hb5 := hb5.extNo hE56
                  have hN1 := hN1.extNo hE56
                  have hQ := Nat.le_trans hQ hE56.size
                  have hX := hX.thenNo hE56
                  have hC := hC.thenNo hE56
                  have hN2 := hN2.older hX0.size
                  have hb5o := hb5
                  refine wd_l rfl (st_stW (l' := objC (shortO (rows[i]).o) a1) I_ok hb5 rfl rfl (objC_len hsi) (by rw [(objC_len hsi)]; rfl) OneC.h fun w57 hb5 hE57 hs57 => ⟨hC.thenNew hE57 frhC5, ?_⟩)
                  have hC := hC.thenNew hE57 frhC5
                  have hb4 := hb4.ext1 hE57 ne4_5
                  have hb6 := hb6.ext1 hE57 ne6_5
                  have hN1 := hN1.ext1 hE57 hb5o (by decide) (by decide) (by decide)
                  have hN2 := hN2.ext1 hE57 hb5o (by decide) (by decide) (by decide)
                  have hQ := Nat.le_trans hQ hE57.size
                  have hX := hX.thenNew hE57 fr5
                  refine wd_sw ?_
                  have hb6o := hb6
                  refine wb rfl (st_stW (l' := objC (shortO (rows[i]).o) a2) I_ok hb6 rfl rfl (objC_len hsi) (by rw [(objC_len hsi)]; rfl) OneC.h fun w58 hb6 hE58 hs58 => ?_)
                  have hb4 := hb4.ext1 hE58 ne4_6
                  have hb5 := hb5.ext1 hE58 ne6_5.symm
                  have hN1 := hN1.ext1 hE58 hb6o (by decide) (by decide) (by decide)
                  have hN2 := hN2.ext1 hE58 hb6o (by decide) (by decide) (by decide)
                  have hQ := Nat.le_trans hQ hE58.size
                  have hX := hX.thenNew hE58 fr6
                  refine wb_nil ?_
                  exact f_cut ((a1, a2), b5, b6) rfl ⟨⟨hN1, hN2⟩, hb4, hb5, frhQ5, hb6, frhQ6, ne6_5.symm, hX⟩
              · refine st_al I_ok rfl fun b5 w59 hn5 hb5 hE59 => ⟨hC.thenNo hE59, ?_⟩
                have ne4_5 : b4 ≠ b5 := Nat.ne_of_lt (Nat.lt_of_lt_of_le hb4.lt hn5)
                have ne6_5 : b6 ≠ b5 := Nat.ne_of_lt (Nat.lt_of_lt_of_le hb6.lt hn5)
                have fr5 := Nat.le_trans hX.size hn5
                have frhQ5 := Nat.le_trans hQ hn5
                have frhC5 := Nat.le_trans hC.size hn5
                have hb4 := hb4.extNo hE59
                have hb6 := hb6.extNo hE59
                have hQ := Nat.le_trans hQ hE59.size
                have hX := hX.thenNo hE59
                have hC := hC.thenNo hE59
                refine wx_plan [(1, false), (3, false), (6, false)] 0 rfl (by kernel_rfl) ?_
                have hX0 := hX
                refine wd_l rfl (st_call Tryd.call10 rfl rfl rfl rfl rfl rfl (shortA (hxi.extNo hX)) fun v60 w60 hr60 => ⟨(by obtain ⟨a1, rfl, hN1, hE60⟩ := hr60; exact hC.thenNo hE60), ?_⟩)
                obtain ⟨a1, rfl, hN1, hE60⟩ := hr60
                have hb4 := hb4.extNo hE60
                have hb6 := hb6.extNo hE60
                have hb5 := hb5.extNo hE60
                have hQ := Nat.le_trans hQ hE60.size
                have hX := hX.thenNo hE60
                have hC := hC.thenNo hE60
                have hN1 := hN1.older hX0.size
                have hX0 := hX
                refine wd_l rfl (st_call Tryd.call10 rfl rfl rfl rfl rfl rfl (shortA (hxi.extNo hX)) fun v61 w61 hr61 => ⟨(by obtain ⟨a2, rfl, hN2, hE61⟩ := hr61; exact hC.thenNo hE61), ?_⟩)
                obtain ⟨a2, rfl, hN2, hE61⟩ := hr61
                have hb4 := hb4.extNo hE61
                have hb6 := hb6.extNo hE61
                have hb5 := hb5.extNo hE61
                have hN1 := hN1.extNo hE61
                have hQ := Nat.le_trans hQ hE61.size
                have hX := hX.thenNo hE61
                have hC := hC.thenNo hE61
                have hN2 := hN2.older hX0.size
                have hb5o := hb5
                refine wd_l rfl (st_stW (l' := objC (shortO (rows[i]).o) a1) I_ok hb5 rfl rfl (objC_len hsi) (by rw [(objC_len hsi)]; rfl) OneC.h fun w62 hb5 hE62 hs62 => ⟨hC.thenNew hE62 frhC5, ?_⟩)
                have hC := hC.thenNew hE62 frhC5
                have hb4 := hb4.ext1 hE62 ne4_5
                have hb6 := hb6.ext1 hE62 ne6_5
                have hN1 := hN1.ext1 hE62 hb5o (by decide) (by decide) (by decide)
                have hN2 := hN2.ext1 hE62 hb5o (by decide) (by decide) (by decide)
                have hQ := Nat.le_trans hQ hE62.size
                have hX := hX.thenNew hE62 fr5
                refine wd_sw ?_
                have hb6o := hb6
                refine wb rfl (st_stW (l' := objC (shortO (rows[i]).o) a2) I_ok hb6 rfl rfl (objC_len hsi) (by rw [(objC_len hsi)]; rfl) OneC.h fun w63 hb6 hE63 hs63 => ?_)
                have hb4 := hb4.ext1 hE63 ne4_6
                have hb5 := hb5.ext1 hE63 ne6_5.symm
                have hN1 := hN1.ext1 hE63 hb6o (by decide) (by decide) (by decide)
                have hN2 := hN2.ext1 hE63 hb6o (by decide) (by decide) (by decide)
                have hQ := Nat.le_trans hQ hE63.size
                have hX := hX.thenNew hE63 fr6
                refine wb_nil ?_
                exact f_cut ((a1, a2), b5, b6) rfl ⟨⟨hN1, hN2⟩, hb4, hb5, frhQ5, hb6, frhQ6, ne6_5.symm, hX⟩
          rintro ⟨⟨a1, a2⟩, b5, b6⟩ w64 ⟨⟨hN1, hN2⟩, hb4, hb5, hn5, hb6, hn6, ne5_6, hX⟩
          try dsimp only
          dsimp only at hb5 hn5 hb6 hn6 ne5_6
          have ne4_5 : b4 ≠ b5 := Nat.ne_of_lt (Nat.lt_of_lt_of_le hltc4 hn5)
          have fr5 := Nat.le_trans hszc hn5
          have ne4_6 : b4 ≠ b6 := Nat.ne_of_lt (Nat.lt_of_lt_of_le hltc4 hn6)
          have fr6 := Nat.le_trans hszc hn6
          dsimp only at hN1 hN2 hb5 hb6
          refine c_seq (c_region (wl (st_ldB I_ok hb5 rfl (objC_len hsi) (wl (st_call Tryd.call11 rfl rfl rfl rfl rfl rfl (encode_calls w64 hsi hN1.l hss) fun v65 w65 hr65 => ?_)))))
          obtain ⟨q1, k1, rfl, hq1, hqn1, hE65⟩ := hr65
          have hb4 := hb4.extNo hE65
          have hb5 := hb5.extNo hE65
          have hb6 := hb6.extNo hE65
          have hN1 := hN1.extNo hE65
          have hN2 := hN2.extNo hE65
          have hX := hX.thenNo hE65
          refine wl_p I_ok rfl (wl_nil (f_then (c_seq (c_region (wl (st_ldB I_ok hb5 rfl (objC_len hsi) (wl (st_call Tryd.call12 rfl rfl rfl rfl rfl rfl (idObj_calls w65 hsi hN1.l hss (hr.extNo hX)) fun v66 w66 hr66 => ?_))))))))
          obtain ⟨rfl, hE66⟩ := hr66
          have hb4 := hb4.extNo hE66
          have hb5 := hb5.extNo hE66
          have hb6 := hb6.extNo hE66
          have hN1 := hN1.extNo hE66
          have hN2 := hN2.extNo hE66
          have hq1 := hq1.ext hE66 fun _ _ => id
          have hX := hX.thenNo hE66
          refine wl_p I_ok rfl ?_
          have hN10 := hN1
          have hN20 := hN2
          refine wl (st_al I_ok rfl fun b9 w67 hn9 hb9 hE67 => ?_)
          have ne4_9 : b4 ≠ b9 := Nat.ne_of_lt (Nat.lt_of_lt_of_le hb4.lt hn9)
          have ne5_9 : b5 ≠ b9 := Nat.ne_of_lt (Nat.lt_of_lt_of_le hb5.lt hn9)
          have ne6_9 : b6 ≠ b9 := Nat.ne_of_lt (Nat.lt_of_lt_of_le hb6.lt hn9)
          have fr9 := Nat.le_trans hX.size hn9
          have hb4 := hb4.extNo hE67
          have hb5 := hb5.extNo hE67
          have hb6 := hb6.extNo hE67
          have hN1 := hN1.extNo hE67
          have hN2 := hN2.extNo hE67
          have hq1 := hq1.ext hE67 fun _ _ => id
          have hX := hX.thenNo hE67
          have ne91 : ∀ x, OwnB a1.pp x → x ≠ b9 := fun x hx => Nat.ne_of_lt (Nat.lt_of_lt_of_le (hN10.op.lt hx) hn9)
          have ne92 : ∀ x, OwnB a2.pp x → x ≠ b9 := fun x hx => Nat.ne_of_lt (Nat.lt_of_lt_of_le (hN20.op.lt hx) hn9)
          have hb9o := hb9
          refine wl (st_stW (l' := bytesU (idB (shortO (rows[i]).o))) I_ok hb9 rfl rfl (by rw [bytesU_len, idB_len]) (by rw [bytesU_len, idB_len]; rfl) OneC.h fun w68 hb9 hE68 hs68 => ?_)
          have hb4 := hb4.ext1 hE68 ne4_9
          have hb5 := hb5.ext1 hE68 ne5_9
          have hb6 := hb6.ext1 hE68 ne6_9
          have hN1 := hN1.extF hE68 hb9o ne91
          have hN2 := hN2.extF hE68 hb9o ne92
          have hq1 := hq1.extTy hE68 hb9o (by decide)
          have hX := hX.thenNew hE68 fr9
          refine wl_p I_ok rfl (wl_nil (f_then (c_seq (c_draw rfl 6 [(0, true), (2, true), (1, false), (3, false), (4, true), (5, true)] [] (No) (by kernel_rfl) fun w69 hE69 hs69 => ?_))))
          have hd4 := hb4
          have hd5 := hb5
          have hd6 := hb6
          have hd9 := hb9
          have hN1d := hN1
          have hN2d := hN2
          have hq1d := hq1
          have hXd := hX
          have hb4 := hb4.extNo hE69
          have hb5 := hb5.extNo hE69
          have hb6 := hb6.extNo hE69
          have hb9 := hb9.extNo hE69
          have hN1 := hN1.extNo hE69
          have hN2 := hN2.extNo hE69
          have hq1 := hq1.ext hE69 fun _ _ => id
          have hX := hX.thenNo hE69
          have hC : Ext (No) _ w69 := hE69.no
          refine wd_ldN I_ok rfl rfl (fun w' hw' => (hd5.extNo hw').seg) (objC_len hsi) ?_
          refine wd_ldN I_ok rfl rfl (fun w' hw' => (hd5.extNo hw').seg) (objC_len hsi) ?_
          have hX0 := hX
          have hN10 := hN1
          have hN20 := hN2
          have hb9l := hb9.lt
          refine wd_l rfl (st_call Tryd.call13 rfl rfl rfl rfl rfl rfl (links_calls w69 hsi hN1.l hss) fun v70 w70 hr70 => ⟨(by obtain ⟨q2, k2, rfl, hq2, hqn2, hE70⟩ := hr70; exact hC.thenNo hE70), ?_⟩)
          obtain ⟨q2, k2, rfl, hq2, hqn2, hE70⟩ := hr70
          have hb4 := hb4.extNo hE70
          have hb5 := hb5.extNo hE70
          have hb6 := hb6.extNo hE70
          have hb9 := hb9.extNo hE70
          have hN1 := hN1.extNo hE70
          have hN2 := hN2.extNo hE70
          have hq1 := hq1.ext hE70 fun _ _ => id
          have hX := hX.thenNo hE70
          have hC := hC.thenNo hE70
          have dis1 : ∀ x, OwnB a1.pp x → ¬ OwnB q2 x := fun x hx hy => absurd (hqn2 x hy) (Nat.not_le.2 (hN10.op.lt hx))
          have dis2 : ∀ x, OwnB a2.pp x → ¬ OwnB q2 x := fun x hx hy => absurd (hqn2 x hy) (Nat.not_le.2 (hN20.op.lt hx))
          have dis9 : ¬ OwnB q2 b9 := fun hy => absurd (hqn2 _ hy) (Nat.not_le.2 hb9l)
          have hqn2 : (∀ x, OwnB q2 x → w.heap.size ≤ x) := fun x hx => Nat.le_trans hX0.size (hqn2 x hx)
          refine wd_l rfl (st_call Tryd.call14 rfl rfl rfl rfl rfl rfl (checkObj_calls w70 hsi hN1.l hss) fun v71 w71 hr71 => ⟨(by obtain ⟨rfl, hE71⟩ := hr71; exact hC.thenNo hE71), ?_⟩)
          obtain ⟨rfl, hE71⟩ := hr71
          have hb4 := hb4.extNo hE71
          have hb5 := hb5.extNo hE71
          have hb6 := hb6.extNo hE71
          have hb9 := hb9.extNo hE71
          have hN1 := hN1.extNo hE71
          have hN2 := hN2.extNo hE71
          have hq1 := hq1.ext hE71 fun _ _ => id
          have hq2 := hq2.ext hE71 fun _ _ => id
          have hX := hX.thenNo hE71
          have hC := hC.thenNo hE71
          refine wd_k I_ok 2 rfl (wd_sw (wb_nil (f_then (c_seq (c_seq (c_region (wl (st_ldB I_ok hb5 rfl (objC_len hsi) (wl (st_ldB I_ok hb6 rfl (objC_len hsi) ?_))))))))))
          refine wl (st_call Tryd.call15 rfl rfl rfl rfl rfl rfl (same6_calls w71 hsi hsi hN1.l hN2.l hss) fun v72 w72 hr72 => ?_)
          obtain ⟨rfl, hE72⟩ := hr72
          have hb4 := hb4.extNo hE72
          have hb5 := hb5.extNo hE72
          have hb6 := hb6.extNo hE72
          have hb9 := hb9.extNo hE72
          have hN1 := hN1.extNo hE72
          have hN2 := hN2.extNo hE72
          have hq1 := hq1.ext hE72 fun _ _ => id
          have hq2 := hq2.ext hE72 fun _ _ => id
          have hX := hX.thenNo hE72
          refine wl_p I_ok rfl (wl_nil (f_then (c_cond rfl (fun hc => ?_) (fun hc => ?_))))
          · exact absurd hc (by simp)
          · refine c_skip ?_
            refine f_then (c_seq (c_seq (c_region (wl (st_ldB I_ok hb6 rfl (objC_len hsi) (wl (st_call Tryd.call16 rfl rfl rfl rfl rfl rfl (right6_calls w72 hsi hN2.l hss) fun v73 w73 hr73 => ?_)))))))
            obtain ⟨rfl, hE73⟩ := hr73
            have hb4 := hb4.extNo hE73
            have hb5 := hb5.extNo hE73
            have hb6 := hb6.extNo hE73
            have hb9 := hb9.extNo hE73
            have hN1 := hN1.extNo hE73
            have hN2 := hN2.extNo hE73
            have hq1 := hq1.ext hE73 fun _ _ => id
            have hq2 := hq2.ext hE73 fun _ _ => id
            have hX := hX.thenNo hE73
            refine wl_p I_ok rfl (wl_nil (f_then (c_cond rfl (fun hc => ?_) (fun hc => ?_))))
            · have hk : ¬ ObjOk (shortO (rows[i]).o) := by simpa using hc
              obtain ⟨e1, e2, e3⟩ := objNo hk
              have e0 : objE (shortO (rows[i]).o) = 160 := if_neg hk
              rw [e1] at hq1
              rw [e2] at hb9
              rw [e3] at hq2
              rw [e0, e1, e3]
              try rw [e2]
              refine c_seq (c_cutK (α := Bool) [16, 17, 18] rfl (fun z => [(74, .bool z)]) (fun z u => (z = false) ∧ Blk u b5 33 (objC (shortO (rows[i]).o) a1) ∧ Blk u b6 33 (objC (shortO (rows[i]).o) a2) ∧ Ext No w u) ?_ ?_)
              · refine c_region ?_
                refine wl_p I_ok rfl (wl_caseD 52 rfl (fun hg => ?_) (fun hg => ?_))
                · first | exact absurd rfl hg | exact absurd trivial hg
                · refine wl_pk I_ok 4 rfl ?_
                  refine wl_caseD 56 rfl (fun hg => ?_) (fun hg => ?_)
                  · first | exact absurd rfl hg | exact absurd trivial hg
                  · refine wl_pk I_ok 4 rfl ?_
                    refine wl_caseD 60 rfl (fun hg => ?_) (fun hg => ?_)
                    · first | exact absurd rfl hg | exact absurd trivial hg
                    · refine wl_pk I_ok 5 rfl ?_
                      refine wl_caseD 65 rfl (fun hg => ?_) (fun hg => ?_)
                      · first | exact absurd rfl hg | exact absurd trivial hg
                      · refine wl (st_ldB I_ok hb9 rfl (by rw [bytesU_len]; rfl) ?_)
                        refine wl (st_bd I_ok rfl trivial (l' := bytesU idZ) idZ_c.symm (wl (st_eqK rfl gId 10 (by decide) kId (idForm idZ_in) (idForm idZ_in) (idKey idZ_in) (idKey idZ_in) idLits_inj ?_)))
                        simp only [Bool.false_eq_true, if_false]
                        refine wl_p I_ok rfl (wl_caseD 70 rfl (fun hg => ?_) (fun hg => ?_))
                        · first | exact absurd rfl hg | exact absurd trivial hg
                        · refine wl_pk I_ok 4 rfl ?_
                          refine wl_nil ?_
                          exact f_cut (_) rfl ⟨rfl, hb5, hb6, hX⟩
              rintro z w74 ⟨rfl, hb5, hb6, hX⟩
              refine c_condF rfl (c_skip (f_then (c_exit ?_)))
              exact f_thenE (f_blockE (f_cut (()) rfl ⟨h12, hX⟩))
            · have hk : ObjOk (shortO (rows[i]).o) := by simpa using hc
              obtain ⟨e1, e2, e3⟩ := objYes hk
              have e0 : objE (shortO (rows[i]).o) = 0 := if_pos hk
              rw [e1] at hq1
              rw [e2] at hb9
              rw [e3] at hq2
              rw [e0, e1, e3]
              try rw [e2]
              have hll := linksS (rows[i]).o
              refine c_skip (f_then (c_seq ?_))
              refine c_cutK (α := Bool) [5, 6, 11, 16, 17, 18] rfl (fun z => [(104, .bool z)]) (fun z u => (z = false ∧ ObjNew w u (shortO (rows[i]).o) a1 ∧ ObjNew w u (shortO (rows[i]).o) a2 ∧ Own u q2 (linksOf (shortO (rows[i]).o)).length k2 26 32 ((linksOf (shortO (rows[i]).o)).flatMap bytesU)) ∧ Blk u b5 33 (objC (shortO (rows[i]).o) a1) ∧ Blk u b6 33 (objC (shortO (rows[i]).o) a2) ∧ Ext No w u) ?_ ?_
              · refine c_draw rfl 30 [(0, true), (1, true), (2, true), (3, true), (4, true), (5, true), (6, true), (7, true), (8, true), (9, true), (10, true), (11, true), (12, true), (13, false), (14, false), (15, true), (16, true), (17, true), (18, true), (19, true), (20, false), (21, true), (22, true), (23, true), (24, true), (25, true), (26, false), (27, false), (28, true), (29, true)] [] (No) (by kernel_rfl) fun w75 hE75 hs75 => ?_
                have hd4 := hb4
                have hd5 := hb5
                have hd6 := hb6
                have hd9 := hb9
                have hN1d := hN1
                have hN2d := hN2
                have hq1d := hq1
                have hq2d := hq2
                have hXd := hX
                have hb4 := hb4.extNo hE75
                have hb5 := hb5.extNo hE75
                have hb6 := hb6.extNo hE75
                have hb9 := hb9.extNo hE75
                have hN1 := hN1.extNo hE75
                have hN2 := hN2.extNo hE75
                have hq1 := hq1.ext hE75 fun _ _ => id
                have hq2 := hq2.ext hE75 fun _ _ => id
                have hX := hX.thenNo hE75
                have hC : Ext (No) _ w75 := hE75.no
                refine wd_k I_ok 3 rfl (wd_caseD 77 rfl (fun hg => ?_) (fun hg => ?_))
                · first | exact absurd rfl hg | exact absurd trivial hg
                · refine wd_k I_ok 4 rfl ?_
                  refine wd_caseD 81 rfl (fun hg => ?_) (fun hg => ?_)
                  · first | exact absurd rfl hg | exact absurd trivial hg
                  · refine wd_k I_ok 4 rfl ?_
                    refine wd_caseD 85 rfl (fun hg => ?_) (fun hg => ?_)
                    · first | exact absurd rfl hg | exact absurd trivial hg
                    · refine wd_k I_ok 1 rfl ?_
                      refine wd_ldN I_ok rfl rfl (fun w' hw' => (hd6.extNo hw').seg) (objC_len hsi) ?_
                      refine wd_l rfl (st_call Tryd.call18 rfl rfl rfl rfl rfl rfl (bytes6_calls w75 hsi hN2.l hk.1) fun v76 w76 hr76 => ⟨(by obtain ⟨q3, k3, rfl, hq3, hqn3, hE76⟩ := hr76; exact hC.thenNo hE76), ?_⟩)
                      obtain ⟨q3, k3, rfl, hq3, hqn3, hE76⟩ := hr76
                      have hb4 := hb4.extNo hE76
                      have hb5 := hb5.extNo hE76
                      have hb6 := hb6.extNo hE76
                      have hb9 := hb9.extNo hE76
                      have hN1 := hN1.extNo hE76
                      have hN2 := hN2.extNo hE76
                      have hq1 := hq1.ext hE76 fun _ _ => id
                      have hq2 := hq2.ext hE76 fun _ _ => id
                      have hX := hX.thenNo hE76
                      have hC := hC.thenNo hE76
                      refine wd_l rfl (st_call Tryd.call17 rfl rfl rfl rfl rfl rfl (bytesEqual_calls w76 hq1.sl hq3.sl) fun v77 w77 hr77 => ⟨(by obtain ⟨rfl, rfl⟩ := hr77; exact hC), ?_⟩)
                      obtain ⟨rfl, rfl⟩ := hr77
                      have hC := hC
                      refine wd_k I_ok 3 rfl (wd_case 92 rfl (fun hg => ?_) (fun hg => ?_))
                      · exact absurd hg (by simp)
                      · refine wd_ldN I_ok rfl rfl (fun w' hw' => (hd9.extNo hw').seg) (by rw [bytesU_len, idOf_len]) ?_
                        refine wd_ldN I_ok rfl rfl (fun w' hw' => (hd6.extNo hw').seg) (objC_len hsi) ?_
                        refine wd_l rfl (st_call Tryd.call19 rfl rfl rfl rfl rfl rfl (id6_calls w77 hsi hN2.l hk.1) fun v78 w78 hr78 => ⟨(by obtain ⟨rfl, hE78⟩ := hr78; exact hC.thenNo hE78), ?_⟩)
                        obtain ⟨rfl, hE78⟩ := hr78
                        have hb4 := hb4.extNo hE78
                        have hb5 := hb5.extNo hE78
                        have hb6 := hb6.extNo hE78
                        have hb9 := hb9.extNo hE78
                        have hN1 := hN1.extNo hE78
                        have hN2 := hN2.extNo hE78
                        have hq1 := hq1.ext hE78 fun _ _ => id
                        have hq2 := hq2.ext hE78 fun _ _ => id
                        have hq3 := hq3.ext hE78 fun _ _ => id
                        have hX := hX.thenNo hE78
                        have hC := hC.thenNo hE78
                        refine wd_eqK rfl rfl gId 10 (by decide) kId (idForm (idOf_len _)) (idForm (idOf_len _)) (idKey (idOf_len _)) (idKey (idOf_len _)) idLits_inj ?_
                        simp only [Bool.false_eq_true, if_false]
                        refine wd_k I_ok 2 rfl (wd_caseD 98 rfl (fun hg => ?_) (fun hg => ?_))
                        · first | exact absurd rfl hg | exact absurd trivial hg
                        · refine wd_k I_ok 1 rfl ?_
                          refine wd_ldN I_ok rfl rfl (fun w' hw' => (hd6.extNo hw').seg) (objC_len hsi) ?_
                          refine wd_l rfl (st_call Tryd.call21 rfl rfl rfl rfl rfl rfl (links6_calls w78 hsi hN2.l hss) fun v79 w79 hr79 => ⟨(by obtain ⟨q4, k4, rfl, hq4, hqn4, hE79⟩ := hr79; exact hC.thenNo hE79), ?_⟩)
                          obtain ⟨q4, k4, rfl, hq4, hqn4, hE79⟩ := hr79
                          have hb4 := hb4.extNo hE79
                          have hb5 := hb5.extNo hE79
                          have hb6 := hb6.extNo hE79
                          have hb9 := hb9.extNo hE79
                          have hN1 := hN1.extNo hE79
                          have hN2 := hN2.extNo hE79
                          have hq1 := hq1.ext hE79 fun _ _ => id
                          have hq2 := hq2.ext hE79 fun _ _ => id
                          have hq3 := hq3.ext hE79 fun _ _ => id
                          have hX := hX.thenNo hE79
                          have hC := hC.thenNo hE79
                          refine wd_l rfl (st_call Tryd.call20 rfl rfl rfl rfl rfl rfl (sameIds_calls w79 hq2.sl hq4.sl (by omega) (linksOf_in hsi) (linksOf_in hsi)) fun v80 w80 hr80 => ⟨(by obtain ⟨rfl, hE80⟩ := hr80; exact hC.thenNo hE80), ?_⟩)
                          obtain ⟨rfl, hE80⟩ := hr80
                          have hb4 := hb4.extNo hE80
                          have hb5 := hb5.extNo hE80
                          have hb6 := hb6.extNo hE80
                          have hb9 := hb9.extNo hE80
                          have hN1 := hN1.extNo hE80
                          have hN2 := hN2.extNo hE80
                          have hq1 := hq1.ext hE80 fun _ _ => id
                          have hq2 := hq2.ext hE80 fun _ _ => id
                          have hq3 := hq3.ext hE80 fun _ _ => id
                          have hq4 := hq4.ext hE80 fun _ _ => id
                          have hX := hX.thenNo hE80
                          have hC := hC.thenNo hE80
                          refine wd_k I_ok 2 rfl (wd_sw (wb_nil ?_))
                          exact f_cut (_) rfl ⟨⟨by simp, hN1, hN2, hq2⟩, hb5, hb6, hX⟩
              rintro z w81 ⟨⟨rfl, hN1, hN2, hq2⟩, hb5, hb6, hX⟩
              refine c_condF rfl (c_skip (f_then (c_seq (c_seq (c_region (wl_p I_ok rfl (wl_nil (f_then (c_block ?_)))))))))
              refine c_loopK (α := Nat) [5, 6, 11, 16, 17, 18, 106] rfl (fun z => [(107, .int .i64 (z : Int))]) (fun z u => (z ≤ (linksOf (shortO (rows[i]).o)).length ∧ ObjNew w u (shortO (rows[i]).o) a1 ∧ ObjNew w u (shortO (rows[i]).o) a2 ∧ OwnX u q2 (linksOf (shortO (rows[i]).o)).length k2 26 32) ∧ Blk u b5 33 (objC (shortO (rows[i]).o) a1) ∧ Blk u b6 33 (objC (shortO (rows[i]).o) a2) ∧ Ext No w u) (fun z u => (linksOf (shortO (rows[i]).o)).length - z) (0) rfl ⟨⟨Nat.zero_le _, hN1, hN2, ⟨_, hq2⟩⟩, hb5, hb6, hX⟩ ?_
              rintro j w82 ⟨⟨hj, hN1, hN2, hqx⟩, hb5, hb6, hX⟩
              refine c_seq (c_region (wl_p I_ok rfl (wl_nil (f_then (c_seq (c_if rfl (fun hc => ?_) (fun hc => ?_)))))))
              · have hj : j < (linksOf (shortO (rows[i]).o)).length := by omega
                obtain ⟨xs, hxs⟩ := hqx
                obtain ⟨bl, L, hp2, hbl, hL, hnc, hcm, htk⟩ := hxs.opened (by omega)
                rw [hp2]
                refine c_skip (f_then (c_seq (c_block (c_seq (c_region (wl_p I_ok rfl (wl_nil (f_then (c_region (wl_p I_ok rfl (wl (st_bd I_ok rfl trivial (l' := bytesU idZ) idZ_c.symm ?_))))))))))))
                refine wl (st_ix I_ok rfl 32 rfl j rfl hj (0 + j * 32) rfl ?_)
                rw [Nat.zero_add]
                have hblo := hbl
                have hXo := hX
                refine wl (st_stN I_ok hbl rfl (by rw [cellsOf_agg]; rfl) (by show j * 32 + 32 ≤ _; rw [hL]; have := Nat.mul_le_mul_right 32 hnc; omega) (by rw [cellsOf_agg]; exact OneC.h) fun w83 hbl hE83 hs83 => ?_)
                have hb5 := hb5.ext1 hE83 (hb5.ne hblo (by decide))
                have hb6 := hb6.ext1 hE83 (hb6.ne hblo (by decide))
                have hX := hXo.thenNew hE83 (hqn2 bl hp2)
                have hN1 := hN1.extF hE83 hblo (fun x hx e => dis1 x hx (by rw [e]; exact hp2))
                have hN2 := hN2.extF hE83 hblo (fun x hx e => dis2 x hx (by rw [e]; exact hp2))
                have hqx : OwnX w83 (some ⟨bl, 0, none⟩) (linksOf (shortO (rows[i]).o)).length k2 26 32 := ⟨_, Own.putB hL hnc hcm htk (by rw [cellsOf_agg, bytesU_len]; show j * 32 + 32 ≤ _; omega) hbl⟩
                refine wl_nil (f_blockN (f_then (c_region (wl_p I_ok rfl ?_))))
                rw [IntWalk.i64_in _ (by omega)]
                refine wl_nil ?_
                exact f_round (j + 1) rfl ⟨⟨hj, hN1, hN2, hqx⟩, hb5, hb6, hX⟩ (by first | omega | (dsimp only; omega))
              · refine c_exit ?_
                refine f_thenE (f_thenE (f_blockE (f_then (c_seq (c_region (wl (st_ldB I_ok hb5 rfl (objC_len hsi) (wl (st_ldB I_ok hb6 rfl (objC_len hsi) ?_)))))))))
                refine wl (st_call Tryd.call15 rfl rfl rfl rfl rfl rfl (same6_calls w82 hsi hsi hN1.l hN2.l hss) fun v84 w84 hr84 => ?_)
                obtain ⟨rfl, hE84⟩ := hr84
                have hb5 := hb5.extNo hE84
                have hb6 := hb6.extNo hE84
                have hN1 := hN1.extNo hE84
                have hN2 := hN2.extNo hE84
                have hqx := hqx.extNo hE84
                have hX := hX.thenNo hE84
                refine wl_p I_ok rfl (wl_nil (f_then (c_cond rfl (fun hc => ?_) (fun hc => ?_))))
                · exact absurd hc (by simp)
                · refine c_skip ?_
                  exact f_blockN (f_cut (()) rfl ⟨h12, hX⟩)
      rintro _ w85 ⟨h12, hX⟩
      refine c_region (wl_p I_ok rfl ?_)
      rw [IntWalk.i64_in _ (by omega)]
      refine wl_nil ?_
      exact f_round (i + 1) rfl ⟨⟨hi, h12⟩, hX⟩ (by first | omega | (dsimp only; omega))
    · refine c_exit ?_
      exact f_thenE (f_thenE (f_blockE (f_cut (()) rfl ⟨trivial, hX⟩)))
  rintro _ w86 ⟨_, hX⟩
  refine c_seq (c_region (wl_p I_ok rfl (wl_nil (f_then (c_ret (f_ret1 rfl rfl ?_))))))
  exact ⟨rfl, hX⟩
end Go.Proofs.YtjghckniloikgaaDoor
