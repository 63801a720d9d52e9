/-
  Walks and laws towards: ObjectSame: which objects are the same, for every two objects; the condition: the table of the digest reads as the card lists it (tied to the text of the program).
-/
import Derived.Test.YtjghckniloikgaaDoorSamD
namespace Go.Proofs.YtjghckniloikgaaDoor
open Go.Vc
theorem objC_leaves {o : ObjD} {a : ObjP} {p : Option Addr} {c : Nat} : (objC o a).set 2 (.slice p o.leaves.length c) = objC o ⟨p, c, a.pp, a.pc, a.rp, a.rc⟩ := rfl
theorem objC_parents {o : ObjD} {a : ObjP} (h : ObjIn o) {p : Option Addr} {c : Nat} : (objC o a).set (68 + 0) (.slice p o.parents.length c) = objC o ⟨a.lp, a.lc, p, c, a.rp, a.rc⟩ := objC_set h 0 _
theorem objC_rows {o : ObjD} {a : ObjP} (h : ObjIn o) {p : Option Addr} {c : Nat} : (objC o a).set (68 + 1) (.slice p o.rows.length c) = objC o ⟨a.lp, a.lc, a.pp, a.pc, p, c⟩ := objC_set h 1 _
theorem newB {n b : Nat} (h : n ≤ b) : ∀ x, OwnB (some ⟨b, 0, none⟩) x → n ≤ x := fun x hx => by have e : b = x := congrArg Addr.block (Option.some.inj hx); omega
theorem copy6_calls (w : World) {x : ObjD} {a : ObjP} (hx : ObjIn x) (hxl : ObjL w x a) (hlx1 : x.leaves.length < 1000000000) (hlx2 : x.parents.length < 1000000000) (hlx3 : x.rows.length < 1000000000) :
    CallsV Tryd.prog 33 [.agg (objC x a).toArray] w fun v w' => ∃ a', v = .agg (objC x a').toArray ∧ ObjNew w w' x a' ∧ Ext No w w' := by
  refine calls_enter Tryd.func33 rfl rfl rfl rfl ?_
  have hX := Ext.refl No w
  refine c_seq (c_region (wl (st_al I_ok rfl fun b1 w1 hn1 hb1 hE1 => ?_)))
  have fr1 := Nat.le_trans hX.size hn1
  have hX := hX.thenNo hE1
  have hb1 : Blk w1 b1 33 (objC x a) := hb1
  refine wl (st_al I_ok rfl fun b2 w2 hn2 hb2 hE2 => ?_)
  have ne1_2 : b1 ≠ b2 := Nat.ne_of_lt (Nat.lt_of_lt_of_le hb1.lt hn2)
  have fr2 := Nat.le_trans hX.size hn2
  have hb1 := hb1.extNo hE2
  have hX := hX.thenNo hE2
  refine wl_nil (f_then (c_cutK (α := ObjP) [1, 2] rfl (fun z => []) (fun z u => (ObjNew w u x z) ∧ Blk u b1 33 (objC x z) ∧ Blk u b2 33 (cellsOf ti33.zero) ∧ Ext No w u) ?_ ?_))
  · refine c_drawX rfl 14 14 [14, 15, 16, 17, 18, 19] (No) (by kernel_rfl) fun w3 hE3 hs3 => ?_
    have hd1 := hb1
    have hd2 := hb2
    have hXd := hX
    have hb1 := hb1.extNo hE3
    have hb2 := hb2.extNo hE3
    have hX := hX.thenNo hE3
    have hC : Ext No _ w3 := hE3
    refine wx_plan [(1, true), (2, true), (5, true), (6, true), (9, true), (10, true), (11, true)] 7 rfl (by kernel_rfl) (wd_k I_ok 1 rfl (wd_ld I_ok rfl rfl (fun w' hw' => ((hd1.extNo hw').seg.obj hx).leaves) ?_))
    refine wd_k I_ok 1 rfl (wd_ld I_ok rfl rfl (fun w' hw' => ((hd1.extNo hw').seg.obj hx).parents) ?_)
    refine wd_k I_ok 2 rfl (wd_ld I_ok rfl rfl (fun w' hw' => ((hd1.extNo hw').seg.obj hx).rows) ?_)
    refine wd_tail rfl (wx_alt [0, 4, 8] rfl (by kernel_rfl) ⟨⟨_, rfl, ?_⟩, ⟨_, rfl, ?_⟩, ⟨_, rfl, ?_⟩, trivial⟩)
    · refine st_bs I_ok rfl 33 rfl leafZ_c (LeafD.len rfl) (by decide) (by decide) trivial (l' := []) rfl fun b3 w4 hn3 hb3 hE4 hs4 => ⟨hC.thenNo hE4, ?_⟩
      have ne1_3 : b1 ≠ b3 := Nat.ne_of_lt (Nat.lt_of_lt_of_le hb1.lt hn3)
      have ne2_3 : b2 ≠ b3 := Nat.ne_of_lt (Nat.lt_of_lt_of_le hb2.lt hn3)
      have fr3 := Nat.le_trans hX.size hn3
      have frhC3 := Nat.le_trans hC.size hn3
      have hb1 := hb1.extNo hE4
      have hb2 := hb2.extNo hE4
      have hX := hX.thenNo hE4
      have hC := hC.thenNo hE4
      refine wx_plan [] 6 rfl (by kernel_rfl) (wd_tail rfl (wx_alt [3, 4, 8] rfl (by kernel_rfl) ⟨⟨_, rfl, ?_⟩, ⟨_, rfl, ?_⟩, ⟨_, rfl, ?_⟩, trivial⟩))
      · have hX0 := hX
        have hbsL := hb3
        refine st_app I_ok rfl 33 48 rfl rfl rfl (by decide) (Own.blk (n := 0) (c := 0) hb3 33 rfl (Nat.le_refl _) (by decide)) (Src.slice (hxl.leaves.extNo hX) OneC.h) (by dsimp only [maxLen]; omega) (by dsimp only; omega) fun p5 c5 w5 ho5 hE5 hB5 => ⟨hC.trans hE5 (fun y hy hF => by have e : b3 = y := congrArg Addr.block (Option.some.inj hF); omega), ?_⟩
        have hC := hC.trans hE5 (fun y hy hF => by have e : b3 = y := congrArg Addr.block (Option.some.inj hF); omega)
        dsimp only at ho5 hE5 hB5 ⊢
        have hbo5 := Own.blk (n := 0) (c := 0) hbsL 33 rfl (Nat.le_refl _) (by decide)
        have hb1 := hb1.extOwn hbo5 hE5 (show (76 : Nat) ≠ 33 from by decide)
        have hb2 := hb2.extOwn hbo5 hE5 (show (76 : Nat) ≠ 33 from by decide)
        try have hP := hP.extOwn hbo5 hE5 (show (76 : Nat) ≠ 26 from by decide)
        try have hR := hR.extOwn hbo5 hE5 (show (76 : Nat) ≠ 82 from by decide)
        try have hb7 := hb7.extOwn hbo5 hE5 (show (76 : Nat) ≠ 26 from by decide)
        try have hb11 := hb11.extOwn hbo5 hE5 (show (76 : Nat) ≠ 82 from by decide)
        have hX := hX0.trans hE5 fun y hy hF => by have e : b3 = y := congrArg Addr.block (Option.some.inj hF); omega
        obtain ⟨qL, kL, e1, e2, hL⟩ : ∃ q k, q = p5 ∧ k = c5 ∧ Own w5 q x.leaves.length k 76 33 (x.leaves.flatMap LeafD.cells) := ⟨_, _, rfl, rfl, by have h := ho5; rw [Nat.zero_add] at h; exact h⟩
        have nL := newW hX0 (newB fr3) hB5
        rw [← e1] at nL
        rw [← e1, ← e2, Nat.zero_add]
        refine wx_plan [(13, true)] 4 rfl (by kernel_rfl) (wd_k I_ok 1 rfl (wd_tail rfl (wx_alt [4, 8] rfl (by kernel_rfl) ⟨⟨_, rfl, ?_⟩, ⟨_, rfl, ?_⟩, trivial⟩)))
        · refine st_bs I_ok rfl 32 rfl idZ_c.symm (by rw [bytesU_len]; rfl) (by decide) (by decide) trivial (l' := []) rfl fun b7 w6 hn7 hb7 hE6 hs6 => ⟨hC.thenNo hE6, ?_⟩
          have ne1_7 : b1 ≠ b7 := Nat.ne_of_lt (Nat.lt_of_lt_of_le hb1.lt hn7)
          have ne2_7 : b2 ≠ b7 := Nat.ne_of_lt (Nat.lt_of_lt_of_le hb2.lt hn7)
          have fr7 := Nat.le_trans hX.size hn7
          have frhC7 := Nat.le_trans hC.size hn7
          have hb1 := hb1.extNo hE6
          have hb2 := hb2.extNo hE6
          have hL := hL.ext hE6 fun _ _ => id
          have hX := hX.thenNo hE6
          have hC := hC.thenNo hE6
          refine wx_plan [] 3 rfl (by kernel_rfl) (wd_tail rfl (wx_alt [7, 8] rfl (by kernel_rfl) ⟨⟨_, rfl, ?_⟩, ⟨_, rfl, ?_⟩, trivial⟩))
          · have hX0 := hX
            have hbsP := hb7
            refine st_app I_ok rfl 32 32 rfl rfl rfl (by decide) (Own.blk (n := 0) (c := 0) hb7 32 rfl (Nat.le_refl _) (by decide)) (Src.slice (hxl.parents.extNo hX) OneC.h) (by dsimp only [maxLen]; omega) (by dsimp only; omega) fun p7 c7 w7 ho7 hE7 hB7 => ⟨hC.trans hE7 (fun y hy hF => by have e : b7 = y := congrArg Addr.block (Option.some.inj hF); omega), ?_⟩
            have hC := hC.trans hE7 (fun y hy hF => by have e : b7 = y := congrArg Addr.block (Option.some.inj hF); omega)
            dsimp only at ho7 hE7 hB7 ⊢
            have hbo7 := Own.blk (n := 0) (c := 0) hbsP 32 rfl (Nat.le_refl _) (by decide)
            have hb1 := hb1.extOwn hbo7 hE7 (show (26 : Nat) ≠ 33 from by decide)
            have hb2 := hb2.extOwn hbo7 hE7 (show (26 : Nat) ≠ 33 from by decide)
            try have hL := hL.extOwn hbo7 hE7 (show (26 : Nat) ≠ 76 from by decide)
            try have hR := hR.extOwn hbo7 hE7 (show (26 : Nat) ≠ 82 from by decide)
            try have hb3 := hb3.extOwn hbo7 hE7 (show (26 : Nat) ≠ 76 from by decide)
            try have hb11 := hb11.extOwn hbo7 hE7 (show (26 : Nat) ≠ 82 from by decide)
            have hX := hX0.trans hE7 fun y hy hF => by have e : b7 = y := congrArg Addr.block (Option.some.inj hF); omega
            obtain ⟨qP, kP, e1, e2, hP⟩ : ∃ q k, q = p7 ∧ k = c7 ∧ Own w7 q x.parents.length k 26 32 (x.parents.flatMap bytesU) := ⟨_, _, rfl, rfl, by have h := ho7; rw [Nat.zero_add] at h; exact h⟩
            have nP := newW hX0 (newB fr7) hB7
            rw [← e1] at nP
            rw [← e1, ← e2, Nat.zero_add]
            refine wx_plan [(8, false), (12, false)] 0 rfl (by kernel_rfl) (wd_l rfl (st_bs I_ok rfl 3 rfl chgZ_c rfl (by decide) (by decide) trivial (l' := []) rfl fun b11 w8 hn11 hb11 hE8 hs8 => ⟨hC.thenNo hE8, ?_⟩))
            have ne1_11 : b1 ≠ b11 := Nat.ne_of_lt (Nat.lt_of_lt_of_le hb1.lt hn11)
            have ne2_11 : b2 ≠ b11 := Nat.ne_of_lt (Nat.lt_of_lt_of_le hb2.lt hn11)
            have fr11 := Nat.le_trans hX.size hn11
            have frhC11 := Nat.le_trans hC.size hn11
            have hb1 := hb1.extNo hE8
            have hb2 := hb2.extNo hE8
            have hL := hL.ext hE8 fun _ _ => id
            have hP := hP.ext hE8 fun _ _ => id
            have hX := hX.thenNo hE8
            have hC := hC.thenNo hE8
            have hX0 := hX
            have hbsR := hb11
            refine wd_l rfl (st_app I_ok rfl 3 40 rfl rfl rfl (by decide) (Own.blk (n := 0) (c := 0) hb11 3 rfl (Nat.le_refl _) (by decide)) (Src.slice (hxl.rows.extNo hX) OneC.h) (by dsimp only [maxLen]; omega) (by dsimp only; omega) fun p9 c9 w9 ho9 hE9 hB9 => ⟨hC.trans hE9 (fun y hy hF => by have e : b11 = y := congrArg Addr.block (Option.some.inj hF); omega), ?_⟩)
            have hC := hC.trans hE9 (fun y hy hF => by have e : b11 = y := congrArg Addr.block (Option.some.inj hF); omega)
            dsimp only at ho9 hE9 hB9 ⊢
            have hbo9 := Own.blk (n := 0) (c := 0) hbsR 3 rfl (Nat.le_refl _) (by decide)
            have hb1 := hb1.extOwn hbo9 hE9 (show (82 : Nat) ≠ 33 from by decide)
            have hb2 := hb2.extOwn hbo9 hE9 (show (82 : Nat) ≠ 33 from by decide)
            try have hL := hL.extOwn hbo9 hE9 (show (82 : Nat) ≠ 76 from by decide)
            try have hP := hP.extOwn hbo9 hE9 (show (82 : Nat) ≠ 26 from by decide)
            try have hb3 := hb3.extOwn hbo9 hE9 (show (82 : Nat) ≠ 76 from by decide)
            try have hb7 := hb7.extOwn hbo9 hE9 (show (82 : Nat) ≠ 26 from by decide)
            have hX := hX0.trans hE9 fun y hy hF => by have e : b11 = y := congrArg Addr.block (Option.some.inj hF); omega
            obtain ⟨qR, kR, e1, e2, hR⟩ : ∃ q k, q = p9 ∧ k = c9 ∧ Own w9 q x.rows.length k 82 3 (x.rows.flatMap ChgD.cells) := ⟨_, _, rfl, rfl, by have h := ho9; rw [Nat.zero_add] at h; exact h⟩
            have nR := newW hX0 (newB fr11) hB9
            rw [← e1] at nR
            rw [← e1, ← e2, Nat.zero_add]
            refine wd_sw ?_
            have hb1o := hb1
            refine wb rfl (st_st I_ok hb1 rfl rfl rfl fun w10 hb1 hE10 hs10 => ?_)
            have hb2 := hb2.ext1 hE10 ne1_2.symm
            have hL := hL.extTy hE10 hb1o (by decide)
            have hP := hP.extTy hE10 hb1o (by decide)
            have hR := hR.extTy hE10 hb1o (by decide)
            have hX := hX.thenNew hE10 fr1
            have hb1 : Blk w10 b1 33 (objC x ⟨qL, kL, a.pp, a.pc, a.rp, a.rc⟩) := hb1
            refine wb rfl (st_p I_ok rfl rfl rfl ?_)
            have hb1o := hb1
            refine wb rfl (st_set I_ok hb1 rfl rfl (by rw [objC_len hx]; decide) fun w11 hb1 hE11 hs11 => ?_)
            have hb2 := hb2.ext1 hE11 ne1_2.symm
            have hL := hL.extTy hE11 hb1o (by decide)
            have hP := hP.extTy hE11 hb1o (by decide)
            have hR := hR.extTy hE11 hb1o (by decide)
            have hX := hX.thenNew hE11 fr1
            have hb1 : Blk w11 b1 33 (objC x ⟨qL, kL, qP, kP, a.rp, a.rc⟩) := (by have h : Blk _ b1 _ ((objC x ⟨qL, kL, a.pp, a.pc, a.rp, a.rc⟩).set (68 + 0) (.slice qP x.parents.length kP)) := hb1; rw [objC_parents hx] at h; exact h)
            refine wb rfl (st_p I_ok rfl rfl rfl (wb rfl (st_p I_ok rfl rfl rfl ?_)))
            have hb1o := hb1
            refine wb rfl (st_set I_ok hb1 rfl rfl (by rw [objC_len hx]; decide) fun w12 hb1 hE12 hs12 => ?_)
            have hb2 := hb2.ext1 hE12 ne1_2.symm
            have hL := hL.extTy hE12 hb1o (by decide)
            have hP := hP.extTy hE12 hb1o (by decide)
            have hR := hR.extTy hE12 hb1o (by decide)
            have hX := hX.thenNew hE12 fr1
            have hb1 : Blk w12 b1 33 (objC x ⟨qL, kL, qP, kP, qR, kR⟩) := (by have h : Blk _ b1 _ ((objC x ⟨qL, kL, qP, kP, a.rp, a.rc⟩).set (68 + 1) (.slice qR x.rows.length kR)) := hb1; rw [objC_rows hx] at h; exact h)
            refine wb_nil ?_
            exact f_cut (⟨qL, kL, qP, kP, qR, kR⟩) rfl ⟨⟨hL, hP, hR, nL, nP, nR⟩, hb1, hb2, hX⟩
          · refine st_bs I_ok rfl 3 rfl chgZ_c rfl (by decide) (by decide) trivial (l' := []) rfl fun b11 w13 hn11 hb11 hE13 hs13 => ⟨hC.thenNo hE13, ?_⟩
            have ne1_11 : b1 ≠ b11 := Nat.ne_of_lt (Nat.lt_of_lt_of_le hb1.lt hn11)
            have ne2_11 : b2 ≠ b11 := Nat.ne_of_lt (Nat.lt_of_lt_of_le hb2.lt hn11)
            have ne7_11 : b7 ≠ b11 := Nat.ne_of_lt (Nat.lt_of_lt_of_le hb7.lt hn11)
            have fr11 := Nat.le_trans hX.size hn11
            have frhC11 := Nat.le_trans hC.size hn11
            have hb1 := hb1.extNo hE13
            have hb2 := hb2.extNo hE13
            have hb7 := hb7.extNo hE13
            have hL := hL.ext hE13 fun _ _ => id
            have hX := hX.thenNo hE13
            have hC := hC.thenNo hE13
            refine wx_plan [(7, false), (12, false)] 0 rfl (by kernel_rfl) ?_
            have hX0 := hX
            have hbsP := hb7
            refine wd_l rfl (st_app I_ok rfl 32 32 rfl rfl rfl (by decide) (Own.blk (n := 0) (c := 0) hb7 32 rfl (Nat.le_refl _) (by decide)) (Src.slice (hxl.parents.extNo hX) OneC.h) (by dsimp only [maxLen]; omega) (by dsimp only; omega) fun p14 c14 w14 ho14 hE14 hB14 => ⟨hC.trans hE14 (fun y hy hF => by have e : b7 = y := congrArg Addr.block (Option.some.inj hF); omega), ?_⟩)
            have hC := hC.trans hE14 (fun y hy hF => by have e : b7 = y := congrArg Addr.block (Option.some.inj hF); omega)
            dsimp only at ho14 hE14 hB14 ⊢
            have hbo14 := Own.blk (n := 0) (c := 0) hbsP 32 rfl (Nat.le_refl _) (by decide)
            have hb1 := hb1.extOwn hbo14 hE14 (show (26 : Nat) ≠ 33 from by decide)
            have hb2 := hb2.extOwn hbo14 hE14 (show (26 : Nat) ≠ 33 from by decide)
            try have hL := hL.extOwn hbo14 hE14 (show (26 : Nat) ≠ 76 from by decide)
            try have hR := hR.extOwn hbo14 hE14 (show (26 : Nat) ≠ 82 from by decide)
            try have hb3 := hb3.extOwn hbo14 hE14 (show (26 : Nat) ≠ 76 from by decide)
            try have hb11 := hb11.extOwn hbo14 hE14 (show (26 : Nat) ≠ 82 from by decide)
            have hX := hX0.trans hE14 fun y hy hF => by have e : b7 = y := congrArg Addr.block (Option.some.inj hF); omega
            obtain ⟨qP, kP, e1, e2, hP⟩ : ∃ q k, q = p14 ∧ k = c14 ∧ Own w14 q x.parents.length k 26 32 (x.parents.flatMap bytesU) := ⟨_, _, rfl, rfl, by have h := ho14; rw [Nat.zero_add] at h; exact h⟩
            have nP := newW hX0 (newB fr7) hB14
            rw [← e1] at nP
            rw [← e1, ← e2, Nat.zero_add]
            have hX0 := hX
            have hbsR := hb11
            refine wd_l rfl (st_app I_ok rfl 3 40 rfl rfl rfl (by decide) (Own.blk (n := 0) (c := 0) hb11 3 rfl (Nat.le_refl _) (by decide)) (Src.slice (hxl.rows.extNo hX) OneC.h) (by dsimp only [maxLen]; omega) (by dsimp only; omega) fun p15 c15 w15 ho15 hE15 hB15 => ⟨hC.trans hE15 (fun y hy hF => by have e : b11 = y := congrArg Addr.block (Option.some.inj hF); omega), ?_⟩)
            have hC := hC.trans hE15 (fun y hy hF => by have e : b11 = y := congrArg Addr.block (Option.some.inj hF); omega)
            dsimp only at ho15 hE15 hB15 ⊢
            have hbo15 := Own.blk (n := 0) (c := 0) hbsR 3 rfl (Nat.le_refl _) (by decide)
            have hb1 := hb1.extOwn hbo15 hE15 (show (82 : Nat) ≠ 33 from by decide)
            have hb2 := hb2.extOwn hbo15 hE15 (show (82 : Nat) ≠ 33 from by decide)
            try have hL := hL.extOwn hbo15 hE15 (show (82 : Nat) ≠ 76 from by decide)
            try have hP := hP.extOwn hbo15 hE15 (show (82 : Nat) ≠ 26 from by decide)
            try have hb3 := hb3.extOwn hbo15 hE15 (show (82 : Nat) ≠ 76 from by decide)
            try have hb7 := hb7.extOwn hbo15 hE15 (show (82 : Nat) ≠ 26 from by decide)
            have hX := hX0.trans hE15 fun y hy hF => by have e : b11 = y := congrArg Addr.block (Option.some.inj hF); omega
            obtain ⟨qR, kR, e1, e2, hR⟩ : ∃ q k, q = p15 ∧ k = c15 ∧ Own w15 q x.rows.length k 82 3 (x.rows.flatMap ChgD.cells) := ⟨_, _, rfl, rfl, by have h := ho15; rw [Nat.zero_add] at h; exact h⟩
            have nR := newW hX0 (newB fr11) hB15
            rw [← e1] at nR
            rw [← e1, ← e2, Nat.zero_add]
            refine wd_sw ?_
            have hb1o := hb1
            refine wb rfl (st_st I_ok hb1 rfl rfl rfl fun w16 hb1 hE16 hs16 => ?_)
            have hb2 := hb2.ext1 hE16 ne1_2.symm
            have hL := hL.extTy hE16 hb1o (by decide)
            have hP := hP.extTy hE16 hb1o (by decide)
            have hR := hR.extTy hE16 hb1o (by decide)
            have hX := hX.thenNew hE16 fr1
            have hb1 : Blk w16 b1 33 (objC x ⟨qL, kL, a.pp, a.pc, a.rp, a.rc⟩) := hb1
            refine wb rfl (st_p I_ok rfl rfl rfl ?_)
            have hb1o := hb1
            refine wb rfl (st_set I_ok hb1 rfl rfl (by rw [objC_len hx]; decide) fun w17 hb1 hE17 hs17 => ?_)
            have hb2 := hb2.ext1 hE17 ne1_2.symm
            have hL := hL.extTy hE17 hb1o (by decide)
            have hP := hP.extTy hE17 hb1o (by decide)
            have hR := hR.extTy hE17 hb1o (by decide)
            have hX := hX.thenNew hE17 fr1
            have hb1 : Blk w17 b1 33 (objC x ⟨qL, kL, qP, kP, a.rp, a.rc⟩) := (by have h : Blk _ b1 _ ((objC x ⟨qL, kL, a.pp, a.pc, a.rp, a.rc⟩).set (68 + 0) (.slice qP x.parents.length kP)) := hb1; rw [objC_parents hx] at h; exact h)
            refine wb rfl (st_p I_ok rfl rfl rfl (wb rfl (st_p I_ok rfl rfl rfl ?_)))
            have hb1o := hb1
            refine wb rfl (st_set I_ok hb1 rfl rfl (by rw [objC_len hx]; decide) fun w18 hb1 hE18 hs18 => ?_)
            have hb2 := hb2.ext1 hE18 ne1_2.symm
            have hL := hL.extTy hE18 hb1o (by decide)
            have hP := hP.extTy hE18 hb1o (by decide)
            have hR := hR.extTy hE18 hb1o (by decide)
            have hX := hX.thenNew hE18 fr1
            have hb1 : Blk w18 b1 33 (objC x ⟨qL, kL, qP, kP, qR, kR⟩) := (by have h : Blk _ b1 _ ((objC x ⟨qL, kL, qP, kP, a.rp, a.rc⟩).set (68 + 1) (.slice qR x.rows.length kR)) := hb1; rw [objC_rows hx] at h; exact h)
            refine wb_nil ?_
            exact f_cut (⟨qL, kL, qP, kP, qR, kR⟩) rfl ⟨⟨hL, hP, hR, nL, nP, nR⟩, hb1, hb2, hX⟩
        · refine st_bs I_ok rfl 3 rfl chgZ_c rfl (by decide) (by decide) trivial (l' := []) rfl fun b11 w19 hn11 hb11 hE19 hs19 => ⟨hC.thenNo hE19, ?_⟩
          have ne1_11 : b1 ≠ b11 := Nat.ne_of_lt (Nat.lt_of_lt_of_le hb1.lt hn11)
          have ne2_11 : b2 ≠ b11 := Nat.ne_of_lt (Nat.lt_of_lt_of_le hb2.lt hn11)
          have fr11 := Nat.le_trans hX.size hn11
          have frhC11 := Nat.le_trans hC.size hn11
          have hb1 := hb1.extNo hE19
          have hb2 := hb2.extNo hE19
          have hL := hL.ext hE19 fun _ _ => id
          have hX := hX.thenNo hE19
          have hC := hC.thenNo hE19
          refine wx_plan [(4, false), (7, false), (12, false)] 0 rfl (by kernel_rfl) ?_
          refine wd_l rfl (st_bs I_ok rfl 32 rfl idZ_c.symm (by rw [bytesU_len]; rfl) (by decide) (by decide) trivial (l' := []) rfl fun b7 w20 hn7 hb7 hE20 hs20 => ⟨hC.thenNo hE20, ?_⟩)
          have ne1_7 : b1 ≠ b7 := Nat.ne_of_lt (Nat.lt_of_lt_of_le hb1.lt hn7)
          have ne2_7 : b2 ≠ b7 := Nat.ne_of_lt (Nat.lt_of_lt_of_le hb2.lt hn7)
          have ne11_7 : b11 ≠ b7 := Nat.ne_of_lt (Nat.lt_of_lt_of_le hb11.lt hn7)
          have fr7 := Nat.le_trans hX.size hn7
          have frhC7 := Nat.le_trans hC.size hn7
          have hb1 := hb1.extNo hE20
          have hb2 := hb2.extNo hE20
          have hb11 := hb11.extNo hE20
          have hL := hL.ext hE20 fun _ _ => id
          have hX := hX.thenNo hE20
          have hC := hC.thenNo hE20
          have hX0 := hX
          have hbsP := hb7
          refine wd_l rfl (st_app I_ok rfl 32 32 rfl rfl rfl (by decide) (Own.blk (n := 0) (c := 0) hb7 32 rfl (Nat.le_refl _) (by decide)) (Src.slice (hxl.parents.extNo hX) OneC.h) (by dsimp only [maxLen]; omega) (by dsimp only; omega) fun p21 c21 w21 ho21 hE21 hB21 => ⟨hC.trans hE21 (fun y hy hF => by have e : b7 = y := congrArg Addr.block (Option.some.inj hF); omega), ?_⟩)
          have hC := hC.trans hE21 (fun y hy hF => by have e : b7 = y := congrArg Addr.block (Option.some.inj hF); omega)
          dsimp only at ho21 hE21 hB21 ⊢
          have hbo21 := Own.blk (n := 0) (c := 0) hbsP 32 rfl (Nat.le_refl _) (by decide)
          have hb1 := hb1.extOwn hbo21 hE21 (show (26 : Nat) ≠ 33 from by decide)
          have hb2 := hb2.extOwn hbo21 hE21 (show (26 : Nat) ≠ 33 from by decide)
          try have hL := hL.extOwn hbo21 hE21 (show (26 : Nat) ≠ 76 from by decide)
          try have hR := hR.extOwn hbo21 hE21 (show (26 : Nat) ≠ 82 from by decide)
          try have hb3 := hb3.extOwn hbo21 hE21 (show (26 : Nat) ≠ 76 from by decide)
          try have hb11 := hb11.extOwn hbo21 hE21 (show (26 : Nat) ≠ 82 from by decide)
          have hX := hX0.trans hE21 fun y hy hF => by have e : b7 = y := congrArg Addr.block (Option.some.inj hF); omega
          obtain ⟨qP, kP, e1, e2, hP⟩ : ∃ q k, q = p21 ∧ k = c21 ∧ Own w21 q x.parents.length k 26 32 (x.parents.flatMap bytesU) := ⟨_, _, rfl, rfl, by have h := ho21; rw [Nat.zero_add] at h; exact h⟩
          have nP := newW hX0 (newB fr7) hB21
          rw [← e1] at nP
          rw [← e1, ← e2, Nat.zero_add]
          have hX0 := hX
          have hbsR := hb11
          refine wd_l rfl (st_app I_ok rfl 3 40 rfl rfl rfl (by decide) (Own.blk (n := 0) (c := 0) hb11 3 rfl (Nat.le_refl _) (by decide)) (Src.slice (hxl.rows.extNo hX) OneC.h) (by dsimp only [maxLen]; omega) (by dsimp only; omega) fun p22 c22 w22 ho22 hE22 hB22 => ⟨hC.trans hE22 (fun y hy hF => by have e : b11 = y := congrArg Addr.block (Option.some.inj hF); omega), ?_⟩)
          have hC := hC.trans hE22 (fun y hy hF => by have e : b11 = y := congrArg Addr.block (Option.some.inj hF); omega)
          dsimp only at ho22 hE22 hB22 ⊢
          have hbo22 := Own.blk (n := 0) (c := 0) hbsR 3 rfl (Nat.le_refl _) (by decide)
          have hb1 := hb1.extOwn hbo22 hE22 (show (82 : Nat) ≠ 33 from by decide)
          have hb2 := hb2.extOwn hbo22 hE22 (show (82 : Nat) ≠ 33 from by decide)
          try have hL := hL.extOwn hbo22 hE22 (show (82 : Nat) ≠ 76 from by decide)
          try have hP := hP.extOwn hbo22 hE22 (show (82 : Nat) ≠ 26 from by decide)
          try have hb3 := hb3.extOwn hbo22 hE22 (show (82 : Nat) ≠ 76 from by decide)
          try have hb7 := hb7.extOwn hbo22 hE22 (show (82 : Nat) ≠ 26 from by decide)
          have hX := hX0.trans hE22 fun y hy hF => by have e : b11 = y := congrArg Addr.block (Option.some.inj hF); omega
          obtain ⟨qR, kR, e1, e2, hR⟩ : ∃ q k, q = p22 ∧ k = c22 ∧ Own w22 q x.rows.length k 82 3 (x.rows.flatMap ChgD.cells) := ⟨_, _, rfl, rfl, by have h := ho22; rw [Nat.zero_add] at h; exact h⟩
          have nR := newW hX0 (newB fr11) hB22
          rw [← e1] at nR
          rw [← e1, ← e2, Nat.zero_add]
          refine wd_sw ?_
          have hb1o := hb1
          refine wb rfl (st_st I_ok hb1 rfl rfl rfl fun w23 hb1 hE23 hs23 => ?_)
          have hb2 := hb2.ext1 hE23 ne1_2.symm
          have hL := hL.extTy hE23 hb1o (by decide)
          have hP := hP.extTy hE23 hb1o (by decide)
          have hR := hR.extTy hE23 hb1o (by decide)
          have hX := hX.thenNew hE23 fr1
          have hb1 : Blk w23 b1 33 (objC x ⟨qL, kL, a.pp, a.pc, a.rp, a.rc⟩) := hb1
          refine wb rfl (st_p I_ok rfl rfl rfl ?_)
          have hb1o := hb1
          refine wb rfl (st_set I_ok hb1 rfl rfl (by rw [objC_len hx]; decide) fun w24 hb1 hE24 hs24 => ?_)
          have hb2 := hb2.ext1 hE24 ne1_2.symm
          have hL := hL.extTy hE24 hb1o (by decide)
          have hP := hP.extTy hE24 hb1o (by decide)
          have hR := hR.extTy hE24 hb1o (by decide)
          have hX := hX.thenNew hE24 fr1
          have hb1 : Blk w24 b1 33 (objC x ⟨qL, kL, qP, kP, a.rp, a.rc⟩) := (by have h : Blk _ b1 _ ((objC x ⟨qL, kL, a.pp, a.pc, a.rp, a.rc⟩).set (68 + 0) (.slice qP x.parents.length kP)) := hb1; rw [objC_parents hx] at h; exact h)
          refine wb rfl (st_p I_ok rfl rfl rfl (wb rfl (st_p I_ok rfl rfl rfl ?_)))
          have hb1o := hb1
          refine wb rfl (st_set I_ok hb1 rfl rfl (by rw [objC_len hx]; decide) fun w25 hb1 hE25 hs25 => ?_)
          have hb2 := hb2.ext1 hE25 ne1_2.symm
          have hL := hL.extTy hE25 hb1o (by decide)
          have hP := hP.extTy hE25 hb1o (by decide)
          have hR := hR.extTy hE25 hb1o (by decide)
          have hX := hX.thenNew hE25 fr1
          have hb1 : Blk w25 b1 33 (objC x ⟨qL, kL, qP, kP, qR, kR⟩) := (by have h : Blk _ b1 _ ((objC x ⟨qL, kL, qP, kP, a.rp, a.rc⟩).set (68 + 1) (.slice qR x.rows.length kR)) := hb1; rw [objC_rows hx] at h; exact h)
          refine wb_nil ?_
          exact f_cut (⟨qL, kL, qP, kP, qR, kR⟩) rfl ⟨⟨hL, hP, hR, nL, nP, nR⟩, hb1, hb2, hX⟩
      · refine st_bs I_ok rfl 32 rfl idZ_c.symm (by rw [bytesU_len]; rfl) (by decide) (by decide) trivial (l' := []) rfl fun b7 w26 hn7 hb7 hE26 hs26 => ⟨hC.thenNo hE26, ?_⟩
        have ne1_7 : b1 ≠ b7 := Nat.ne_of_lt (Nat.lt_of_lt_of_le hb1.lt hn7)
        have ne2_7 : b2 ≠ b7 := Nat.ne_of_lt (Nat.lt_of_lt_of_le hb2.lt hn7)
        have ne3_7 : b3 ≠ b7 := Nat.ne_of_lt (Nat.lt_of_lt_of_le hb3.lt hn7)
        have fr7 := Nat.le_trans hX.size hn7
        have frhC7 := Nat.le_trans hC.size hn7
        have hb1 := hb1.extNo hE26
        have hb2 := hb2.extNo hE26
        have hb3 := hb3.extNo hE26
        have hX := hX.thenNo hE26
        have hC := hC.thenNo hE26
        refine wx_plan [] 5 rfl (by kernel_rfl) (wd_tail rfl (wx_alt [3, 8] rfl (by kernel_rfl) ⟨⟨_, rfl, ?_⟩, ⟨_, rfl, ?_⟩, trivial⟩))
        · have hX0 := hX
          have hbsL := hb3
          refine st_app I_ok rfl 33 48 rfl rfl rfl (by decide) (Own.blk (n := 0) (c := 0) hb3 33 rfl (Nat.le_refl _) (by decide)) (Src.slice (hxl.leaves.extNo hX) OneC.h) (by dsimp only [maxLen]; omega) (by dsimp only; omega) fun p27 c27 w27 ho27 hE27 hB27 => ⟨hC.trans hE27 (fun y hy hF => by have e : b3 = y := congrArg Addr.block (Option.some.inj hF); omega), ?_⟩
          have hC := hC.trans hE27 (fun y hy hF => by have e : b3 = y := congrArg Addr.block (Option.some.inj hF); omega)
          dsimp only at ho27 hE27 hB27 ⊢
          have hbo27 := Own.blk (n := 0) (c := 0) hbsL 33 rfl (Nat.le_refl _) (by decide)
          have hb1 := hb1.extOwn hbo27 hE27 (show (76 : Nat) ≠ 33 from by decide)
          have hb2 := hb2.extOwn hbo27 hE27 (show (76 : Nat) ≠ 33 from by decide)
          try have hP := hP.extOwn hbo27 hE27 (show (76 : Nat) ≠ 26 from by decide)
          try have hR := hR.extOwn hbo27 hE27 (show (76 : Nat) ≠ 82 from by decide)
          try have hb7 := hb7.extOwn hbo27 hE27 (show (76 : Nat) ≠ 26 from by decide)
          try have hb11 := hb11.extOwn hbo27 hE27 (show (76 : Nat) ≠ 82 from by decide)
          have hX := hX0.trans hE27 fun y hy hF => by have e : b3 = y := congrArg Addr.block (Option.some.inj hF); omega
          obtain ⟨qL, kL, e1, e2, hL⟩ : ∃ q k, q = p27 ∧ k = c27 ∧ Own w27 q x.leaves.length k 76 33 (x.leaves.flatMap LeafD.cells) := ⟨_, _, rfl, rfl, by have h := ho27; rw [Nat.zero_add] at h; exact h⟩
          have nL := newW hX0 (newB fr3) hB27
          rw [← e1] at nL
          rw [← e1, ← e2, Nat.zero_add]
          refine wx_plan [(13, true)] 3 rfl (by kernel_rfl) (wd_k I_ok 1 rfl (wd_tail rfl (wx_alt [7, 8] rfl (by kernel_rfl) ⟨⟨_, rfl, ?_⟩, ⟨_, rfl, ?_⟩, trivial⟩)))
          · have hX0 := hX
            have hbsP := hb7
            refine st_app I_ok rfl 32 32 rfl rfl rfl (by decide) (Own.blk (n := 0) (c := 0) hb7 32 rfl (Nat.le_refl _) (by decide)) (Src.slice (hxl.parents.extNo hX) OneC.h) (by dsimp only [maxLen]; omega) (by dsimp only; omega) fun p28 c28 w28 ho28 hE28 hB28 => ⟨hC.trans hE28 (fun y hy hF => by have e : b7 = y := congrArg Addr.block (Option.some.inj hF); omega), ?_⟩
            have hC := hC.trans hE28 (fun y hy hF => by have e : b7 = y := congrArg Addr.block (Option.some.inj hF); omega)
            dsimp only at ho28 hE28 hB28 ⊢
            have hbo28 := Own.blk (n := 0) (c := 0) hbsP 32 rfl (Nat.le_refl _) (by decide)
            have hb1 := hb1.extOwn hbo28 hE28 (show (26 : Nat) ≠ 33 from by decide)
            have hb2 := hb2.extOwn hbo28 hE28 (show (26 : Nat) ≠ 33 from by decide)
            try have hL := hL.extOwn hbo28 hE28 (show (26 : Nat) ≠ 76 from by decide)
            try have hR := hR.extOwn hbo28 hE28 (show (26 : Nat) ≠ 82 from by decide)
            try have hb3 := hb3.extOwn hbo28 hE28 (show (26 : Nat) ≠ 76 from by decide)
            try have hb11 := hb11.extOwn hbo28 hE28 (show (26 : Nat) ≠ 82 from by decide)
            have hX := hX0.trans hE28 fun y hy hF => by have e : b7 = y := congrArg Addr.block (Option.some.inj hF); omega
            obtain ⟨qP, kP, e1, e2, hP⟩ : ∃ q k, q = p28 ∧ k = c28 ∧ Own w28 q x.parents.length k 26 32 (x.parents.flatMap bytesU) := ⟨_, _, rfl, rfl, by have h := ho28; rw [Nat.zero_add] at h; exact h⟩
            have nP := newW hX0 (newB fr7) hB28
            rw [← e1] at nP
            rw [← e1, ← e2, Nat.zero_add]
            refine wx_plan [(8, false), (12, false)] 0 rfl (by kernel_rfl) (wd_l rfl (st_bs I_ok rfl 3 rfl chgZ_c rfl (by decide) (by decide) trivial (l' := []) rfl fun b11 w29 hn11 hb11 hE29 hs29 => ⟨hC.thenNo hE29, ?_⟩))
            have ne1_11 : b1 ≠ b11 := Nat.ne_of_lt (Nat.lt_of_lt_of_le hb1.lt hn11)
            have ne2_11 : b2 ≠ b11 := Nat.ne_of_lt (Nat.lt_of_lt_of_le hb2.lt hn11)
            have fr11 := Nat.le_trans hX.size hn11
            have frhC11 := Nat.le_trans hC.size hn11
            have hb1 := hb1.extNo hE29
            have hb2 := hb2.extNo hE29
            have hL := hL.ext hE29 fun _ _ => id
            have hP := hP.ext hE29 fun _ _ => id
            have hX := hX.thenNo hE29
            have hC := hC.thenNo hE29
            have hX0 := hX
            have hbsR := hb11
            refine wd_l rfl (st_app I_ok rfl 3 40 rfl rfl rfl (by decide) (Own.blk (n := 0) (c := 0) hb11 3 rfl (Nat.le_refl _) (by decide)) (Src.slice (hxl.rows.extNo hX) OneC.h) (by dsimp only [maxLen]; omega) (by dsimp only; omega) fun p30 c30 w30 ho30 hE30 hB30 => ⟨hC.trans hE30 (fun y hy hF => by have e : b11 = y := congrArg Addr.block (Option.some.inj hF); omega), ?_⟩)
            have hC := hC.trans hE30 (fun y hy hF => by have e : b11 = y := congrArg Addr.block (Option.some.inj hF); omega)
            dsimp only at ho30 hE30 hB30 ⊢
            have hbo30 := Own.blk (n := 0) (c := 0) hbsR 3 rfl (Nat.le_refl _) (by decide)
            have hb1 := hb1.extOwn hbo30 hE30 (show (82 : Nat) ≠ 33 from by decide)
            have hb2 := hb2.extOwn hbo30 hE30 (show (82 : Nat) ≠ 33 from by decide)
            try have hL := hL.extOwn hbo30 hE30 (show (82 : Nat) ≠ 76 from by decide)
            try have hP := hP.extOwn hbo30 hE30 (show (82 : Nat) ≠ 26 from by decide)
            try have hb3 := hb3.extOwn hbo30 hE30 (show (82 : Nat) ≠ 76 from by decide)
            try have hb7 := hb7.extOwn hbo30 hE30 (show (82 : Nat) ≠ 26 from by decide)
            have hX := hX0.trans hE30 fun y hy hF => by have e : b11 = y := congrArg Addr.block (Option.some.inj hF); omega
            obtain ⟨qR, kR, e1, e2, hR⟩ : ∃ q k, q = p30 ∧ k = c30 ∧ Own w30 q x.rows.length k 82 3 (x.rows.flatMap ChgD.cells) := ⟨_, _, rfl, rfl, by have h := ho30; rw [Nat.zero_add] at h; exact h⟩
            have nR := newW hX0 (newB fr11) hB30
            rw [← e1] at nR
            rw [← e1, ← e2, Nat.zero_add]
            refine wd_sw ?_
            have hb1o := hb1
            refine wb rfl (st_st I_ok hb1 rfl rfl rfl fun w31 hb1 hE31 hs31 => ?_)
            have hb2 := hb2.ext1 hE31 ne1_2.symm
            have hL := hL.extTy hE31 hb1o (by decide)
            have hP := hP.extTy hE31 hb1o (by decide)
            have hR := hR.extTy hE31 hb1o (by decide)
            have hX := hX.thenNew hE31 fr1
            have hb1 : Blk w31 b1 33 (objC x ⟨qL, kL, a.pp, a.pc, a.rp, a.rc⟩) := hb1
            refine wb rfl (st_p I_ok rfl rfl rfl ?_)
            have hb1o := hb1
            refine wb rfl (st_set I_ok hb1 rfl rfl (by rw [objC_len hx]; decide) fun w32 hb1 hE32 hs32 => ?_)
            have hb2 := hb2.ext1 hE32 ne1_2.symm
            have hL := hL.extTy hE32 hb1o (by decide)
            have hP := hP.extTy hE32 hb1o (by decide)
            have hR := hR.extTy hE32 hb1o (by decide)
            have hX := hX.thenNew hE32 fr1
            have hb1 : Blk w32 b1 33 (objC x ⟨qL, kL, qP, kP, a.rp, a.rc⟩) := (by have h : Blk _ b1 _ ((objC x ⟨qL, kL, a.pp, a.pc, a.rp, a.rc⟩).set (68 + 0) (.slice qP x.parents.length kP)) := hb1; rw [objC_parents hx] at h; exact h)
            refine wb rfl (st_p I_ok rfl rfl rfl (wb rfl (st_p I_ok rfl rfl rfl ?_)))
            have hb1o := hb1
            refine wb rfl (st_set I_ok hb1 rfl rfl (by rw [objC_len hx]; decide) fun w33 hb1 hE33 hs33 => ?_)
            have hb2 := hb2.ext1 hE33 ne1_2.symm
            have hL := hL.extTy hE33 hb1o (by decide)
            have hP := hP.extTy hE33 hb1o (by decide)
            have hR := hR.extTy hE33 hb1o (by decide)
            have hX := hX.thenNew hE33 fr1
            have hb1 : Blk w33 b1 33 (objC x ⟨qL, kL, qP, kP, qR, kR⟩) := (by have h : Blk _ b1 _ ((objC x ⟨qL, kL, qP, kP, a.rp, a.rc⟩).set (68 + 1) (.slice qR x.rows.length kR)) := hb1; rw [objC_rows hx] at h; exact h)
            refine wb_nil ?_
            exact f_cut (⟨qL, kL, qP, kP, qR, kR⟩) rfl ⟨⟨hL, hP, hR, nL, nP, nR⟩, hb1, hb2, hX⟩
          · refine st_bs I_ok rfl 3 rfl chgZ_c rfl (by decide) (by decide) trivial (l' := []) rfl fun b11 w34 hn11 hb11 hE34 hs34 => ⟨hC.thenNo hE34, ?_⟩
            have ne1_11 : b1 ≠ b11 := Nat.ne_of_lt (Nat.lt_of_lt_of_le hb1.lt hn11)
            have ne2_11 : b2 ≠ b11 := Nat.ne_of_lt (Nat.lt_of_lt_of_le hb2.lt hn11)
            have ne7_11 : b7 ≠ b11 := Nat.ne_of_lt (Nat.lt_of_lt_of_le hb7.lt hn11)
            have fr11 := Nat.le_trans hX.size hn11
            have frhC11 := Nat.le_trans hC.size hn11
            have hb1 := hb1.extNo hE34
            have hb2 := hb2.extNo hE34
            have hb7 := hb7.extNo hE34
            have hL := hL.ext hE34 fun _ _ => id
            have hX := hX.thenNo hE34
            have hC := hC.thenNo hE34
            refine wx_plan [(7, false), (12, false)] 0 rfl (by kernel_rfl) ?_
            have hX0 := hX
            have hbsP := hb7
            refine wd_l rfl (st_app I_ok rfl 32 32 rfl rfl rfl (by decide) (Own.blk (n := 0) (c := 0) hb7 32 rfl (Nat.le_refl _) (by decide)) (Src.slice (hxl.parents.extNo hX) OneC.h) (by dsimp only [maxLen]; omega) (by dsimp only; omega) fun p35 c35 w35 ho35 hE35 hB35 => ⟨hC.trans hE35 (fun y hy hF => by have e : b7 = y := congrArg Addr.block (Option.some.inj hF); omega), ?_⟩)
            have hC := hC.trans hE35 (fun y hy hF => by have e : b7 = y := congrArg Addr.block (Option.some.inj hF); omega)
            dsimp only at ho35 hE35 hB35 ⊢
            have hbo35 := Own.blk (n := 0) (c := 0) hbsP 32 rfl (Nat.le_refl _) (by decide)
            have hb1 := hb1.extOwn hbo35 hE35 (show (26 : Nat) ≠ 33 from by decide)
            have hb2 := hb2.extOwn hbo35 hE35 (show (26 : Nat) ≠ 33 from by decide)
            try have hL := hL.extOwn hbo35 hE35 (show (26 : Nat) ≠ 76 from by decide)
            try have hR := hR.extOwn hbo35 hE35 (show (26 : Nat) ≠ 82 from by decide)
            try have hb3 := hb3.extOwn hbo35 hE35 (show (26 : Nat) ≠ 76 from by decide)
            try have hb11 := hb11.extOwn hbo35 hE35 (show (26 : Nat) ≠ 82 from by decide)
            have hX := hX0.trans hE35 fun y hy hF => by have e : b7 = y := congrArg Addr.block (Option.some.inj hF); omega
            obtain ⟨qP, kP, e1, e2, hP⟩ : ∃ q k, q = p35 ∧ k = c35 ∧ Own w35 q x.parents.length k 26 32 (x.parents.flatMap bytesU) := ⟨_, _, rfl, rfl, by have h := ho35; rw [Nat.zero_add] at h; exact h⟩
            have nP := newW hX0 (newB fr7) hB35
            rw [← e1] at nP
            rw [← e1, ← e2, Nat.zero_add]
            have hX0 := hX
            have hbsR := hb11
            refine wd_l rfl (st_app I_ok rfl 3 40 rfl rfl rfl (by decide) (Own.blk (n := 0) (c := 0) hb11 3 rfl (Nat.le_refl _) (by decide)) (Src.slice (hxl.rows.extNo hX) OneC.h) (by dsimp only [maxLen]; omega) (by dsimp only; omega) fun p36 c36 w36 ho36 hE36 hB36 => ⟨hC.trans hE36 (fun y hy hF => by have e : b11 = y := congrArg Addr.block (Option.some.inj hF); omega), ?_⟩)
            have hC := hC.trans hE36 (fun y hy hF => by have e : b11 = y := congrArg Addr.block (Option.some.inj hF); omega)
            dsimp only at ho36 hE36 hB36 ⊢
            have hbo36 := Own.blk (n := 0) (c := 0) hbsR 3 rfl (Nat.le_refl _) (by decide)
            have hb1 := hb1.extOwn hbo36 hE36 (show (82 : Nat) ≠ 33 from by decide)
            have hb2 := hb2.extOwn hbo36 hE36 (show (82 : Nat) ≠ 33 from by decide)
            try have hL := hL.extOwn hbo36 hE36 (show (82 : Nat) ≠ 76 from by decide)
            try have hP := hP.extOwn hbo36 hE36 (show (82 : Nat) ≠ 26 from by decide)
            try have hb3 := hb3.extOwn hbo36 hE36 (show (82 : Nat) ≠ 76 from by decide)
            try have hb7 := hb7.extOwn hbo36 hE36 (show (82 : Nat) ≠ 26 from by decide)
            have hX := hX0.trans hE36 fun y hy hF => by have e : b11 = y := congrArg Addr.block (Option.some.inj hF); omega
            obtain ⟨qR, kR, e1, e2, hR⟩ : ∃ q k, q = p36 ∧ k = c36 ∧ Own w36 q x.rows.length k 82 3 (x.rows.flatMap ChgD.cells) := ⟨_, _, rfl, rfl, by have h := ho36; rw [Nat.zero_add] at h; exact h⟩
            have nR := newW hX0 (newB fr11) hB36
            rw [← e1] at nR
            rw [← e1, ← e2, Nat.zero_add]
            refine wd_sw ?_
            have hb1o := hb1
            refine wb rfl (st_st I_ok hb1 rfl rfl rfl fun w37 hb1 hE37 hs37 => ?_)
            have hb2 := hb2.ext1 hE37 ne1_2.symm
            have hL := hL.extTy hE37 hb1o (by decide)
            have hP := hP.extTy hE37 hb1o (by decide)
            have hR := hR.extTy hE37 hb1o (by decide)
            have hX := hX.thenNew hE37 fr1
            have hb1 : Blk w37 b1 33 (objC x ⟨qL, kL, a.pp, a.pc, a.rp, a.rc⟩) := hb1
            refine wb rfl (st_p I_ok rfl rfl rfl ?_)
            have hb1o := hb1
            refine wb rfl (st_set I_ok hb1 rfl rfl (by rw [objC_len hx]; decide) fun w38 hb1 hE38 hs38 => ?_)
            have hb2 := hb2.ext1 hE38 ne1_2.symm
            have hL := hL.extTy hE38 hb1o (by decide)
            have hP := hP.extTy hE38 hb1o (by decide)
            have hR := hR.extTy hE38 hb1o (by decide)
            have hX := hX.thenNew hE38 fr1
            have hb1 : Blk w38 b1 33 (objC x ⟨qL, kL, qP, kP, a.rp, a.rc⟩) := (by have h : Blk _ b1 _ ((objC x ⟨qL, kL, a.pp, a.pc, a.rp, a.rc⟩).set (68 + 0) (.slice qP x.parents.length kP)) := hb1; rw [objC_parents hx] at h; exact h)
            refine wb rfl (st_p I_ok rfl rfl rfl (wb rfl (st_p I_ok rfl rfl rfl ?_)))
            have hb1o := hb1
            refine wb rfl (st_set I_ok hb1 rfl rfl (by rw [objC_len hx]; decide) fun w39 hb1 hE39 hs39 => ?_)
            have hb2 := hb2.ext1 hE39 ne1_2.symm
            have hL := hL.extTy hE39 hb1o (by decide)
            have hP := hP.extTy hE39 hb1o (by decide)
            have hR := hR.extTy hE39 hb1o (by decide)
            have hX := hX.thenNew hE39 fr1
            have hb1 : Blk w39 b1 33 (objC x ⟨qL, kL, qP, kP, qR, kR⟩) := (by have h : Blk _ b1 _ ((objC x ⟨qL, kL, qP, kP, a.rp, a.rc⟩).set (68 + 1) (.slice qR x.rows.length kR)) := hb1; rw [objC_rows hx] at h; exact h)
            refine wb_nil ?_
            exact f_cut (⟨qL, kL, qP, kP, qR, kR⟩) rfl ⟨⟨hL, hP, hR, nL, nP, nR⟩, hb1, hb2, hX⟩
        · refine st_bs I_ok rfl 3 rfl chgZ_c rfl (by decide) (by decide) trivial (l' := []) rfl fun b11 w40 hn11 hb11 hE40 hs40 => ⟨hC.thenNo hE40, ?_⟩
          have ne1_11 : b1 ≠ b11 := Nat.ne_of_lt (Nat.lt_of_lt_of_le hb1.lt hn11)
          have ne2_11 : b2 ≠ b11 := Nat.ne_of_lt (Nat.lt_of_lt_of_le hb2.lt hn11)
          have ne3_11 : b3 ≠ b11 := Nat.ne_of_lt (Nat.lt_of_lt_of_le hb3.lt hn11)
          have ne7_11 : b7 ≠ b11 := Nat.ne_of_lt (Nat.lt_of_lt_of_le hb7.lt hn11)
          have fr11 := Nat.le_trans hX.size hn11
          have frhC11 := Nat.le_trans hC.size hn11
          have hb1 := hb1.extNo hE40
          have hb2 := hb2.extNo hE40
          have hb3 := hb3.extNo hE40
          have hb7 := hb7.extNo hE40
          have hX := hX.thenNo hE40
          have hC := hC.thenNo hE40
          refine wx_plan [(3, false), (13, true), (7, false), (12, false)] 0 rfl (by kernel_rfl) ?_
          have hX0 := hX
          have hbsL := hb3
          refine wd_l rfl (st_app I_ok rfl 33 48 rfl rfl rfl (by decide) (Own.blk (n := 0) (c := 0) hb3 33 rfl (Nat.le_refl _) (by decide)) (Src.slice (hxl.leaves.extNo hX) OneC.h) (by dsimp only [maxLen]; omega) (by dsimp only; omega) fun p41 c41 w41 ho41 hE41 hB41 => ⟨hC.trans hE41 (fun y hy hF => by have e : b3 = y := congrArg Addr.block (Option.some.inj hF); omega), ?_⟩)
          have hC := hC.trans hE41 (fun y hy hF => by have e : b3 = y := congrArg Addr.block (Option.some.inj hF); omega)
          dsimp only at ho41 hE41 hB41 ⊢
          have hbo41 := Own.blk (n := 0) (c := 0) hbsL 33 rfl (Nat.le_refl _) (by decide)
          have hb1 := hb1.extOwn hbo41 hE41 (show (76 : Nat) ≠ 33 from by decide)
          have hb2 := hb2.extOwn hbo41 hE41 (show (76 : Nat) ≠ 33 from by decide)
          try have hP := hP.extOwn hbo41 hE41 (show (76 : Nat) ≠ 26 from by decide)
          try have hR := hR.extOwn hbo41 hE41 (show (76 : Nat) ≠ 82 from by decide)
          try have hb7 := hb7.extOwn hbo41 hE41 (show (76 : Nat) ≠ 26 from by decide)
          try have hb11 := hb11.extOwn hbo41 hE41 (show (76 : Nat) ≠ 82 from by decide)
          have hX := hX0.trans hE41 fun y hy hF => by have e : b3 = y := congrArg Addr.block (Option.some.inj hF); omega
          obtain ⟨qL, kL, e1, e2, hL⟩ : ∃ q k, q = p41 ∧ k = c41 ∧ Own w41 q x.leaves.length k 76 33 (x.leaves.flatMap LeafD.cells) := ⟨_, _, rfl, rfl, by have h := ho41; rw [Nat.zero_add] at h; exact h⟩
          have nL := newW hX0 (newB fr3) hB41
          rw [← e1] at nL
          rw [← e1, ← e2, Nat.zero_add]
          refine wd_k I_ok 1 rfl ?_
          have hX0 := hX
          have hbsP := hb7
          refine wd_l rfl (st_app I_ok rfl 32 32 rfl rfl rfl (by decide) (Own.blk (n := 0) (c := 0) hb7 32 rfl (Nat.le_refl _) (by decide)) (Src.slice (hxl.parents.extNo hX) OneC.h) (by dsimp only [maxLen]; omega) (by dsimp only; omega) fun p42 c42 w42 ho42 hE42 hB42 => ⟨hC.trans hE42 (fun y hy hF => by have e : b7 = y := congrArg Addr.block (Option.some.inj hF); omega), ?_⟩)
          have hC := hC.trans hE42 (fun y hy hF => by have e : b7 = y := congrArg Addr.block (Option.some.inj hF); omega)
          dsimp only at ho42 hE42 hB42 ⊢
          have hbo42 := Own.blk (n := 0) (c := 0) hbsP 32 rfl (Nat.le_refl _) (by decide)
          have hb1 := hb1.extOwn hbo42 hE42 (show (26 : Nat) ≠ 33 from by decide)
          have hb2 := hb2.extOwn hbo42 hE42 (show (26 : Nat) ≠ 33 from by decide)
          try have hL := hL.extOwn hbo42 hE42 (show (26 : Nat) ≠ 76 from by decide)
          try have hR := hR.extOwn hbo42 hE42 (show (26 : Nat) ≠ 82 from by decide)
          try have hb3 := hb3.extOwn hbo42 hE42 (show (26 : Nat) ≠ 76 from by decide)
          try have hb11 := hb11.extOwn hbo42 hE42 (show (26 : Nat) ≠ 82 from by decide)
          have hX := hX0.trans hE42 fun y hy hF => by have e : b7 = y := congrArg Addr.block (Option.some.inj hF); omega
          obtain ⟨qP, kP, e1, e2, hP⟩ : ∃ q k, q = p42 ∧ k = c42 ∧ Own w42 q x.parents.length k 26 32 (x.parents.flatMap bytesU) := ⟨_, _, rfl, rfl, by have h := ho42; rw [Nat.zero_add] at h; exact h⟩
          have nP := newW hX0 (newB fr7) hB42
          rw [← e1] at nP
          rw [← e1, ← e2, Nat.zero_add]
          have hX0 := hX
          have hbsR := hb11
          refine wd_l rfl (st_app I_ok rfl 3 40 rfl rfl rfl (by decide) (Own.blk (n := 0) (c := 0) hb11 3 rfl (Nat.le_refl _) (by decide)) (Src.slice (hxl.rows.extNo hX) OneC.h) (by dsimp only [maxLen]; omega) (by dsimp only; omega) fun p43 c43 w43 ho43 hE43 hB43 => ⟨hC.trans hE43 (fun y hy hF => by have e : b11 = y := congrArg Addr.block (Option.some.inj hF); omega), ?_⟩)
          have hC := hC.trans hE43 (fun y hy hF => by have e : b11 = y := congrArg Addr.block (Option.some.inj hF); omega)
          dsimp only at ho43 hE43 hB43 ⊢
          have hbo43 := Own.blk (n := 0) (c := 0) hbsR 3 rfl (Nat.le_refl _) (by decide)
          have hb1 := hb1.extOwn hbo43 hE43 (show (82 : Nat) ≠ 33 from by decide)
          have hb2 := hb2.extOwn hbo43 hE43 (show (82 : Nat) ≠ 33 from by decide)
          try have hL := hL.extOwn hbo43 hE43 (show (82 : Nat) ≠ 76 from by decide)
          try have hP := hP.extOwn hbo43 hE43 (show (82 : Nat) ≠ 26 from by decide)
          try have hb3 := hb3.extOwn hbo43 hE43 (show (82 : Nat) ≠ 76 from by decide)
          try have hb7 := hb7.extOwn hbo43 hE43 (show (82 : Nat) ≠ 26 from by decide)
          have hX := hX0.trans hE43 fun y hy hF => by have e : b11 = y := congrArg Addr.block (Option.some.inj hF); omega
          obtain ⟨qR, kR, e1, e2, hR⟩ : ∃ q k, q = p43 ∧ k = c43 ∧ Own w43 q x.rows.length k 82 3 (x.rows.flatMap ChgD.cells) := ⟨_, _, rfl, rfl, by have h := ho43; rw [Nat.zero_add] at h; exact h⟩
          have nR := newW hX0 (newB fr11) hB43
          rw [← e1] at nR
          rw [← e1, ← e2, Nat.zero_add]
          refine wd_sw ?_
          have hb1o := hb1
          refine wb rfl (st_st I_ok hb1 rfl rfl rfl fun w44 hb1 hE44 hs44 => ?_)
          have hb2 := hb2.ext1 hE44 ne1_2.symm
          have hL := hL.extTy hE44 hb1o (by decide)
          have hP := hP.extTy hE44 hb1o (by decide)
          have hR := hR.extTy hE44 hb1o (by decide)
          have hX := hX.thenNew hE44 fr1
          have hb1 : Blk w44 b1 33 (objC x ⟨qL, kL, a.pp, a.pc, a.rp, a.rc⟩) := hb1
          refine wb rfl (st_p I_ok rfl rfl rfl ?_)
          have hb1o := hb1
          refine wb rfl (st_set I_ok hb1 rfl rfl (by rw [objC_len hx]; decide) fun w45 hb1 hE45 hs45 => ?_)
          have hb2 := hb2.ext1 hE45 ne1_2.symm
          have hL := hL.extTy hE45 hb1o (by decide)
          have hP := hP.extTy hE45 hb1o (by decide)
          have hR := hR.extTy hE45 hb1o (by decide)
          have hX := hX.thenNew hE45 fr1
          have hb1 : Blk w45 b1 33 (objC x ⟨qL, kL, qP, kP, a.rp, a.rc⟩) := (by have h : Blk _ b1 _ ((objC x ⟨qL, kL, a.pp, a.pc, a.rp, a.rc⟩).set (68 + 0) (.slice qP x.parents.length kP)) := hb1; rw [objC_parents hx] at h; exact h)
          refine wb rfl (st_p I_ok rfl rfl rfl (wb rfl (st_p I_ok rfl rfl rfl ?_)))
          have hb1o := hb1
          refine wb rfl (st_set I_ok hb1 rfl rfl (by rw [objC_len hx]; decide) fun w46 hb1 hE46 hs46 => ?_)
          have hb2 := hb2.ext1 hE46 ne1_2.symm
          have hL := hL.extTy hE46 hb1o (by decide)
          have hP := hP.extTy hE46 hb1o (by decide)
          have hR := hR.extTy hE46 hb1o (by decide)
          have hX := hX.thenNew hE46 fr1
          have hb1 : Blk w46 b1 33 (objC x ⟨qL, kL, qP, kP, qR, kR⟩) := (by have h : Blk _ b1 _ ((objC x ⟨qL, kL, qP, kP, a.rp, a.rc⟩).set (68 + 1) (.slice qR x.rows.length kR)) := hb1; rw [objC_rows hx] at h; exact h)
          refine wb_nil ?_
          exact f_cut (⟨qL, kL, qP, kP, qR, kR⟩) rfl ⟨⟨hL, hP, hR, nL, nP, nR⟩, hb1, hb2, hX⟩
      · refine st_bs I_ok rfl 3 rfl chgZ_c rfl (by decide) (by decide) trivial (l' := []) rfl fun b11 w47 hn11 hb11 hE47 hs47 => ⟨hC.thenNo hE47, ?_⟩
        have ne1_11 : b1 ≠ b11 := Nat.ne_of_lt (Nat.lt_of_lt_of_le hb1.lt hn11)
        have ne2_11 : b2 ≠ b11 := Nat.ne_of_lt (Nat.lt_of_lt_of_le hb2.lt hn11)
        have ne3_11 : b3 ≠ b11 := Nat.ne_of_lt (Nat.lt_of_lt_of_le hb3.lt hn11)
        have fr11 := Nat.le_trans hX.size hn11
        have frhC11 := Nat.le_trans hC.size hn11
        have hb1 := hb1.extNo hE47
        have hb2 := hb2.extNo hE47
        have hb3 := hb3.extNo hE47
        have hX := hX.thenNo hE47
        have hC := hC.thenNo hE47
        refine wx_plan [] 5 rfl (by kernel_rfl) (wd_tail rfl (wx_alt [3, 4] rfl (by kernel_rfl) ⟨⟨_, rfl, ?_⟩, ⟨_, rfl, ?_⟩, trivial⟩))
        · have hX0 := hX
          have hbsL := hb3
          refine st_app I_ok rfl 33 48 rfl rfl rfl (by decide) (Own.blk (n := 0) (c := 0) hb3 33 rfl (Nat.le_refl _) (by decide)) (Src.slice (hxl.leaves.extNo hX) OneC.h) (by dsimp only [maxLen]; omega) (by dsimp only; omega) fun p48 c48 w48 ho48 hE48 hB48 => ⟨hC.trans hE48 (fun y hy hF => by have e : b3 = y := congrArg Addr.block (Option.some.inj hF); omega), ?_⟩
          have hC := hC.trans hE48 (fun y hy hF => by have e : b3 = y := congrArg Addr.block (Option.some.inj hF); omega)
          dsimp only at ho48 hE48 hB48 ⊢
          have hbo48 := Own.blk (n := 0) (c := 0) hbsL 33 rfl (Nat.le_refl _) (by decide)
          have hb1 := hb1.extOwn hbo48 hE48 (show (76 : Nat) ≠ 33 from by decide)
          have hb2 := hb2.extOwn hbo48 hE48 (show (76 : Nat) ≠ 33 from by decide)
          try have hP := hP.extOwn hbo48 hE48 (show (76 : Nat) ≠ 26 from by decide)
          try have hR := hR.extOwn hbo48 hE48 (show (76 : Nat) ≠ 82 from by decide)
          try have hb7 := hb7.extOwn hbo48 hE48 (show (76 : Nat) ≠ 26 from by decide)
          try have hb11 := hb11.extOwn hbo48 hE48 (show (76 : Nat) ≠ 82 from by decide)
          have hX := hX0.trans hE48 fun y hy hF => by have e : b3 = y := congrArg Addr.block (Option.some.inj hF); omega
          obtain ⟨qL, kL, e1, e2, hL⟩ : ∃ q k, q = p48 ∧ k = c48 ∧ Own w48 q x.leaves.length k 76 33 (x.leaves.flatMap LeafD.cells) := ⟨_, _, rfl, rfl, by have h := ho48; rw [Nat.zero_add] at h; exact h⟩
          have nL := newW hX0 (newB fr3) hB48
          rw [← e1] at nL
          rw [← e1, ← e2, Nat.zero_add]
          refine wx_plan [(13, true), (4, false), (7, false), (12, false)] 0 rfl (by kernel_rfl) (wd_k I_ok 1 rfl ?_)
          refine wd_l rfl (st_bs I_ok rfl 32 rfl idZ_c.symm (by rw [bytesU_len]; rfl) (by decide) (by decide) trivial (l' := []) rfl fun b7 w49 hn7 hb7 hE49 hs49 => ⟨hC.thenNo hE49, ?_⟩)
          have ne1_7 : b1 ≠ b7 := Nat.ne_of_lt (Nat.lt_of_lt_of_le hb1.lt hn7)
          have ne2_7 : b2 ≠ b7 := Nat.ne_of_lt (Nat.lt_of_lt_of_le hb2.lt hn7)
          have ne11_7 : b11 ≠ b7 := Nat.ne_of_lt (Nat.lt_of_lt_of_le hb11.lt hn7)
          have fr7 := Nat.le_trans hX.size hn7
          have frhC7 := Nat.le_trans hC.size hn7
          have hb1 := hb1.extNo hE49
          have hb2 := hb2.extNo hE49
          have hb11 := hb11.extNo hE49
          have hL := hL.ext hE49 fun _ _ => id
          have hX := hX.thenNo hE49
          have hC := hC.thenNo hE49
          have hX0 := hX
          have hbsP := hb7
          refine wd_l rfl (st_app I_ok rfl 32 32 rfl rfl rfl (by decide) (Own.blk (n := 0) (c := 0) hb7 32 rfl (Nat.le_refl _) (by decide)) (Src.slice (hxl.parents.extNo hX) OneC.h) (by dsimp only [maxLen]; omega) (by dsimp only; omega) fun p50 c50 w50 ho50 hE50 hB50 => ⟨hC.trans hE50 (fun y hy hF => by have e : b7 = y := congrArg Addr.block (Option.some.inj hF); omega), ?_⟩)
          have hC := hC.trans hE50 (fun y hy hF => by have e : b7 = y := congrArg Addr.block (Option.some.inj hF); omega)
          dsimp only at ho50 hE50 hB50 ⊢
          have hbo50 := Own.blk (n := 0) (c := 0) hbsP 32 rfl (Nat.le_refl _) (by decide)
          have hb1 := hb1.extOwn hbo50 hE50 (show (26 : Nat) ≠ 33 from by decide)
          have hb2 := hb2.extOwn hbo50 hE50 (show (26 : Nat) ≠ 33 from by decide)
          try have hL := hL.extOwn hbo50 hE50 (show (26 : Nat) ≠ 76 from by decide)
          try have hR := hR.extOwn hbo50 hE50 (show (26 : Nat) ≠ 82 from by decide)
          try have hb3 := hb3.extOwn hbo50 hE50 (show (26 : Nat) ≠ 76 from by decide)
          try have hb11 := hb11.extOwn hbo50 hE50 (show (26 : Nat) ≠ 82 from by decide)
          have hX := hX0.trans hE50 fun y hy hF => by have e : b7 = y := congrArg Addr.block (Option.some.inj hF); omega
          obtain ⟨qP, kP, e1, e2, hP⟩ : ∃ q k, q = p50 ∧ k = c50 ∧ Own w50 q x.parents.length k 26 32 (x.parents.flatMap bytesU) := ⟨_, _, rfl, rfl, by have h := ho50; rw [Nat.zero_add] at h; exact h⟩
          have nP := newW hX0 (newB fr7) hB50
          rw [← e1] at nP
          rw [← e1, ← e2, Nat.zero_add]
          have hX0 := hX
          have hbsR := hb11
          refine wd_l rfl (st_app I_ok rfl 3 40 rfl rfl rfl (by decide) (Own.blk (n := 0) (c := 0) hb11 3 rfl (Nat.le_refl _) (by decide)) (Src.slice (hxl.rows.extNo hX) OneC.h) (by dsimp only [maxLen]; omega) (by dsimp only; omega) fun p51 c51 w51 ho51 hE51 hB51 => ⟨hC.trans hE51 (fun y hy hF => by have e : b11 = y := congrArg Addr.block (Option.some.inj hF); omega), ?_⟩)
          have hC := hC.trans hE51 (fun y hy hF => by have e : b11 = y := congrArg Addr.block (Option.some.inj hF); omega)
          dsimp only at ho51 hE51 hB51 ⊢
          have hbo51 := Own.blk (n := 0) (c := 0) hbsR 3 rfl (Nat.le_refl _) (by decide)
          have hb1 := hb1.extOwn hbo51 hE51 (show (82 : Nat) ≠ 33 from by decide)
          have hb2 := hb2.extOwn hbo51 hE51 (show (82 : Nat) ≠ 33 from by decide)
          try have hL := hL.extOwn hbo51 hE51 (show (82 : Nat) ≠ 76 from by decide)
          try have hP := hP.extOwn hbo51 hE51 (show (82 : Nat) ≠ 26 from by decide)
          try have hb3 := hb3.extOwn hbo51 hE51 (show (82 : Nat) ≠ 76 from by decide)
          try have hb7 := hb7.extOwn hbo51 hE51 (show (82 : Nat) ≠ 26 from by decide)
          have hX := hX0.trans hE51 fun y hy hF => by have e : b11 = y := congrArg Addr.block (Option.some.inj hF); omega
          obtain ⟨qR, kR, e1, e2, hR⟩ : ∃ q k, q = p51 ∧ k = c51 ∧ Own w51 q x.rows.length k 82 3 (x.rows.flatMap ChgD.cells) := ⟨_, _, rfl, rfl, by have h := ho51; rw [Nat.zero_add] at h; exact h⟩
          have nR := newW hX0 (newB fr11) hB51
          rw [← e1] at nR
          rw [← e1, ← e2, Nat.zero_add]
          refine wd_sw ?_
          have hb1o := hb1
          refine wb rfl (st_st I_ok hb1 rfl rfl rfl fun w52 hb1 hE52 hs52 => ?_)
          have hb2 := hb2.ext1 hE52 ne1_2.symm
          have hL := hL.extTy hE52 hb1o (by decide)
          have hP := hP.extTy hE52 hb1o (by decide)
          have hR := hR.extTy hE52 hb1o (by decide)
          have hX := hX.thenNew hE52 fr1
          have hb1 : Blk w52 b1 33 (objC x ⟨qL, kL, a.pp, a.pc, a.rp, a.rc⟩) := hb1
          refine wb rfl (st_p I_ok rfl rfl rfl ?_)
          have hb1o := hb1
          refine wb rfl (st_set I_ok hb1 rfl rfl (by rw [objC_len hx]; decide) fun w53 hb1 hE53 hs53 => ?_)
          have hb2 := hb2.ext1 hE53 ne1_2.symm
          have hL := hL.extTy hE53 hb1o (by decide)
          have hP := hP.extTy hE53 hb1o (by decide)
          have hR := hR.extTy hE53 hb1o (by decide)
          have hX := hX.thenNew hE53 fr1
          have hb1 : Blk w53 b1 33 (objC x ⟨qL, kL, qP, kP, a.rp, a.rc⟩) := (by have h : Blk _ b1 _ ((objC x ⟨qL, kL, a.pp, a.pc, a.rp, a.rc⟩).set (68 + 0) (.slice qP x.parents.length kP)) := hb1; rw [objC_parents hx] at h; exact h)
          refine wb rfl (st_p I_ok rfl rfl rfl (wb rfl (st_p I_ok rfl rfl rfl ?_)))
          have hb1o := hb1
          refine wb rfl (st_set I_ok hb1 rfl rfl (by rw [objC_len hx]; decide) fun w54 hb1 hE54 hs54 => ?_)
          have hb2 := hb2.ext1 hE54 ne1_2.symm
          have hL := hL.extTy hE54 hb1o (by decide)
          have hP := hP.extTy hE54 hb1o (by decide)
          have hR := hR.extTy hE54 hb1o (by decide)
          have hX := hX.thenNew hE54 fr1
          have hb1 : Blk w54 b1 33 (objC x ⟨qL, kL, qP, kP, qR, kR⟩) := (by have h : Blk _ b1 _ ((objC x ⟨qL, kL, qP, kP, a.rp, a.rc⟩).set (68 + 1) (.slice qR x.rows.length kR)) := hb1; rw [objC_rows hx] at h; exact h)
          refine wb_nil ?_
          exact f_cut (⟨qL, kL, qP, kP, qR, kR⟩) rfl ⟨⟨hL, hP, hR, nL, nP, nR⟩, hb1, hb2, hX⟩
        · refine st_bs I_ok rfl 32 rfl idZ_c.symm (by rw [bytesU_len]; rfl) (by decide) (by decide) trivial (l' := []) rfl fun b7 w55 hn7 hb7 hE55 hs55 => ⟨hC.thenNo hE55, ?_⟩
          have ne1_7 : b1 ≠ b7 := Nat.ne_of_lt (Nat.lt_of_lt_of_le hb1.lt hn7)
          have ne2_7 : b2 ≠ b7 := Nat.ne_of_lt (Nat.lt_of_lt_of_le hb2.lt hn7)
          have ne3_7 : b3 ≠ b7 := Nat.ne_of_lt (Nat.lt_of_lt_of_le hb3.lt hn7)
          have ne11_7 : b11 ≠ b7 := Nat.ne_of_lt (Nat.lt_of_lt_of_le hb11.lt hn7)
          have fr7 := Nat.le_trans hX.size hn7
          have frhC7 := Nat.le_trans hC.size hn7
          have hb1 := hb1.extNo hE55
          have hb2 := hb2.extNo hE55
          have hb3 := hb3.extNo hE55
          have hb11 := hb11.extNo hE55
          have hX := hX.thenNo hE55
          have hC := hC.thenNo hE55
          refine wx_plan [(3, false), (13, true), (7, false), (12, false)] 0 rfl (by kernel_rfl) ?_
          have hX0 := hX
          have hbsL := hb3
          refine wd_l rfl (st_app I_ok rfl 33 48 rfl rfl rfl (by decide) (Own.blk (n := 0) (c := 0) hb3 33 rfl (Nat.le_refl _) (by decide)) (Src.slice (hxl.leaves.extNo hX) OneC.h) (by dsimp only [maxLen]; omega) (by dsimp only; omega) fun p56 c56 w56 ho56 hE56 hB56 => ⟨hC.trans hE56 (fun y hy hF => by have e : b3 = y := congrArg Addr.block (Option.some.inj hF); omega), ?_⟩)
          have hC := hC.trans hE56 (fun y hy hF => by have e : b3 = y := congrArg Addr.block (Option.some.inj hF); omega)
          dsimp only at ho56 hE56 hB56 ⊢
          have hbo56 := Own.blk (n := 0) (c := 0) hbsL 33 rfl (Nat.le_refl _) (by decide)
          have hb1 := hb1.extOwn hbo56 hE56 (show (76 : Nat) ≠ 33 from by decide)
          have hb2 := hb2.extOwn hbo56 hE56 (show (76 : Nat) ≠ 33 from by decide)
          try have hP := hP.extOwn hbo56 hE56 (show (76 : Nat) ≠ 26 from by decide)
          try have hR := hR.extOwn hbo56 hE56 (show (76 : Nat) ≠ 82 from by decide)
          try have hb7 := hb7.extOwn hbo56 hE56 (show (76 : Nat) ≠ 26 from by decide)
          try have hb11 := hb11.extOwn hbo56 hE56 (show (76 : Nat) ≠ 82 from by decide)
          have hX := hX0.trans hE56 fun y hy hF => by have e : b3 = y := congrArg Addr.block (Option.some.inj hF); omega
          obtain ⟨qL, kL, e1, e2, hL⟩ : ∃ q k, q = p56 ∧ k = c56 ∧ Own w56 q x.leaves.length k 76 33 (x.leaves.flatMap LeafD.cells) := ⟨_, _, rfl, rfl, by have h := ho56; rw [Nat.zero_add] at h; exact h⟩
          have nL := newW hX0 (newB fr3) hB56
          rw [← e1] at nL
          rw [← e1, ← e2, Nat.zero_add]
          refine wd_k I_ok 1 rfl ?_
          have hX0 := hX
          have hbsP := hb7
          refine wd_l rfl (st_app I_ok rfl 32 32 rfl rfl rfl (by decide) (Own.blk (n := 0) (c := 0) hb7 32 rfl (Nat.le_refl _) (by decide)) (Src.slice (hxl.parents.extNo hX) OneC.h) (by dsimp only [maxLen]; omega) (by dsimp only; omega) fun p57 c57 w57 ho57 hE57 hB57 => ⟨hC.trans hE57 (fun y hy hF => by have e : b7 = y := congrArg Addr.block (Option.some.inj hF); omega), ?_⟩)
          have hC := hC.trans hE57 (fun y hy hF => by have e : b7 = y := congrArg Addr.block (Option.some.inj hF); omega)
          dsimp only at ho57 hE57 hB57 ⊢
          have hbo57 := Own.blk (n := 0) (c := 0) hbsP 32 rfl (Nat.le_refl _) (by decide)
          have hb1 := hb1.extOwn hbo57 hE57 (show (26 : Nat) ≠ 33 from by decide)
          have hb2 := hb2.extOwn hbo57 hE57 (show (26 : Nat) ≠ 33 from by decide)
          try have hL := hL.extOwn hbo57 hE57 (show (26 : Nat) ≠ 76 from by decide)
          try have hR := hR.extOwn hbo57 hE57 (show (26 : Nat) ≠ 82 from by decide)
          try have hb3 := hb3.extOwn hbo57 hE57 (show (26 : Nat) ≠ 76 from by decide)
          try have hb11 := hb11.extOwn hbo57 hE57 (show (26 : Nat) ≠ 82 from by decide)
          have hX := hX0.trans hE57 fun y hy hF => by have e : b7 = y := congrArg Addr.block (Option.some.inj hF); omega
          obtain ⟨qP, kP, e1, e2, hP⟩ : ∃ q k, q = p57 ∧ k = c57 ∧ Own w57 q x.parents.length k 26 32 (x.parents.flatMap bytesU) := ⟨_, _, rfl, rfl, by have h := ho57; rw [Nat.zero_add] at h; exact h⟩
          have nP := newW hX0 (newB fr7) hB57
          rw [← e1] at nP
          rw [← e1, ← e2, Nat.zero_add]
          have hX0 := hX
          have hbsR := hb11
          refine wd_l rfl (st_app I_ok rfl 3 40 rfl rfl rfl (by decide) (Own.blk (n := 0) (c := 0) hb11 3 rfl (Nat.le_refl _) (by decide)) (Src.slice (hxl.rows.extNo hX) OneC.h) (by dsimp only [maxLen]; omega) (by dsimp only; omega) fun p58 c58 w58 ho58 hE58 hB58 => ⟨hC.trans hE58 (fun y hy hF => by have e : b11 = y := congrArg Addr.block (Option.some.inj hF); omega), ?_⟩)
          have hC := hC.trans hE58 (fun y hy hF => by have e : b11 = y := congrArg Addr.block (Option.some.inj hF); omega)
          dsimp only at ho58 hE58 hB58 ⊢
          have hbo58 := Own.blk (n := 0) (c := 0) hbsR 3 rfl (Nat.le_refl _) (by decide)
          have hb1 := hb1.extOwn hbo58 hE58 (show (82 : Nat) ≠ 33 from by decide)
          have hb2 := hb2.extOwn hbo58 hE58 (show (82 : Nat) ≠ 33 from by decide)
          try have hL := hL.extOwn hbo58 hE58 (show (82 : Nat) ≠ 76 from by decide)
          try have hP := hP.extOwn hbo58 hE58 (show (82 : Nat) ≠ 26 from by decide)
          try have hb3 := hb3.extOwn hbo58 hE58 (show (82 : Nat) ≠ 76 from by decide)
          try have hb7 := hb7.extOwn hbo58 hE58 (show (82 : Nat) ≠ 26 from by decide)
          have hX := hX0.trans hE58 fun y hy hF => by have e : b11 = y := congrArg Addr.block (Option.some.inj hF); omega
          obtain ⟨qR, kR, e1, e2, hR⟩ : ∃ q k, q = p58 ∧ k = c58 ∧ Own w58 q x.rows.length k 82 3 (x.rows.flatMap ChgD.cells) := ⟨_, _, rfl, rfl, by have h := ho58; rw [Nat.zero_add] at h; exact h⟩
          have nR := newW hX0 (newB fr11) hB58
          rw [← e1] at nR
          rw [← e1, ← e2, Nat.zero_add]
          refine wd_sw ?_
          have hb1o := hb1
          refine wb rfl (st_st I_ok hb1 rfl rfl rfl fun w59 hb1 hE59 hs59 => ?_)
          have hb2 := hb2.ext1 hE59 ne1_2.symm
          have hL := hL.extTy hE59 hb1o (by decide)
          have hP := hP.extTy hE59 hb1o (by decide)
          have hR := hR.extTy hE59 hb1o (by decide)
          have hX := hX.thenNew hE59 fr1
          have hb1 : Blk w59 b1 33 (objC x ⟨qL, kL, a.pp, a.pc, a.rp, a.rc⟩) := hb1
          refine wb rfl (st_p I_ok rfl rfl rfl ?_)
          have hb1o := hb1
          refine wb rfl (st_set I_ok hb1 rfl rfl (by rw [objC_len hx]; decide) fun w60 hb1 hE60 hs60 => ?_)
          have hb2 := hb2.ext1 hE60 ne1_2.symm
          have hL := hL.extTy hE60 hb1o (by decide)
          have hP := hP.extTy hE60 hb1o (by decide)
          have hR := hR.extTy hE60 hb1o (by decide)
          have hX := hX.thenNew hE60 fr1
          have hb1 : Blk w60 b1 33 (objC x ⟨qL, kL, qP, kP, a.rp, a.rc⟩) := (by have h : Blk _ b1 _ ((objC x ⟨qL, kL, a.pp, a.pc, a.rp, a.rc⟩).set (68 + 0) (.slice qP x.parents.length kP)) := hb1; rw [objC_parents hx] at h; exact h)
          refine wb rfl (st_p I_ok rfl rfl rfl (wb rfl (st_p I_ok rfl rfl rfl ?_)))
          have hb1o := hb1
          refine wb rfl (st_set I_ok hb1 rfl rfl (by rw [objC_len hx]; decide) fun w61 hb1 hE61 hs61 => ?_)
          have hb2 := hb2.ext1 hE61 ne1_2.symm
          have hL := hL.extTy hE61 hb1o (by decide)
          have hP := hP.extTy hE61 hb1o (by decide)
          have hR := hR.extTy hE61 hb1o (by decide)
          have hX := hX.thenNew hE61 fr1
          have hb1 : Blk w61 b1 33 (objC x ⟨qL, kL, qP, kP, qR, kR⟩) := (by have h : Blk _ b1 _ ((objC x ⟨qL, kL, qP, kP, a.rp, a.rc⟩).set (68 + 1) (.slice qR x.rows.length kR)) := hb1; rw [objC_rows hx] at h; exact h)
          refine wb_nil ?_
          exact f_cut (⟨qL, kL, qP, kP, qR, kR⟩) rfl ⟨⟨hL, hP, hR, nL, nP, nR⟩, hb1, hb2, hX⟩
    · refine st_bs I_ok rfl 32 rfl idZ_c.symm (by rw [bytesU_len]; rfl) (by decide) (by decide) trivial (l' := []) rfl fun b7 w62 hn7 hb7 hE62 hs62 => ⟨hC.thenNo hE62, ?_⟩
      have ne1_7 : b1 ≠ b7 := Nat.ne_of_lt (Nat.lt_of_lt_of_le hb1.lt hn7)
      have ne2_7 : b2 ≠ b7 := Nat.ne_of_lt (Nat.lt_of_lt_of_le hb2.lt hn7)
      have fr7 := Nat.le_trans hX.size hn7
      have frhC7 := Nat.le_trans hC.size hn7
      have hb1 := hb1.extNo hE62
      have hb2 := hb2.extNo hE62
      have hX := hX.thenNo hE62
      have hC := hC.thenNo hE62
      refine wx_plan [] 6 rfl (by kernel_rfl) (wd_tail rfl (wx_alt [0, 8] rfl (by kernel_rfl) ⟨⟨_, rfl, ?_⟩, ⟨_, rfl, ?_⟩, trivial⟩))
      · refine st_bs I_ok rfl 33 rfl leafZ_c (LeafD.len rfl) (by decide) (by decide) trivial (l' := []) rfl fun b3 w63 hn3 hb3 hE63 hs63 => ⟨hC.thenNo hE63, ?_⟩
        have ne1_3 : b1 ≠ b3 := Nat.ne_of_lt (Nat.lt_of_lt_of_le hb1.lt hn3)
        have ne2_3 : b2 ≠ b3 := Nat.ne_of_lt (Nat.lt_of_lt_of_le hb2.lt hn3)
        have ne7_3 : b7 ≠ b3 := Nat.ne_of_lt (Nat.lt_of_lt_of_le hb7.lt hn3)
        have fr3 := Nat.le_trans hX.size hn3
        have frhC3 := Nat.le_trans hC.size hn3
        have hb1 := hb1.extNo hE63
        have hb2 := hb2.extNo hE63
        have hb7 := hb7.extNo hE63
        have hX := hX.thenNo hE63
        have hC := hC.thenNo hE63
        refine wx_plan [] 5 rfl (by kernel_rfl) (wd_tail rfl (wx_alt [3, 8] rfl (by kernel_rfl) ⟨⟨_, rfl, ?_⟩, ⟨_, rfl, ?_⟩, trivial⟩))
        · have hX0 := hX
          have hbsL := hb3
          refine st_app I_ok rfl 33 48 rfl rfl rfl (by decide) (Own.blk (n := 0) (c := 0) hb3 33 rfl (Nat.le_refl _) (by decide)) (Src.slice (hxl.leaves.extNo hX) OneC.h) (by dsimp only [maxLen]; omega) (by dsimp only; omega) fun p64 c64 w64 ho64 hE64 hB64 => ⟨hC.trans hE64 (fun y hy hF => by have e : b3 = y := congrArg Addr.block (Option.some.inj hF); omega), ?_⟩
          have hC := hC.trans hE64 (fun y hy hF => by have e : b3 = y := congrArg Addr.block (Option.some.inj hF); omega)
          dsimp only at ho64 hE64 hB64 ⊢
          have hbo64 := Own.blk (n := 0) (c := 0) hbsL 33 rfl (Nat.le_refl _) (by decide)
          have hb1 := hb1.extOwn hbo64 hE64 (show (76 : Nat) ≠ 33 from by decide)
          have hb2 := hb2.extOwn hbo64 hE64 (show (76 : Nat) ≠ 33 from by decide)
          try have hP := hP.extOwn hbo64 hE64 (show (76 : Nat) ≠ 26 from by decide)
          try have hR := hR.extOwn hbo64 hE64 (show (76 : Nat) ≠ 82 from by decide)
          try have hb7 := hb7.extOwn hbo64 hE64 (show (76 : Nat) ≠ 26 from by decide)
          try have hb11 := hb11.extOwn hbo64 hE64 (show (76 : Nat) ≠ 82 from by decide)
          have hX := hX0.trans hE64 fun y hy hF => by have e : b3 = y := congrArg Addr.block (Option.some.inj hF); omega
          obtain ⟨qL, kL, e1, e2, hL⟩ : ∃ q k, q = p64 ∧ k = c64 ∧ Own w64 q x.leaves.length k 76 33 (x.leaves.flatMap LeafD.cells) := ⟨_, _, rfl, rfl, by have h := ho64; rw [Nat.zero_add] at h; exact h⟩
          have nL := newW hX0 (newB fr3) hB64
          rw [← e1] at nL
          rw [← e1, ← e2, Nat.zero_add]
          refine wx_plan [(13, true)] 3 rfl (by kernel_rfl) (wd_k I_ok 1 rfl (wd_tail rfl (wx_alt [7, 8] rfl (by kernel_rfl) ⟨⟨_, rfl, ?_⟩, ⟨_, rfl, ?_⟩, trivial⟩)))
          · have hX0 := hX
            have hbsP := hb7
            refine st_app I_ok rfl 32 32 rfl rfl rfl (by decide) (Own.blk (n := 0) (c := 0) hb7 32 rfl (Nat.le_refl _) (by decide)) (Src.slice (hxl.parents.extNo hX) OneC.h) (by dsimp only [maxLen]; omega) (by dsimp only; omega) fun p65 c65 w65 ho65 hE65 hB65 => ⟨hC.trans hE65 (fun y hy hF => by have e : b7 = y := congrArg Addr.block (Option.some.inj hF); omega), ?_⟩
            have hC := hC.trans hE65 (fun y hy hF => by have e : b7 = y := congrArg Addr.block (Option.some.inj hF); omega)
            dsimp only at ho65 hE65 hB65 ⊢
            have hbo65 := Own.blk (n := 0) (c := 0) hbsP 32 rfl (Nat.le_refl _) (by decide)
            have hb1 := hb1.extOwn hbo65 hE65 (show (26 : Nat) ≠ 33 from by decide)
            have hb2 := hb2.extOwn hbo65 hE65 (show (26 : Nat) ≠ 33 from by decide)
            try have hL := hL.extOwn hbo65 hE65 (show (26 : Nat) ≠ 76 from by decide)
            try have hR := hR.extOwn hbo65 hE65 (show (26 : Nat) ≠ 82 from by decide)
            try have hb3 := hb3.extOwn hbo65 hE65 (show (26 : Nat) ≠ 76 from by decide)
            try have hb11 := hb11.extOwn hbo65 hE65 (show (26 : Nat) ≠ 82 from by decide)
            have hX := hX0.trans hE65 fun y hy hF => by have e : b7 = y := congrArg Addr.block (Option.some.inj hF); omega
            obtain ⟨qP, kP, e1, e2, hP⟩ : ∃ q k, q = p65 ∧ k = c65 ∧ Own w65 q x.parents.length k 26 32 (x.parents.flatMap bytesU) := ⟨_, _, rfl, rfl, by have h := ho65; rw [Nat.zero_add] at h; exact h⟩
            have nP := newW hX0 (newB fr7) hB65
            rw [← e1] at nP
            rw [← e1, ← e2, Nat.zero_add]
            refine wx_plan [(8, false), (12, false)] 0 rfl (by kernel_rfl) (wd_l rfl (st_bs I_ok rfl 3 rfl chgZ_c rfl (by decide) (by decide) trivial (l' := []) rfl fun b11 w66 hn11 hb11 hE66 hs66 => ⟨hC.thenNo hE66, ?_⟩))
            have ne1_11 : b1 ≠ b11 := Nat.ne_of_lt (Nat.lt_of_lt_of_le hb1.lt hn11)
            have ne2_11 : b2 ≠ b11 := Nat.ne_of_lt (Nat.lt_of_lt_of_le hb2.lt hn11)
            have fr11 := Nat.le_trans hX.size hn11
            have frhC11 := Nat.le_trans hC.size hn11
            have hb1 := hb1.extNo hE66
            have hb2 := hb2.extNo hE66
            have hL := hL.ext hE66 fun _ _ => id
            have hP := hP.ext hE66 fun _ _ => id
            have hX := hX.thenNo hE66
            have hC := hC.thenNo hE66
            have hX0 := hX
            have hbsR := hb11
            refine wd_l rfl (st_app I_ok rfl 3 40 rfl rfl rfl (by decide) (Own.blk (n := 0) (c := 0) hb11 3 rfl (Nat.le_refl _) (by decide)) (Src.slice (hxl.rows.extNo hX) OneC.h) (by dsimp only [maxLen]; omega) (by dsimp only; omega) fun p67 c67 w67 ho67 hE67 hB67 => ⟨hC.trans hE67 (fun y hy hF => by have e : b11 = y := congrArg Addr.block (Option.some.inj hF); omega), ?_⟩)
            have hC := hC.trans hE67 (fun y hy hF => by have e : b11 = y := congrArg Addr.block (Option.some.inj hF); omega)
            dsimp only at ho67 hE67 hB67 ⊢
            have hbo67 := Own.blk (n := 0) (c := 0) hbsR 3 rfl (Nat.le_refl _) (by decide)
            have hb1 := hb1.extOwn hbo67 hE67 (show (82 : Nat) ≠ 33 from by decide)
            have hb2 := hb2.extOwn hbo67 hE67 (show (82 : Nat) ≠ 33 from by decide)
            try have hL := hL.extOwn hbo67 hE67 (show (82 : Nat) ≠ 76 from by decide)
            try have hP := hP.extOwn hbo67 hE67 (show (82 : Nat) ≠ 26 from by decide)
            try have hb3 := hb3.extOwn hbo67 hE67 (show (82 : Nat) ≠ 76 from by decide)
            try have hb7 := hb7.extOwn hbo67 hE67 (show (82 : Nat) ≠ 26 from by decide)
            have hX := hX0.trans hE67 fun y hy hF => by have e : b11 = y := congrArg Addr.block (Option.some.inj hF); omega
            obtain ⟨qR, kR, e1, e2, hR⟩ : ∃ q k, q = p67 ∧ k = c67 ∧ Own w67 q x.rows.length k 82 3 (x.rows.flatMap ChgD.cells) := ⟨_, _, rfl, rfl, by have h := ho67; rw [Nat.zero_add] at h; exact h⟩
            have nR := newW hX0 (newB fr11) hB67
            rw [← e1] at nR
            rw [← e1, ← e2, Nat.zero_add]
            refine wd_sw ?_
            have hb1o := hb1
            refine wb rfl (st_st I_ok hb1 rfl rfl rfl fun w68 hb1 hE68 hs68 => ?_)
            have hb2 := hb2.ext1 hE68 ne1_2.symm
            have hL := hL.extTy hE68 hb1o (by decide)
            have hP := hP.extTy hE68 hb1o (by decide)
            have hR := hR.extTy hE68 hb1o (by decide)
            have hX := hX.thenNew hE68 fr1
            have hb1 : Blk w68 b1 33 (objC x ⟨qL, kL, a.pp, a.pc, a.rp, a.rc⟩) := hb1
            refine wb rfl (st_p I_ok rfl rfl rfl ?_)
            have hb1o := hb1
            refine wb rfl (st_set I_ok hb1 rfl rfl (by rw [objC_len hx]; decide) fun w69 hb1 hE69 hs69 => ?_)
            have hb2 := hb2.ext1 hE69 ne1_2.symm
            have hL := hL.extTy hE69 hb1o (by decide)
            have hP := hP.extTy hE69 hb1o (by decide)
            have hR := hR.extTy hE69 hb1o (by decide)
            have hX := hX.thenNew hE69 fr1
            have hb1 : Blk w69 b1 33 (objC x ⟨qL, kL, qP, kP, a.rp, a.rc⟩) := (by have h : Blk _ b1 _ ((objC x ⟨qL, kL, a.pp, a.pc, a.rp, a.rc⟩).set (68 + 0) (.slice qP x.parents.length kP)) := hb1; rw [objC_parents hx] at h; exact h)
            refine wb rfl (st_p I_ok rfl rfl rfl (wb rfl (st_p I_ok rfl rfl rfl ?_)))
            have hb1o := hb1
            refine wb rfl (st_set I_ok hb1 rfl rfl (by rw [objC_len hx]; decide) fun w70 hb1 hE70 hs70 => ?_)
            have hb2 := hb2.ext1 hE70 ne1_2.symm
            have hL := hL.extTy hE70 hb1o (by decide)
            have hP := hP.extTy hE70 hb1o (by decide)
            have hR := hR.extTy hE70 hb1o (by decide)
            have hX := hX.thenNew hE70 fr1
            have hb1 : Blk w70 b1 33 (objC x ⟨qL, kL, qP, kP, qR, kR⟩) := (by have h : Blk _ b1 _ ((objC x ⟨qL, kL, qP, kP, a.rp, a.rc⟩).set (68 + 1) (.slice qR x.rows.length kR)) := hb1; rw [objC_rows hx] at h; exact h)
            refine wb_nil ?_
            exact f_cut (⟨qL, kL, qP, kP, qR, kR⟩) rfl ⟨⟨hL, hP, hR, nL, nP, nR⟩, hb1, hb2, hX⟩
          · refine st_bs I_ok rfl 3 rfl chgZ_c rfl (by decide) (by decide) trivial (l' := []) rfl fun b11 w71 hn11 hb11 hE71 hs71 => ⟨hC.thenNo hE71, ?_⟩
            have ne1_11 : b1 ≠ b11 := Nat.ne_of_lt (Nat.lt_of_lt_of_le hb1.lt hn11)
            have ne2_11 : b2 ≠ b11 := Nat.ne_of_lt (Nat.lt_of_lt_of_le hb2.lt hn11)
            have ne7_11 : b7 ≠ b11 := Nat.ne_of_lt (Nat.lt_of_lt_of_le hb7.lt hn11)
            have fr11 := Nat.le_trans hX.size hn11
            have frhC11 := Nat.le_trans hC.size hn11
            have hb1 := hb1.extNo hE71
            have hb2 := hb2.extNo hE71
            have hb7 := hb7.extNo hE71
            have hL := hL.ext hE71 fun _ _ => id
            have hX := hX.thenNo hE71
            have hC := hC.thenNo hE71
            refine wx_plan [(7, false), (12, false)] 0 rfl (by kernel_rfl) ?_
            have hX0 := hX
            have hbsP := hb7
            refine wd_l rfl (st_app I_ok rfl 32 32 rfl rfl rfl (by decide) (Own.blk (n := 0) (c := 0) hb7 32 rfl (Nat.le_refl _) (by decide)) (Src.slice (hxl.parents.extNo hX) OneC.h) (by dsimp only [maxLen]; omega) (by dsimp only; omega) fun p72 c72 w72 ho72 hE72 hB72 => ⟨hC.trans hE72 (fun y hy hF => by have e : b7 = y := congrArg Addr.block (Option.some.inj hF); omega), ?_⟩)
            have hC := hC.trans hE72 (fun y hy hF => by have e : b7 = y := congrArg Addr.block (Option.some.inj hF); omega)
            dsimp only at ho72 hE72 hB72 ⊢
            have hbo72 := Own.blk (n := 0) (c := 0) hbsP 32 rfl (Nat.le_refl _) (by decide)
            have hb1 := hb1.extOwn hbo72 hE72 (show (26 : Nat) ≠ 33 from by decide)
            have hb2 := hb2.extOwn hbo72 hE72 (show (26 : Nat) ≠ 33 from by decide)
            try have hL := hL.extOwn hbo72 hE72 (show (26 : Nat) ≠ 76 from by decide)
            try have hR := hR.extOwn hbo72 hE72 (show (26 : Nat) ≠ 82 from by decide)
            try have hb3 := hb3.extOwn hbo72 hE72 (show (26 : Nat) ≠ 76 from by decide)
            try have hb11 := hb11.extOwn hbo72 hE72 (show (26 : Nat) ≠ 82 from by decide)
            have hX := hX0.trans hE72 fun y hy hF => by have e : b7 = y := congrArg Addr.block (Option.some.inj hF); omega
            obtain ⟨qP, kP, e1, e2, hP⟩ : ∃ q k, q = p72 ∧ k = c72 ∧ Own w72 q x.parents.length k 26 32 (x.parents.flatMap bytesU) := ⟨_, _, rfl, rfl, by have h := ho72; rw [Nat.zero_add] at h; exact h⟩
            have nP := newW hX0 (newB fr7) hB72
            rw [← e1] at nP
            rw [← e1, ← e2, Nat.zero_add]
            have hX0 := hX
            have hbsR := hb11
            refine wd_l rfl (st_app I_ok rfl 3 40 rfl rfl rfl (by decide) (Own.blk (n := 0) (c := 0) hb11 3 rfl (Nat.le_refl _) (by decide)) (Src.slice (hxl.rows.extNo hX) OneC.h) (by dsimp only [maxLen]; omega) (by dsimp only; omega) fun p73 c73 w73 ho73 hE73 hB73 => ⟨hC.trans hE73 (fun y hy hF => by have e : b11 = y := congrArg Addr.block (Option.some.inj hF); omega), ?_⟩)
            have hC := hC.trans hE73 (fun y hy hF => by have e : b11 = y := congrArg Addr.block (Option.some.inj hF); omega)
            dsimp only at ho73 hE73 hB73 ⊢
            have hbo73 := Own.blk (n := 0) (c := 0) hbsR 3 rfl (Nat.le_refl _) (by decide)
            have hb1 := hb1.extOwn hbo73 hE73 (show (82 : Nat) ≠ 33 from by decide)
            have hb2 := hb2.extOwn hbo73 hE73 (show (82 : Nat) ≠ 33 from by decide)
            try have hL := hL.extOwn hbo73 hE73 (show (82 : Nat) ≠ 76 from by decide)
            try have hP := hP.extOwn hbo73 hE73 (show (82 : Nat) ≠ 26 from by decide)
            try have hb3 := hb3.extOwn hbo73 hE73 (show (82 : Nat) ≠ 76 from by decide)
            try have hb7 := hb7.extOwn hbo73 hE73 (show (82 : Nat) ≠ 26 from by decide)
            have hX := hX0.trans hE73 fun y hy hF => by have e : b11 = y := congrArg Addr.block (Option.some.inj hF); omega
            obtain ⟨qR, kR, e1, e2, hR⟩ : ∃ q k, q = p73 ∧ k = c73 ∧ Own w73 q x.rows.length k 82 3 (x.rows.flatMap ChgD.cells) := ⟨_, _, rfl, rfl, by have h := ho73; rw [Nat.zero_add] at h; exact h⟩
            have nR := newW hX0 (newB fr11) hB73
            rw [← e1] at nR
            rw [← e1, ← e2, Nat.zero_add]
            refine wd_sw ?_
            have hb1o := hb1
            refine wb rfl (st_st I_ok hb1 rfl rfl rfl fun w74 hb1 hE74 hs74 => ?_)
            have hb2 := hb2.ext1 hE74 ne1_2.symm
            have hL := hL.extTy hE74 hb1o (by decide)
            have hP := hP.extTy hE74 hb1o (by decide)
            have hR := hR.extTy hE74 hb1o (by decide)
            have hX := hX.thenNew hE74 fr1
            have hb1 : Blk w74 b1 33 (objC x ⟨qL, kL, a.pp, a.pc, a.rp, a.rc⟩) := hb1
            refine wb rfl (st_p I_ok rfl rfl rfl ?_)
            have hb1o := hb1
            refine wb rfl (st_set I_ok hb1 rfl rfl (by rw [objC_len hx]; decide) fun w75 hb1 hE75 hs75 => ?_)
            have hb2 := hb2.ext1 hE75 ne1_2.symm
            have hL := hL.extTy hE75 hb1o (by decide)
            have hP := hP.extTy hE75 hb1o (by decide)
            have hR := hR.extTy hE75 hb1o (by decide)
            have hX := hX.thenNew hE75 fr1
            have hb1 : Blk w75 b1 33 (objC x ⟨qL, kL, qP, kP, a.rp, a.rc⟩) := (by have h : Blk _ b1 _ ((objC x ⟨qL, kL, a.pp, a.pc, a.rp, a.rc⟩).set (68 + 0) (.slice qP x.parents.length kP)) := hb1; rw [objC_parents hx] at h; exact h)
            refine wb rfl (st_p I_ok rfl rfl rfl (wb rfl (st_p I_ok rfl rfl rfl ?_)))
            have hb1o := hb1
            refine wb rfl (st_set I_ok hb1 rfl rfl (by rw [objC_len hx]; decide) fun w76 hb1 hE76 hs76 => ?_)
            have hb2 := hb2.ext1 hE76 ne1_2.symm
            have hL := hL.extTy hE76 hb1o (by decide)
            have hP := hP.extTy hE76 hb1o (by decide)
            have hR := hR.extTy hE76 hb1o (by decide)
            have hX := hX.thenNew hE76 fr1
            have hb1 : Blk w76 b1 33 (objC x ⟨qL, kL, qP, kP, qR, kR⟩) := (by have h : Blk _ b1 _ ((objC x ⟨qL, kL, qP, kP, a.rp, a.rc⟩).set (68 + 1) (.slice qR x.rows.length kR)) := hb1; rw [objC_rows hx] at h; exact h)
            refine wb_nil ?_
            exact f_cut (⟨qL, kL, qP, kP, qR, kR⟩) rfl ⟨⟨hL, hP, hR, nL, nP, nR⟩, hb1, hb2, hX⟩
        · refine st_bs I_ok rfl 3 rfl chgZ_c rfl (by decide) (by decide) trivial (l' := []) rfl fun b11 w77 hn11 hb11 hE77 hs77 => ⟨hC.thenNo hE77, ?_⟩
          have ne1_11 : b1 ≠ b11 := Nat.ne_of_lt (Nat.lt_of_lt_of_le hb1.lt hn11)
          have ne2_11 : b2 ≠ b11 := Nat.ne_of_lt (Nat.lt_of_lt_of_le hb2.lt hn11)
          have ne7_11 : b7 ≠ b11 := Nat.ne_of_lt (Nat.lt_of_lt_of_le hb7.lt hn11)
          have ne3_11 : b3 ≠ b11 := Nat.ne_of_lt (Nat.lt_of_lt_of_le hb3.lt hn11)
          have fr11 := Nat.le_trans hX.size hn11
          have frhC11 := Nat.le_trans hC.size hn11
          have hb1 := hb1.extNo hE77
          have hb2 := hb2.extNo hE77
          have hb7 := hb7.extNo hE77
          have hb3 := hb3.extNo hE77
          have hX := hX.thenNo hE77
          have hC := hC.thenNo hE77
          refine wx_plan [(3, false), (13, true), (7, false), (12, false)] 0 rfl (by kernel_rfl) ?_
          have hX0 := hX
          have hbsL := hb3
          refine wd_l rfl (st_app I_ok rfl 33 48 rfl rfl rfl (by decide) (Own.blk (n := 0) (c := 0) hb3 33 rfl (Nat.le_refl _) (by decide)) (Src.slice (hxl.leaves.extNo hX) OneC.h) (by dsimp only [maxLen]; omega) (by dsimp only; omega) fun p78 c78 w78 ho78 hE78 hB78 => ⟨hC.trans hE78 (fun y hy hF => by have e : b3 = y := congrArg Addr.block (Option.some.inj hF); omega), ?_⟩)
          have hC := hC.trans hE78 (fun y hy hF => by have e : b3 = y := congrArg Addr.block (Option.some.inj hF); omega)
          dsimp only at ho78 hE78 hB78 ⊢
          have hbo78 := Own.blk (n := 0) (c := 0) hbsL 33 rfl (Nat.le_refl _) (by decide)
          have hb1 := hb1.extOwn hbo78 hE78 (show (76 : Nat) ≠ 33 from by decide)
          have hb2 := hb2.extOwn hbo78 hE78 (show (76 : Nat) ≠ 33 from by decide)
          try have hP := hP.extOwn hbo78 hE78 (show (76 : Nat) ≠ 26 from by decide)
          try have hR := hR.extOwn hbo78 hE78 (show (76 : Nat) ≠ 82 from by decide)
          try have hb7 := hb7.extOwn hbo78 hE78 (show (76 : Nat) ≠ 26 from by decide)
          try have hb11 := hb11.extOwn hbo78 hE78 (show (76 : Nat) ≠ 82 from by decide)
          have hX := hX0.trans hE78 fun y hy hF => by have e : b3 = y := congrArg Addr.block (Option.some.inj hF); omega
          obtain ⟨qL, kL, e1, e2, hL⟩ : ∃ q k, q = p78 ∧ k = c78 ∧ Own w78 q x.leaves.length k 76 33 (x.leaves.flatMap LeafD.cells) := ⟨_, _, rfl, rfl, by have h := ho78; rw [Nat.zero_add] at h; exact h⟩
          have nL := newW hX0 (newB fr3) hB78
          rw [← e1] at nL
          rw [← e1, ← e2, Nat.zero_add]
          refine wd_k I_ok 1 rfl ?_
          have hX0 := hX
          have hbsP := hb7
          refine wd_l rfl (st_app I_ok rfl 32 32 rfl rfl rfl (by decide) (Own.blk (n := 0) (c := 0) hb7 32 rfl (Nat.le_refl _) (by decide)) (Src.slice (hxl.parents.extNo hX) OneC.h) (by dsimp only [maxLen]; omega) (by dsimp only; omega) fun p79 c79 w79 ho79 hE79 hB79 => ⟨hC.trans hE79 (fun y hy hF => by have e : b7 = y := congrArg Addr.block (Option.some.inj hF); omega), ?_⟩)
          have hC := hC.trans hE79 (fun y hy hF => by have e : b7 = y := congrArg Addr.block (Option.some.inj hF); omega)
          dsimp only at ho79 hE79 hB79 ⊢
          have hbo79 := Own.blk (n := 0) (c := 0) hbsP 32 rfl (Nat.le_refl _) (by decide)
          have hb1 := hb1.extOwn hbo79 hE79 (show (26 : Nat) ≠ 33 from by decide)
          have hb2 := hb2.extOwn hbo79 hE79 (show (26 : Nat) ≠ 33 from by decide)
          try have hL := hL.extOwn hbo79 hE79 (show (26 : Nat) ≠ 76 from by decide)
          try have hR := hR.extOwn hbo79 hE79 (show (26 : Nat) ≠ 82 from by decide)
          try have hb3 := hb3.extOwn hbo79 hE79 (show (26 : Nat) ≠ 76 from by decide)
          try have hb11 := hb11.extOwn hbo79 hE79 (show (26 : Nat) ≠ 82 from by decide)
          have hX := hX0.trans hE79 fun y hy hF => by have e : b7 = y := congrArg Addr.block (Option.some.inj hF); omega
          obtain ⟨qP, kP, e1, e2, hP⟩ : ∃ q k, q = p79 ∧ k = c79 ∧ Own w79 q x.parents.length k 26 32 (x.parents.flatMap bytesU) := ⟨_, _, rfl, rfl, by have h := ho79; rw [Nat.zero_add] at h; exact h⟩
          have nP := newW hX0 (newB fr7) hB79
          rw [← e1] at nP
          rw [← e1, ← e2, Nat.zero_add]
          have hX0 := hX
          have hbsR := hb11
          refine wd_l rfl (st_app I_ok rfl 3 40 rfl rfl rfl (by decide) (Own.blk (n := 0) (c := 0) hb11 3 rfl (Nat.le_refl _) (by decide)) (Src.slice (hxl.rows.extNo hX) OneC.h) (by dsimp only [maxLen]; omega) (by dsimp only; omega) fun p80 c80 w80 ho80 hE80 hB80 => ⟨hC.trans hE80 (fun y hy hF => by have e : b11 = y := congrArg Addr.block (Option.some.inj hF); omega), ?_⟩)
          have hC := hC.trans hE80 (fun y hy hF => by have e : b11 = y := congrArg Addr.block (Option.some.inj hF); omega)
          dsimp only at ho80 hE80 hB80 ⊢
          have hbo80 := Own.blk (n := 0) (c := 0) hbsR 3 rfl (Nat.le_refl _) (by decide)
          have hb1 := hb1.extOwn hbo80 hE80 (show (82 : Nat) ≠ 33 from by decide)
          have hb2 := hb2.extOwn hbo80 hE80 (show (82 : Nat) ≠ 33 from by decide)
          try have hL := hL.extOwn hbo80 hE80 (show (82 : Nat) ≠ 76 from by decide)
          try have hP := hP.extOwn hbo80 hE80 (show (82 : Nat) ≠ 26 from by decide)
          try have hb3 := hb3.extOwn hbo80 hE80 (show (82 : Nat) ≠ 76 from by decide)
          try have hb7 := hb7.extOwn hbo80 hE80 (show (82 : Nat) ≠ 26 from by decide)
          have hX := hX0.trans hE80 fun y hy hF => by have e : b11 = y := congrArg Addr.block (Option.some.inj hF); omega
          obtain ⟨qR, kR, e1, e2, hR⟩ : ∃ q k, q = p80 ∧ k = c80 ∧ Own w80 q x.rows.length k 82 3 (x.rows.flatMap ChgD.cells) := ⟨_, _, rfl, rfl, by have h := ho80; rw [Nat.zero_add] at h; exact h⟩
          have nR := newW hX0 (newB fr11) hB80
          rw [← e1] at nR
          rw [← e1, ← e2, Nat.zero_add]
          refine wd_sw ?_
          have hb1o := hb1
          refine wb rfl (st_st I_ok hb1 rfl rfl rfl fun w81 hb1 hE81 hs81 => ?_)
          have hb2 := hb2.ext1 hE81 ne1_2.symm
          have hL := hL.extTy hE81 hb1o (by decide)
          have hP := hP.extTy hE81 hb1o (by decide)
          have hR := hR.extTy hE81 hb1o (by decide)
          have hX := hX.thenNew hE81 fr1
          have hb1 : Blk w81 b1 33 (objC x ⟨qL, kL, a.pp, a.pc, a.rp, a.rc⟩) := hb1
          refine wb rfl (st_p I_ok rfl rfl rfl ?_)
          have hb1o := hb1
          refine wb rfl (st_set I_ok hb1 rfl rfl (by rw [objC_len hx]; decide) fun w82 hb1 hE82 hs82 => ?_)
          have hb2 := hb2.ext1 hE82 ne1_2.symm
          have hL := hL.extTy hE82 hb1o (by decide)
          have hP := hP.extTy hE82 hb1o (by decide)
          have hR := hR.extTy hE82 hb1o (by decide)
          have hX := hX.thenNew hE82 fr1
          have hb1 : Blk w82 b1 33 (objC x ⟨qL, kL, qP, kP, a.rp, a.rc⟩) := (by have h : Blk _ b1 _ ((objC x ⟨qL, kL, a.pp, a.pc, a.rp, a.rc⟩).set (68 + 0) (.slice qP x.parents.length kP)) := hb1; rw [objC_parents hx] at h; exact h)
          refine wb rfl (st_p I_ok rfl rfl rfl (wb rfl (st_p I_ok rfl rfl rfl ?_)))
          have hb1o := hb1
          refine wb rfl (st_set I_ok hb1 rfl rfl (by rw [objC_len hx]; decide) fun w83 hb1 hE83 hs83 => ?_)
          have hb2 := hb2.ext1 hE83 ne1_2.symm
          have hL := hL.extTy hE83 hb1o (by decide)
          have hP := hP.extTy hE83 hb1o (by decide)
          have hR := hR.extTy hE83 hb1o (by decide)
          have hX := hX.thenNew hE83 fr1
          have hb1 : Blk w83 b1 33 (objC x ⟨qL, kL, qP, kP, qR, kR⟩) := (by have h : Blk _ b1 _ ((objC x ⟨qL, kL, qP, kP, a.rp, a.rc⟩).set (68 + 1) (.slice qR x.rows.length kR)) := hb1; rw [objC_rows hx] at h; exact h)
          refine wb_nil ?_
          exact f_cut (⟨qL, kL, qP, kP, qR, kR⟩) rfl ⟨⟨hL, hP, hR, nL, nP, nR⟩, hb1, hb2, hX⟩
      · refine st_bs I_ok rfl 3 rfl chgZ_c rfl (by decide) (by decide) trivial (l' := []) rfl fun b11 w84 hn11 hb11 hE84 hs84 => ⟨hC.thenNo hE84, ?_⟩
        have ne1_11 : b1 ≠ b11 := Nat.ne_of_lt (Nat.lt_of_lt_of_le hb1.lt hn11)
        have ne2_11 : b2 ≠ b11 := Nat.ne_of_lt (Nat.lt_of_lt_of_le hb2.lt hn11)
        have ne7_11 : b7 ≠ b11 := Nat.ne_of_lt (Nat.lt_of_lt_of_le hb7.lt hn11)
        have fr11 := Nat.le_trans hX.size hn11
        have frhC11 := Nat.le_trans hC.size hn11
        have hb1 := hb1.extNo hE84
        have hb2 := hb2.extNo hE84
        have hb7 := hb7.extNo hE84
        have hX := hX.thenNo hE84
        have hC := hC.thenNo hE84
        refine wx_plan [(0, false), (3, false), (13, true), (7, false), (12, false)] 0 rfl (by kernel_rfl) ?_
        refine wd_l rfl (st_bs I_ok rfl 33 rfl leafZ_c (LeafD.len rfl) (by decide) (by decide) trivial (l' := []) rfl fun b3 w85 hn3 hb3 hE85 hs85 => ⟨hC.thenNo hE85, ?_⟩)
        have ne1_3 : b1 ≠ b3 := Nat.ne_of_lt (Nat.lt_of_lt_of_le hb1.lt hn3)
        have ne2_3 : b2 ≠ b3 := Nat.ne_of_lt (Nat.lt_of_lt_of_le hb2.lt hn3)
        have ne7_3 : b7 ≠ b3 := Nat.ne_of_lt (Nat.lt_of_lt_of_le hb7.lt hn3)
        have ne11_3 : b11 ≠ b3 := Nat.ne_of_lt (Nat.lt_of_lt_of_le hb11.lt hn3)
        have fr3 := Nat.le_trans hX.size hn3
        have frhC3 := Nat.le_trans hC.size hn3
        have hb1 := hb1.extNo hE85
        have hb2 := hb2.extNo hE85
        have hb7 := hb7.extNo hE85
        have hb11 := hb11.extNo hE85
        have hX := hX.thenNo hE85
        have hC := hC.thenNo hE85
        have hX0 := hX
        have hbsL := hb3
        refine wd_l rfl (st_app I_ok rfl 33 48 rfl rfl rfl (by decide) (Own.blk (n := 0) (c := 0) hb3 33 rfl (Nat.le_refl _) (by decide)) (Src.slice (hxl.leaves.extNo hX) OneC.h) (by dsimp only [maxLen]; omega) (by dsimp only; omega) fun p86 c86 w86 ho86 hE86 hB86 => ⟨hC.trans hE86 (fun y hy hF => by have e : b3 = y := congrArg Addr.block (Option.some.inj hF); omega), ?_⟩)
        have hC := hC.trans hE86 (fun y hy hF => by have e : b3 = y := congrArg Addr.block (Option.some.inj hF); omega)
        dsimp only at ho86 hE86 hB86 ⊢
        have hbo86 := Own.blk (n := 0) (c := 0) hbsL 33 rfl (Nat.le_refl _) (by decide)
        have hb1 := hb1.extOwn hbo86 hE86 (show (76 : Nat) ≠ 33 from by decide)
        have hb2 := hb2.extOwn hbo86 hE86 (show (76 : Nat) ≠ 33 from by decide)
        try have hP := hP.extOwn hbo86 hE86 (show (76 : Nat) ≠ 26 from by decide)
        try have hR := hR.extOwn hbo86 hE86 (show (76 : Nat) ≠ 82 from by decide)
        try have hb7 := hb7.extOwn hbo86 hE86 (show (76 : Nat) ≠ 26 from by decide)
        try have hb11 := hb11.extOwn hbo86 hE86 (show (76 : Nat) ≠ 82 from by decide)
        have hX := hX0.trans hE86 fun y hy hF => by have e : b3 = y := congrArg Addr.block (Option.some.inj hF); omega
        obtain ⟨qL, kL, e1, e2, hL⟩ : ∃ q k, q = p86 ∧ k = c86 ∧ Own w86 q x.leaves.length k 76 33 (x.leaves.flatMap LeafD.cells) := ⟨_, _, rfl, rfl, by have h := ho86; rw [Nat.zero_add] at h; exact h⟩
        have nL := newW hX0 (newB fr3) hB86
        rw [← e1] at nL
        rw [← e1, ← e2, Nat.zero_add]
        refine wd_k I_ok 1 rfl ?_
        have hX0 := hX
        have hbsP := hb7
        refine wd_l rfl (st_app I_ok rfl 32 32 rfl rfl rfl (by decide) (Own.blk (n := 0) (c := 0) hb7 32 rfl (Nat.le_refl _) (by decide)) (Src.slice (hxl.parents.extNo hX) OneC.h) (by dsimp only [maxLen]; omega) (by dsimp only; omega) fun p87 c87 w87 ho87 hE87 hB87 => ⟨hC.trans hE87 (fun y hy hF => by have e : b7 = y := congrArg Addr.block (Option.some.inj hF); omega), ?_⟩)
        have hC := hC.trans hE87 (fun y hy hF => by have e : b7 = y := congrArg Addr.block (Option.some.inj hF); omega)
        dsimp only at ho87 hE87 hB87 ⊢
        have hbo87 := Own.blk (n := 0) (c := 0) hbsP 32 rfl (Nat.le_refl _) (by decide)
        have hb1 := hb1.extOwn hbo87 hE87 (show (26 : Nat) ≠ 33 from by decide)
        have hb2 := hb2.extOwn hbo87 hE87 (show (26 : Nat) ≠ 33 from by decide)
        try have hL := hL.extOwn hbo87 hE87 (show (26 : Nat) ≠ 76 from by decide)
        try have hR := hR.extOwn hbo87 hE87 (show (26 : Nat) ≠ 82 from by decide)
        try have hb3 := hb3.extOwn hbo87 hE87 (show (26 : Nat) ≠ 76 from by decide)
        try have hb11 := hb11.extOwn hbo87 hE87 (show (26 : Nat) ≠ 82 from by decide)
        have hX := hX0.trans hE87 fun y hy hF => by have e : b7 = y := congrArg Addr.block (Option.some.inj hF); omega
        obtain ⟨qP, kP, e1, e2, hP⟩ : ∃ q k, q = p87 ∧ k = c87 ∧ Own w87 q x.parents.length k 26 32 (x.parents.flatMap bytesU) := ⟨_, _, rfl, rfl, by have h := ho87; rw [Nat.zero_add] at h; exact h⟩
        have nP := newW hX0 (newB fr7) hB87
        rw [← e1] at nP
        rw [← e1, ← e2, Nat.zero_add]
        have hX0 := hX
        have hbsR := hb11
        refine wd_l rfl (st_app I_ok rfl 3 40 rfl rfl rfl (by decide) (Own.blk (n := 0) (c := 0) hb11 3 rfl (Nat.le_refl _) (by decide)) (Src.slice (hxl.rows.extNo hX) OneC.h) (by dsimp only [maxLen]; omega) (by dsimp only; omega) fun p88 c88 w88 ho88 hE88 hB88 => ⟨hC.trans hE88 (fun y hy hF => by have e : b11 = y := congrArg Addr.block (Option.some.inj hF); omega), ?_⟩)
        have hC := hC.trans hE88 (fun y hy hF => by have e : b11 = y := congrArg Addr.block (Option.some.inj hF); omega)
        dsimp only at ho88 hE88 hB88 ⊢
        have hbo88 := Own.blk (n := 0) (c := 0) hbsR 3 rfl (Nat.le_refl _) (by decide)
        have hb1 := hb1.extOwn hbo88 hE88 (show (82 : Nat) ≠ 33 from by decide)
        have hb2 := hb2.extOwn hbo88 hE88 (show (82 : Nat) ≠ 33 from by decide)
        try have hL := hL.extOwn hbo88 hE88 (show (82 : Nat) ≠ 76 from by decide)
        try have hP := hP.extOwn hbo88 hE88 (show (82 : Nat) ≠ 26 from by decide)
        try have hb3 := hb3.extOwn hbo88 hE88 (show (82 : Nat) ≠ 76 from by decide)
        try have hb7 := hb7.extOwn hbo88 hE88 (show (82 : Nat) ≠ 26 from by decide)
        have hX := hX0.trans hE88 fun y hy hF => by have e : b11 = y := congrArg Addr.block (Option.some.inj hF); omega
        obtain ⟨qR, kR, e1, e2, hR⟩ : ∃ q k, q = p88 ∧ k = c88 ∧ Own w88 q x.rows.length k 82 3 (x.rows.flatMap ChgD.cells) := ⟨_, _, rfl, rfl, by have h := ho88; rw [Nat.zero_add] at h; exact h⟩
        have nR := newW hX0 (newB fr11) hB88
        rw [← e1] at nR
        rw [← e1, ← e2, Nat.zero_add]
        refine wd_sw ?_
        have hb1o := hb1
        refine wb rfl (st_st I_ok hb1 rfl rfl rfl fun w89 hb1 hE89 hs89 => ?_)
        have hb2 := hb2.ext1 hE89 ne1_2.symm
        have hL := hL.extTy hE89 hb1o (by decide)
        have hP := hP.extTy hE89 hb1o (by decide)
        have hR := hR.extTy hE89 hb1o (by decide)
        have hX := hX.thenNew hE89 fr1
        have hb1 : Blk w89 b1 33 (objC x ⟨qL, kL, a.pp, a.pc, a.rp, a.rc⟩) := hb1
        refine wb rfl (st_p I_ok rfl rfl rfl ?_)
        have hb1o := hb1
        refine wb rfl (st_set I_ok hb1 rfl rfl (by rw [objC_len hx]; decide) fun w90 hb1 hE90 hs90 => ?_)
        have hb2 := hb2.ext1 hE90 ne1_2.symm
        have hL := hL.extTy hE90 hb1o (by decide)
        have hP := hP.extTy hE90 hb1o (by decide)
        have hR := hR.extTy hE90 hb1o (by decide)
        have hX := hX.thenNew hE90 fr1
        have hb1 : Blk w90 b1 33 (objC x ⟨qL, kL, qP, kP, a.rp, a.rc⟩) := (by have h : Blk _ b1 _ ((objC x ⟨qL, kL, a.pp, a.pc, a.rp, a.rc⟩).set (68 + 0) (.slice qP x.parents.length kP)) := hb1; rw [objC_parents hx] at h; exact h)
        refine wb rfl (st_p I_ok rfl rfl rfl (wb rfl (st_p I_ok rfl rfl rfl ?_)))
        have hb1o := hb1
        refine wb rfl (st_set I_ok hb1 rfl rfl (by rw [objC_len hx]; decide) fun w91 hb1 hE91 hs91 => ?_)
        have hb2 := hb2.ext1 hE91 ne1_2.symm
        have hL := hL.extTy hE91 hb1o (by decide)
        have hP := hP.extTy hE91 hb1o (by decide)
        have hR := hR.extTy hE91 hb1o (by decide)
        have hX := hX.thenNew hE91 fr1
        have hb1 : Blk w91 b1 33 (objC x ⟨qL, kL, qP, kP, qR, kR⟩) := (by have h : Blk _ b1 _ ((objC x ⟨qL, kL, qP, kP, a.rp, a.rc⟩).set (68 + 1) (.slice qR x.rows.length kR)) := hb1; rw [objC_rows hx] at h; exact h)
        refine wb_nil ?_
        exact f_cut (⟨qL, kL, qP, kP, qR, kR⟩) rfl ⟨⟨hL, hP, hR, nL, nP, nR⟩, hb1, hb2, hX⟩
    · refine st_bs I_ok rfl 3 rfl chgZ_c rfl (by decide) (by decide) trivial (l' := []) rfl fun b11 w92 hn11 hb11 hE92 hs92 => ⟨hC.thenNo hE92, ?_⟩
      have ne1_11 : b1 ≠ b11 := Nat.ne_of_lt (Nat.lt_of_lt_of_le hb1.lt hn11)
      have ne2_11 : b2 ≠ b11 := Nat.ne_of_lt (Nat.lt_of_lt_of_le hb2.lt hn11)
      have fr11 := Nat.le_trans hX.size hn11
      have frhC11 := Nat.le_trans hC.size hn11
      have hb1 := hb1.extNo hE92
      have hb2 := hb2.extNo hE92
      have hX := hX.thenNo hE92
      have hC := hC.thenNo hE92
      refine wx_plan [] 6 rfl (by kernel_rfl) (wd_tail rfl (wx_alt [0, 4] rfl (by kernel_rfl) ⟨⟨_, rfl, ?_⟩, ⟨_, rfl, ?_⟩, trivial⟩))
      · refine st_bs I_ok rfl 33 rfl leafZ_c (LeafD.len rfl) (by decide) (by decide) trivial (l' := []) rfl fun b3 w93 hn3 hb3 hE93 hs93 => ⟨hC.thenNo hE93, ?_⟩
        have ne1_3 : b1 ≠ b3 := Nat.ne_of_lt (Nat.lt_of_lt_of_le hb1.lt hn3)
        have ne2_3 : b2 ≠ b3 := Nat.ne_of_lt (Nat.lt_of_lt_of_le hb2.lt hn3)
        have ne11_3 : b11 ≠ b3 := Nat.ne_of_lt (Nat.lt_of_lt_of_le hb11.lt hn3)
        have fr3 := Nat.le_trans hX.size hn3
        have frhC3 := Nat.le_trans hC.size hn3
        have hb1 := hb1.extNo hE93
        have hb2 := hb2.extNo hE93
        have hb11 := hb11.extNo hE93
        have hX := hX.thenNo hE93
        have hC := hC.thenNo hE93
        refine wx_plan [] 5 rfl (by kernel_rfl) (wd_tail rfl (wx_alt [3, 4] rfl (by kernel_rfl) ⟨⟨_, rfl, ?_⟩, ⟨_, rfl, ?_⟩, trivial⟩))
        · have hX0 := hX
          have hbsL := hb3
          refine st_app I_ok rfl 33 48 rfl rfl rfl (by decide) (Own.blk (n := 0) (c := 0) hb3 33 rfl (Nat.le_refl _) (by decide)) (Src.slice (hxl.leaves.extNo hX) OneC.h) (by dsimp only [maxLen]; omega) (by dsimp only; omega) fun p94 c94 w94 ho94 hE94 hB94 => ⟨hC.trans hE94 (fun y hy hF => by have e : b3 = y := congrArg Addr.block (Option.some.inj hF); omega), ?_⟩
          have hC := hC.trans hE94 (fun y hy hF => by have e : b3 = y := congrArg Addr.block (Option.some.inj hF); omega)
          dsimp only at ho94 hE94 hB94 ⊢
          have hbo94 := Own.blk (n := 0) (c := 0) hbsL 33 rfl (Nat.le_refl _) (by decide)
          have hb1 := hb1.extOwn hbo94 hE94 (show (76 : Nat) ≠ 33 from by decide)
          have hb2 := hb2.extOwn hbo94 hE94 (show (76 : Nat) ≠ 33 from by decide)
          try have hP := hP.extOwn hbo94 hE94 (show (76 : Nat) ≠ 26 from by decide)
          try have hR := hR.extOwn hbo94 hE94 (show (76 : Nat) ≠ 82 from by decide)
          try have hb7 := hb7.extOwn hbo94 hE94 (show (76 : Nat) ≠ 26 from by decide)
          try have hb11 := hb11.extOwn hbo94 hE94 (show (76 : Nat) ≠ 82 from by decide)
          have hX := hX0.trans hE94 fun y hy hF => by have e : b3 = y := congrArg Addr.block (Option.some.inj hF); omega
          obtain ⟨qL, kL, e1, e2, hL⟩ : ∃ q k, q = p94 ∧ k = c94 ∧ Own w94 q x.leaves.length k 76 33 (x.leaves.flatMap LeafD.cells) := ⟨_, _, rfl, rfl, by have h := ho94; rw [Nat.zero_add] at h; exact h⟩
          have nL := newW hX0 (newB fr3) hB94
          rw [← e1] at nL
          rw [← e1, ← e2, Nat.zero_add]
          refine wx_plan [(13, true), (4, false), (7, false), (12, false)] 0 rfl (by kernel_rfl) (wd_k I_ok 1 rfl ?_)
          refine wd_l rfl (st_bs I_ok rfl 32 rfl idZ_c.symm (by rw [bytesU_len]; rfl) (by decide) (by decide) trivial (l' := []) rfl fun b7 w95 hn7 hb7 hE95 hs95 => ⟨hC.thenNo hE95, ?_⟩)
          have ne1_7 : b1 ≠ b7 := Nat.ne_of_lt (Nat.lt_of_lt_of_le hb1.lt hn7)
          have ne2_7 : b2 ≠ b7 := Nat.ne_of_lt (Nat.lt_of_lt_of_le hb2.lt hn7)
          have ne11_7 : b11 ≠ b7 := Nat.ne_of_lt (Nat.lt_of_lt_of_le hb11.lt hn7)
          have fr7 := Nat.le_trans hX.size hn7
          have frhC7 := Nat.le_trans hC.size hn7
          have hb1 := hb1.extNo hE95
          have hb2 := hb2.extNo hE95
          have hb11 := hb11.extNo hE95
          have hL := hL.ext hE95 fun _ _ => id
          have hX := hX.thenNo hE95
          have hC := hC.thenNo hE95
          have hX0 := hX
          have hbsP := hb7
          refine wd_l rfl (st_app I_ok rfl 32 32 rfl rfl rfl (by decide) (Own.blk (n := 0) (c := 0) hb7 32 rfl (Nat.le_refl _) (by decide)) (Src.slice (hxl.parents.extNo hX) OneC.h) (by dsimp only [maxLen]; omega) (by dsimp only; omega) fun p96 c96 w96 ho96 hE96 hB96 => ⟨hC.trans hE96 (fun y hy hF => by have e : b7 = y := congrArg Addr.block (Option.some.inj hF); omega), ?_⟩)
          have hC := hC.trans hE96 (fun y hy hF => by have e : b7 = y := congrArg Addr.block (Option.some.inj hF); omega)
          dsimp only at ho96 hE96 hB96 ⊢
          have hbo96 := Own.blk (n := 0) (c := 0) hbsP 32 rfl (Nat.le_refl _) (by decide)
          have hb1 := hb1.extOwn hbo96 hE96 (show (26 : Nat) ≠ 33 from by decide)
          have hb2 := hb2.extOwn hbo96 hE96 (show (26 : Nat) ≠ 33 from by decide)
          try have hL := hL.extOwn hbo96 hE96 (show (26 : Nat) ≠ 76 from by decide)
          try have hR := hR.extOwn hbo96 hE96 (show (26 : Nat) ≠ 82 from by decide)
          try have hb3 := hb3.extOwn hbo96 hE96 (show (26 : Nat) ≠ 76 from by decide)
          try have hb11 := hb11.extOwn hbo96 hE96 (show (26 : Nat) ≠ 82 from by decide)
          have hX := hX0.trans hE96 fun y hy hF => by have e : b7 = y := congrArg Addr.block (Option.some.inj hF); omega
          obtain ⟨qP, kP, e1, e2, hP⟩ : ∃ q k, q = p96 ∧ k = c96 ∧ Own w96 q x.parents.length k 26 32 (x.parents.flatMap bytesU) := ⟨_, _, rfl, rfl, by have h := ho96; rw [Nat.zero_add] at h; exact h⟩
          have nP := newW hX0 (newB fr7) hB96
          rw [← e1] at nP
          rw [← e1, ← e2, Nat.zero_add]
          have hX0 := hX
          have hbsR := hb11
          refine wd_l rfl (st_app I_ok rfl 3 40 rfl rfl rfl (by decide) (Own.blk (n := 0) (c := 0) hb11 3 rfl (Nat.le_refl _) (by decide)) (Src.slice (hxl.rows.extNo hX) OneC.h) (by dsimp only [maxLen]; omega) (by dsimp only; omega) fun p97 c97 w97 ho97 hE97 hB97 => ⟨hC.trans hE97 (fun y hy hF => by have e : b11 = y := congrArg Addr.block (Option.some.inj hF); omega), ?_⟩)
          have hC := hC.trans hE97 (fun y hy hF => by have e : b11 = y := congrArg Addr.block (Option.some.inj hF); omega)
          dsimp only at ho97 hE97 hB97 ⊢
          have hbo97 := Own.blk (n := 0) (c := 0) hbsR 3 rfl (Nat.le_refl _) (by decide)
          have hb1 := hb1.extOwn hbo97 hE97 (show (82 : Nat) ≠ 33 from by decide)
          have hb2 := hb2.extOwn hbo97 hE97 (show (82 : Nat) ≠ 33 from by decide)
          try have hL := hL.extOwn hbo97 hE97 (show (82 : Nat) ≠ 76 from by decide)
          try have hP := hP.extOwn hbo97 hE97 (show (82 : Nat) ≠ 26 from by decide)
          try have hb3 := hb3.extOwn hbo97 hE97 (show (82 : Nat) ≠ 76 from by decide)
          try have hb7 := hb7.extOwn hbo97 hE97 (show (82 : Nat) ≠ 26 from by decide)
          have hX := hX0.trans hE97 fun y hy hF => by have e : b11 = y := congrArg Addr.block (Option.some.inj hF); omega
          obtain ⟨qR, kR, e1, e2, hR⟩ : ∃ q k, q = p97 ∧ k = c97 ∧ Own w97 q x.rows.length k 82 3 (x.rows.flatMap ChgD.cells) := ⟨_, _, rfl, rfl, by have h := ho97; rw [Nat.zero_add] at h; exact h⟩
          have nR := newW hX0 (newB fr11) hB97
          rw [← e1] at nR
          rw [← e1, ← e2, Nat.zero_add]
          refine wd_sw ?_
          have hb1o := hb1
          refine wb rfl (st_st I_ok hb1 rfl rfl rfl fun w98 hb1 hE98 hs98 => ?_)
          have hb2 := hb2.ext1 hE98 ne1_2.symm
          have hL := hL.extTy hE98 hb1o (by decide)
          have hP := hP.extTy hE98 hb1o (by decide)
          have hR := hR.extTy hE98 hb1o (by decide)
          have hX := hX.thenNew hE98 fr1
          have hb1 : Blk w98 b1 33 (objC x ⟨qL, kL, a.pp, a.pc, a.rp, a.rc⟩) := hb1
          refine wb rfl (st_p I_ok rfl rfl rfl ?_)
          have hb1o := hb1
          refine wb rfl (st_set I_ok hb1 rfl rfl (by rw [objC_len hx]; decide) fun w99 hb1 hE99 hs99 => ?_)
          have hb2 := hb2.ext1 hE99 ne1_2.symm
          have hL := hL.extTy hE99 hb1o (by decide)
          have hP := hP.extTy hE99 hb1o (by decide)
          have hR := hR.extTy hE99 hb1o (by decide)
          have hX := hX.thenNew hE99 fr1
          have hb1 : Blk w99 b1 33 (objC x ⟨qL, kL, qP, kP, a.rp, a.rc⟩) := (by have h : Blk _ b1 _ ((objC x ⟨qL, kL, a.pp, a.pc, a.rp, a.rc⟩).set (68 + 0) (.slice qP x.parents.length kP)) := hb1; rw [objC_parents hx] at h; exact h)
          refine wb rfl (st_p I_ok rfl rfl rfl (wb rfl (st_p I_ok rfl rfl rfl ?_)))
          have hb1o := hb1
          refine wb rfl (st_set I_ok hb1 rfl rfl (by rw [objC_len hx]; decide) fun w100 hb1 hE100 hs100 => ?_)
          have hb2 := hb2.ext1 hE100 ne1_2.symm
          have hL := hL.extTy hE100 hb1o (by decide)
          have hP := hP.extTy hE100 hb1o (by decide)
          have hR := hR.extTy hE100 hb1o (by decide)
          have hX := hX.thenNew hE100 fr1
          have hb1 : Blk w100 b1 33 (objC x ⟨qL, kL, qP, kP, qR, kR⟩) := (by have h : Blk _ b1 _ ((objC x ⟨qL, kL, qP, kP, a.rp, a.rc⟩).set (68 + 1) (.slice qR x.rows.length kR)) := hb1; rw [objC_rows hx] at h; exact h)
          refine wb_nil ?_
          exact f_cut (⟨qL, kL, qP, kP, qR, kR⟩) rfl ⟨⟨hL, hP, hR, nL, nP, nR⟩, hb1, hb2, hX⟩
        · refine st_bs I_ok rfl 32 rfl idZ_c.symm (by rw [bytesU_len]; rfl) (by decide) (by decide) trivial (l' := []) rfl fun b7 w101 hn7 hb7 hE101 hs101 => ⟨hC.thenNo hE101, ?_⟩
          have ne1_7 : b1 ≠ b7 := Nat.ne_of_lt (Nat.lt_of_lt_of_le hb1.lt hn7)
          have ne2_7 : b2 ≠ b7 := Nat.ne_of_lt (Nat.lt_of_lt_of_le hb2.lt hn7)
          have ne11_7 : b11 ≠ b7 := Nat.ne_of_lt (Nat.lt_of_lt_of_le hb11.lt hn7)
          have ne3_7 : b3 ≠ b7 := Nat.ne_of_lt (Nat.lt_of_lt_of_le hb3.lt hn7)
          have fr7 := Nat.le_trans hX.size hn7
          have frhC7 := Nat.le_trans hC.size hn7
          have hb1 := hb1.extNo hE101
          have hb2 := hb2.extNo hE101
          have hb11 := hb11.extNo hE101
          have hb3 := hb3.extNo hE101
          have hX := hX.thenNo hE101
          have hC := hC.thenNo hE101
          refine wx_plan [(3, false), (13, true), (7, false), (12, false)] 0 rfl (by kernel_rfl) ?_
          have hX0 := hX
          have hbsL := hb3
          refine wd_l rfl (st_app I_ok rfl 33 48 rfl rfl rfl (by decide) (Own.blk (n := 0) (c := 0) hb3 33 rfl (Nat.le_refl _) (by decide)) (Src.slice (hxl.leaves.extNo hX) OneC.h) (by dsimp only [maxLen]; omega) (by dsimp only; omega) fun p102 c102 w102 ho102 hE102 hB102 => ⟨hC.trans hE102 (fun y hy hF => by have e : b3 = y := congrArg Addr.block (Option.some.inj hF); omega), ?_⟩)
          have hC := hC.trans hE102 (fun y hy hF => by have e : b3 = y := congrArg Addr.block (Option.some.inj hF); omega)
          dsimp only at ho102 hE102 hB102 ⊢
          have hbo102 := Own.blk (n := 0) (c := 0) hbsL 33 rfl (Nat.le_refl _) (by decide)
          have hb1 := hb1.extOwn hbo102 hE102 (show (76 : Nat) ≠ 33 from by decide)
          have hb2 := hb2.extOwn hbo102 hE102 (show (76 : Nat) ≠ 33 from by decide)
          try have hP := hP.extOwn hbo102 hE102 (show (76 : Nat) ≠ 26 from by decide)
          try have hR := hR.extOwn hbo102 hE102 (show (76 : Nat) ≠ 82 from by decide)
          try have hb7 := hb7.extOwn hbo102 hE102 (show (76 : Nat) ≠ 26 from by decide)
          try have hb11 := hb11.extOwn hbo102 hE102 (show (76 : Nat) ≠ 82 from by decide)
          have hX := hX0.trans hE102 fun y hy hF => by have e : b3 = y := congrArg Addr.block (Option.some.inj hF); omega
          obtain ⟨qL, kL, e1, e2, hL⟩ : ∃ q k, q = p102 ∧ k = c102 ∧ Own w102 q x.leaves.length k 76 33 (x.leaves.flatMap LeafD.cells) := ⟨_, _, rfl, rfl, by have h := ho102; rw [Nat.zero_add] at h; exact h⟩
          have nL := newW hX0 (newB fr3) hB102
          rw [← e1] at nL
          rw [← e1, ← e2, Nat.zero_add]
          refine wd_k I_ok 1 rfl ?_
          have hX0 := hX
          have hbsP := hb7
          refine wd_l rfl (st_app I_ok rfl 32 32 rfl rfl rfl (by decide) (Own.blk (n := 0) (c := 0) hb7 32 rfl (Nat.le_refl _) (by decide)) (Src.slice (hxl.parents.extNo hX) OneC.h) (by dsimp only [maxLen]; omega) (by dsimp only; omega) fun p103 c103 w103 ho103 hE103 hB103 => ⟨hC.trans hE103 (fun y hy hF => by have e : b7 = y := congrArg Addr.block (Option.some.inj hF); omega), ?_⟩)
          have hC := hC.trans hE103 (fun y hy hF => by have e : b7 = y := congrArg Addr.block (Option.some.inj hF); omega)
          dsimp only at ho103 hE103 hB103 ⊢
          have hbo103 := Own.blk (n := 0) (c := 0) hbsP 32 rfl (Nat.le_refl _) (by decide)
          have hb1 := hb1.extOwn hbo103 hE103 (show (26 : Nat) ≠ 33 from by decide)
          have hb2 := hb2.extOwn hbo103 hE103 (show (26 : Nat) ≠ 33 from by decide)
          try have hL := hL.extOwn hbo103 hE103 (show (26 : Nat) ≠ 76 from by decide)
          try have hR := hR.extOwn hbo103 hE103 (show (26 : Nat) ≠ 82 from by decide)
          try have hb3 := hb3.extOwn hbo103 hE103 (show (26 : Nat) ≠ 76 from by decide)
          try have hb11 := hb11.extOwn hbo103 hE103 (show (26 : Nat) ≠ 82 from by decide)
          have hX := hX0.trans hE103 fun y hy hF => by have e : b7 = y := congrArg Addr.block (Option.some.inj hF); omega
          obtain ⟨qP, kP, e1, e2, hP⟩ : ∃ q k, q = p103 ∧ k = c103 ∧ Own w103 q x.parents.length k 26 32 (x.parents.flatMap bytesU) := ⟨_, _, rfl, rfl, by have h := ho103; rw [Nat.zero_add] at h; exact h⟩
          have nP := newW hX0 (newB fr7) hB103
          rw [← e1] at nP
          rw [← e1, ← e2, Nat.zero_add]
          have hX0 := hX
          have hbsR := hb11
          refine wd_l rfl (st_app I_ok rfl 3 40 rfl rfl rfl (by decide) (Own.blk (n := 0) (c := 0) hb11 3 rfl (Nat.le_refl _) (by decide)) (Src.slice (hxl.rows.extNo hX) OneC.h) (by dsimp only [maxLen]; omega) (by dsimp only; omega) fun p104 c104 w104 ho104 hE104 hB104 => ⟨hC.trans hE104 (fun y hy hF => by have e : b11 = y := congrArg Addr.block (Option.some.inj hF); omega), ?_⟩)
          have hC := hC.trans hE104 (fun y hy hF => by have e : b11 = y := congrArg Addr.block (Option.some.inj hF); omega)
          dsimp only at ho104 hE104 hB104 ⊢
          have hbo104 := Own.blk (n := 0) (c := 0) hbsR 3 rfl (Nat.le_refl _) (by decide)
          have hb1 := hb1.extOwn hbo104 hE104 (show (82 : Nat) ≠ 33 from by decide)
          have hb2 := hb2.extOwn hbo104 hE104 (show (82 : Nat) ≠ 33 from by decide)
          try have hL := hL.extOwn hbo104 hE104 (show (82 : Nat) ≠ 76 from by decide)
          try have hP := hP.extOwn hbo104 hE104 (show (82 : Nat) ≠ 26 from by decide)
          try have hb3 := hb3.extOwn hbo104 hE104 (show (82 : Nat) ≠ 76 from by decide)
          try have hb7 := hb7.extOwn hbo104 hE104 (show (82 : Nat) ≠ 26 from by decide)
          have hX := hX0.trans hE104 fun y hy hF => by have e : b11 = y := congrArg Addr.block (Option.some.inj hF); omega
          obtain ⟨qR, kR, e1, e2, hR⟩ : ∃ q k, q = p104 ∧ k = c104 ∧ Own w104 q x.rows.length k 82 3 (x.rows.flatMap ChgD.cells) := ⟨_, _, rfl, rfl, by have h := ho104; rw [Nat.zero_add] at h; exact h⟩
          have nR := newW hX0 (newB fr11) hB104
          rw [← e1] at nR
          rw [← e1, ← e2, Nat.zero_add]
          refine wd_sw ?_
          have hb1o := hb1
          refine wb rfl (st_st I_ok hb1 rfl rfl rfl fun w105 hb1 hE105 hs105 => ?_)
          have hb2 := hb2.ext1 hE105 ne1_2.symm
          have hL := hL.extTy hE105 hb1o (by decide)
          have hP := hP.extTy hE105 hb1o (by decide)
          have hR := hR.extTy hE105 hb1o (by decide)
          have hX := hX.thenNew hE105 fr1
          have hb1 : Blk w105 b1 33 (objC x ⟨qL, kL, a.pp, a.pc, a.rp, a.rc⟩) := hb1
          refine wb rfl (st_p I_ok rfl rfl rfl ?_)
          have hb1o := hb1
          refine wb rfl (st_set I_ok hb1 rfl rfl (by rw [objC_len hx]; decide) fun w106 hb1 hE106 hs106 => ?_)
          have hb2 := hb2.ext1 hE106 ne1_2.symm
          have hL := hL.extTy hE106 hb1o (by decide)
          have hP := hP.extTy hE106 hb1o (by decide)
          have hR := hR.extTy hE106 hb1o (by decide)
          have hX := hX.thenNew hE106 fr1
          have hb1 : Blk w106 b1 33 (objC x ⟨qL, kL, qP, kP, a.rp, a.rc⟩) := (by have h : Blk _ b1 _ ((objC x ⟨qL, kL, a.pp, a.pc, a.rp, a.rc⟩).set (68 + 0) (.slice qP x.parents.length kP)) := hb1; rw [objC_parents hx] at h; exact h)
          refine wb rfl (st_p I_ok rfl rfl rfl (wb rfl (st_p I_ok rfl rfl rfl ?_)))
          have hb1o := hb1
          refine wb rfl (st_set I_ok hb1 rfl rfl (by rw [objC_len hx]; decide) fun w107 hb1 hE107 hs107 => ?_)
          have hb2 := hb2.ext1 hE107 ne1_2.symm
          have hL := hL.extTy hE107 hb1o (by decide)
          have hP := hP.extTy hE107 hb1o (by decide)
          have hR := hR.extTy hE107 hb1o (by decide)
          have hX := hX.thenNew hE107 fr1
          have hb1 : Blk w107 b1 33 (objC x ⟨qL, kL, qP, kP, qR, kR⟩) := (by have h : Blk _ b1 _ ((objC x ⟨qL, kL, qP, kP, a.rp, a.rc⟩).set (68 + 1) (.slice qR x.rows.length kR)) := hb1; rw [objC_rows hx] at h; exact h)
          refine wb_nil ?_
          exact f_cut (⟨qL, kL, qP, kP, qR, kR⟩) rfl ⟨⟨hL, hP, hR, nL, nP, nR⟩, hb1, hb2, hX⟩
      · refine st_bs I_ok rfl 32 rfl idZ_c.symm (by rw [bytesU_len]; rfl) (by decide) (by decide) trivial (l' := []) rfl fun b7 w108 hn7 hb7 hE108 hs108 => ⟨hC.thenNo hE108, ?_⟩
        have ne1_7 : b1 ≠ b7 := Nat.ne_of_lt (Nat.lt_of_lt_of_le hb1.lt hn7)
        have ne2_7 : b2 ≠ b7 := Nat.ne_of_lt (Nat.lt_of_lt_of_le hb2.lt hn7)
        have ne11_7 : b11 ≠ b7 := Nat.ne_of_lt (Nat.lt_of_lt_of_le hb11.lt hn7)
        have fr7 := Nat.le_trans hX.size hn7
        have frhC7 := Nat.le_trans hC.size hn7
        have hb1 := hb1.extNo hE108
        have hb2 := hb2.extNo hE108
        have hb11 := hb11.extNo hE108
        have hX := hX.thenNo hE108
        have hC := hC.thenNo hE108
        refine wx_plan [(0, false), (3, false), (13, true), (7, false), (12, false)] 0 rfl (by kernel_rfl) ?_
        refine wd_l rfl (st_bs I_ok rfl 33 rfl leafZ_c (LeafD.len rfl) (by decide) (by decide) trivial (l' := []) rfl fun b3 w109 hn3 hb3 hE109 hs109 => ⟨hC.thenNo hE109, ?_⟩)
        have ne1_3 : b1 ≠ b3 := Nat.ne_of_lt (Nat.lt_of_lt_of_le hb1.lt hn3)
        have ne2_3 : b2 ≠ b3 := Nat.ne_of_lt (Nat.lt_of_lt_of_le hb2.lt hn3)
        have ne11_3 : b11 ≠ b3 := Nat.ne_of_lt (Nat.lt_of_lt_of_le hb11.lt hn3)
        have ne7_3 : b7 ≠ b3 := Nat.ne_of_lt (Nat.lt_of_lt_of_le hb7.lt hn3)
        have fr3 := Nat.le_trans hX.size hn3
        have frhC3 := Nat.le_trans hC.size hn3
        have hb1 := hb1.extNo hE109
        have hb2 := hb2.extNo hE109
        have hb11 := hb11.extNo hE109
        have hb7 := hb7.extNo hE109
        have hX := hX.thenNo hE109
        have hC := hC.thenNo hE109
        have hX0 := hX
        have hbsL := hb3
        refine wd_l rfl (st_app I_ok rfl 33 48 rfl rfl rfl (by decide) (Own.blk (n := 0) (c := 0) hb3 33 rfl (Nat.le_refl _) (by decide)) (Src.slice (hxl.leaves.extNo hX) OneC.h) (by dsimp only [maxLen]; omega) (by dsimp only; omega) fun p110 c110 w110 ho110 hE110 hB110 => ⟨hC.trans hE110 (fun y hy hF => by have e : b3 = y := congrArg Addr.block (Option.some.inj hF); omega), ?_⟩)
        have hC := hC.trans hE110 (fun y hy hF => by have e : b3 = y := congrArg Addr.block (Option.some.inj hF); omega)
        dsimp only at ho110 hE110 hB110 ⊢
        have hbo110 := Own.blk (n := 0) (c := 0) hbsL 33 rfl (Nat.le_refl _) (by decide)
        have hb1 := hb1.extOwn hbo110 hE110 (show (76 : Nat) ≠ 33 from by decide)
        have hb2 := hb2.extOwn hbo110 hE110 (show (76 : Nat) ≠ 33 from by decide)
        try have hP := hP.extOwn hbo110 hE110 (show (76 : Nat) ≠ 26 from by decide)
        try have hR := hR.extOwn hbo110 hE110 (show (76 : Nat) ≠ 82 from by decide)
        try have hb7 := hb7.extOwn hbo110 hE110 (show (76 : Nat) ≠ 26 from by decide)
        try have hb11 := hb11.extOwn hbo110 hE110 (show (76 : Nat) ≠ 82 from by decide)
        have hX := hX0.trans hE110 fun y hy hF => by have e : b3 = y := congrArg Addr.block (Option.some.inj hF); omega
        obtain ⟨qL, kL, e1, e2, hL⟩ : ∃ q k, q = p110 ∧ k = c110 ∧ Own w110 q x.leaves.length k 76 33 (x.leaves.flatMap LeafD.cells) := ⟨_, _, rfl, rfl, by have h := ho110; rw [Nat.zero_add] at h; exact h⟩
        have nL := newW hX0 (newB fr3) hB110
        rw [← e1] at nL
        rw [← e1, ← e2, Nat.zero_add]
        refine wd_k I_ok 1 rfl ?_
        have hX0 := hX
        have hbsP := hb7
        refine wd_l rfl (st_app I_ok rfl 32 32 rfl rfl rfl (by decide) (Own.blk (n := 0) (c := 0) hb7 32 rfl (Nat.le_refl _) (by decide)) (Src.slice (hxl.parents.extNo hX) OneC.h) (by dsimp only [maxLen]; omega) (by dsimp only; omega) fun p111 c111 w111 ho111 hE111 hB111 => ⟨hC.trans hE111 (fun y hy hF => by have e : b7 = y := congrArg Addr.block (Option.some.inj hF); omega), ?_⟩)
        have hC := hC.trans hE111 (fun y hy hF => by have e : b7 = y := congrArg Addr.block (Option.some.inj hF); omega)
        dsimp only at ho111 hE111 hB111 ⊢
        have hbo111 := Own.blk (n := 0) (c := 0) hbsP 32 rfl (Nat.le_refl _) (by decide)
        have hb1 := hb1.extOwn hbo111 hE111 (show (26 : Nat) ≠ 33 from by decide)
        have hb2 := hb2.extOwn hbo111 hE111 (show (26 : Nat) ≠ 33 from by decide)
        try have hL := hL.extOwn hbo111 hE111 (show (26 : Nat) ≠ 76 from by decide)
        try have hR := hR.extOwn hbo111 hE111 (show (26 : Nat) ≠ 82 from by decide)
        try have hb3 := hb3.extOwn hbo111 hE111 (show (26 : Nat) ≠ 76 from by decide)
        try have hb11 := hb11.extOwn hbo111 hE111 (show (26 : Nat) ≠ 82 from by decide)
        have hX := hX0.trans hE111 fun y hy hF => by have e : b7 = y := congrArg Addr.block (Option.some.inj hF); omega
        obtain ⟨qP, kP, e1, e2, hP⟩ : ∃ q k, q = p111 ∧ k = c111 ∧ Own w111 q x.parents.length k 26 32 (x.parents.flatMap bytesU) := ⟨_, _, rfl, rfl, by have h := ho111; rw [Nat.zero_add] at h; exact h⟩
        have nP := newW hX0 (newB fr7) hB111
        rw [← e1] at nP
        rw [← e1, ← e2, Nat.zero_add]
        have hX0 := hX
        have hbsR := hb11
        refine wd_l rfl (st_app I_ok rfl 3 40 rfl rfl rfl (by decide) (Own.blk (n := 0) (c := 0) hb11 3 rfl (Nat.le_refl _) (by decide)) (Src.slice (hxl.rows.extNo hX) OneC.h) (by dsimp only [maxLen]; omega) (by dsimp only; omega) fun p112 c112 w112 ho112 hE112 hB112 => ⟨hC.trans hE112 (fun y hy hF => by have e : b11 = y := congrArg Addr.block (Option.some.inj hF); omega), ?_⟩)
        have hC := hC.trans hE112 (fun y hy hF => by have e : b11 = y := congrArg Addr.block (Option.some.inj hF); omega)
        dsimp only at ho112 hE112 hB112 ⊢
        have hbo112 := Own.blk (n := 0) (c := 0) hbsR 3 rfl (Nat.le_refl _) (by decide)
        have hb1 := hb1.extOwn hbo112 hE112 (show (82 : Nat) ≠ 33 from by decide)
        have hb2 := hb2.extOwn hbo112 hE112 (show (82 : Nat) ≠ 33 from by decide)
        try have hL := hL.extOwn hbo112 hE112 (show (82 : Nat) ≠ 76 from by decide)
        try have hP := hP.extOwn hbo112 hE112 (show (82 : Nat) ≠ 26 from by decide)
        try have hb3 := hb3.extOwn hbo112 hE112 (show (82 : Nat) ≠ 76 from by decide)
        try have hb7 := hb7.extOwn hbo112 hE112 (show (82 : Nat) ≠ 26 from by decide)
        have hX := hX0.trans hE112 fun y hy hF => by have e : b11 = y := congrArg Addr.block (Option.some.inj hF); omega
        obtain ⟨qR, kR, e1, e2, hR⟩ : ∃ q k, q = p112 ∧ k = c112 ∧ Own w112 q x.rows.length k 82 3 (x.rows.flatMap ChgD.cells) := ⟨_, _, rfl, rfl, by have h := ho112; rw [Nat.zero_add] at h; exact h⟩
        have nR := newW hX0 (newB fr11) hB112
        rw [← e1] at nR
        rw [← e1, ← e2, Nat.zero_add]
        refine wd_sw ?_
        have hb1o := hb1
        refine wb rfl (st_st I_ok hb1 rfl rfl rfl fun w113 hb1 hE113 hs113 => ?_)
        have hb2 := hb2.ext1 hE113 ne1_2.symm
        have hL := hL.extTy hE113 hb1o (by decide)
        have hP := hP.extTy hE113 hb1o (by decide)
        have hR := hR.extTy hE113 hb1o (by decide)
        have hX := hX.thenNew hE113 fr1
        have hb1 : Blk w113 b1 33 (objC x ⟨qL, kL, a.pp, a.pc, a.rp, a.rc⟩) := hb1
        refine wb rfl (st_p I_ok rfl rfl rfl ?_)
        have hb1o := hb1
        refine wb rfl (st_set I_ok hb1 rfl rfl (by rw [objC_len hx]; decide) fun w114 hb1 hE114 hs114 => ?_)
        have hb2 := hb2.ext1 hE114 ne1_2.symm
        have hL := hL.extTy hE114 hb1o (by decide)
        have hP := hP.extTy hE114 hb1o (by decide)
        have hR := hR.extTy hE114 hb1o (by decide)
        have hX := hX.thenNew hE114 fr1
        have hb1 : Blk w114 b1 33 (objC x ⟨qL, kL, qP, kP, a.rp, a.rc⟩) := (by have h : Blk _ b1 _ ((objC x ⟨qL, kL, a.pp, a.pc, a.rp, a.rc⟩).set (68 + 0) (.slice qP x.parents.length kP)) := hb1; rw [objC_parents hx] at h; exact h)
        refine wb rfl (st_p I_ok rfl rfl rfl (wb rfl (st_p I_ok rfl rfl rfl ?_)))
        have hb1o := hb1
        refine wb rfl (st_set I_ok hb1 rfl rfl (by rw [objC_len hx]; decide) fun w115 hb1 hE115 hs115 => ?_)
        have hb2 := hb2.ext1 hE115 ne1_2.symm
        have hL := hL.extTy hE115 hb1o (by decide)
        have hP := hP.extTy hE115 hb1o (by decide)
        have hR := hR.extTy hE115 hb1o (by decide)
        have hX := hX.thenNew hE115 fr1
        have hb1 : Blk w115 b1 33 (objC x ⟨qL, kL, qP, kP, qR, kR⟩) := (by have h : Blk _ b1 _ ((objC x ⟨qL, kL, qP, kP, a.rp, a.rc⟩).set (68 + 1) (.slice qR x.rows.length kR)) := hb1; rw [objC_rows hx] at h; exact h)
        refine wb_nil ?_
        exact f_cut (⟨qL, kL, qP, kP, qR, kR⟩) rfl ⟨⟨hL, hP, hR, nL, nP, nR⟩, hb1, hb2, hX⟩
  rintro a' w116 ⟨hN, hb1, hb2, hX⟩
  refine c_seq (c_region (wl (st_ldB I_ok hb1 rfl (objC_len hx) ?_)))
  have hb2o := hb2
  refine wl (st_stW (l' := objC x a') I_ok hb2 rfl rfl (objC_len hx) (objC_len hx) OneC.h fun w117 hb2 hE117 hs117 => ?_)
  have hb1 := hb1.ext1 hE117 ne1_2
  have hN := hN.ext1 hE117 hb2o (by decide) (by decide) (by decide)
  have hX := hX.thenNew hE117 fr2
  refine wl_nil (f_then (c_ret (f_ret [_] ⟨⟨b2, 0, rfl, ld_all I_ok rfl rfl hb2.seg (objC_len hx)⟩, trivial⟩ ?_)))
  exact ⟨a', rfl, hN, hX⟩
end Go.Proofs.YtjghckniloikgaaDoor
namespace Go.Proofs.YtjghckniloikgaaDoor
open Go.Vc
/-- a taker that has taken so far -/
def TkS (w : World) (tb : Nat) (s : Ds) : Prop :=
  ∃ p c, Blk w tb 98 [.slice p s.rest.length c, .bool s.bad] ∧ s.rest.length ≤ c ∧ SlB w p s.rest ∧ TyU w p
theorem TkS.ext {S : Nat → Prop} {w w' : World} {tb : Nat} {s : Ds} (h : TkS w tb s) (hE : Ext S w w') (h1 : ¬ S tb) (h2 : ∀ b L, Blk w b 5 L → ¬ S b) : TkS w' tb s := by
  obtain ⟨p, c, hb, hc, hs, ht⟩ := h
  exact ⟨p, c, hb.ext hE h1, hc, SlB.extTy hs ht hE h2, ht.ext hE h2⟩
theorem TkS.extNo {w w' : World} {tb : Nat} {s : Ds} (h : TkS w tb s) (hE : Ext No w w') : TkS w' tb s := h.ext hE id fun _ _ _ => id
theorem TkS.lt {w : World} {tb : Nat} {s : Ds} (h : TkS w tb s) : tb < w.heap.size := by obtain ⟨_, _, hb, _⟩ := h; exact hb.lt
theorem TkS.ne {w : World} {tb : Nat} {s : Ds} (h : TkS w tb s) {b T : Nat} {L : List Value} (hb : Blk w b T L) (hT : 98 ≠ T) : tb ≠ b := by obtain ⟨_, _, h, _⟩ := h; exact h.ne hb hT
theorem TkS.ext1 {w w' : World} {tb : Nat} {s : Ds} (h : TkS w tb s) {x T : Nat} {L : List Value} (hE : Ext (One x) w w') (hb : Blk w x T L) (h1 : 98 ≠ T) (h2 : 5 ≠ T) : TkS w' tb s :=
  h.ext hE (fun e => h.ne hb h1 e) fun _b _L hL e => hL.ne hb h2 e
theorem TkS.cell {w : World} {tb : Nat} {s : Ds} (h : TkS w tb s) : w.cell? ⟨tb, 1, none⟩ = some (.bool s.bad) := by
  obtain ⟨_, _, hb, _⟩ := h
  exact hb.cell rfl
theorem off_bad {s : Ds} {n : Nat} (h : s.bad = true ∨ s.rest.length < n) : s.off n = ([], ⟨s.rest, true⟩) := if_pos h
theorem off_ok {s : Ds} {n : Nat} (h : ¬ (s.bad = true ∨ s.rest.length < n)) : s.off n = (s.rest.take n, ⟨s.rest.drop n, false⟩) := if_neg h
theorem raw_tk (w : World) {tb : Nat} {s : Ds} (h : TkS w tb s) (_hl : s.rest.length < 1000000000) (n : Nat) :
    CallsV Tryd.prog 84 [.pointer (some ⟨tb, 0, none⟩), .int .i64 (n : Int)] w fun v w' => ∃ q c, v = .slice q (s.off n).1.length c ∧ SlB w' q (s.off n).1 ∧ TkS w' tb (s.off n).2 ∧ Ext (One tb) w w' := by
  obtain ⟨p, c, htb, hcap, hs, ht⟩ := h
  have hty : ∀ (b : Nat) (L : List Value), Blk w b 5 L → ¬ One tb b := fun b L hb e => hb.ne htb (by decide) e
  refine calls_enter Tryd.func84 rfl rfl rfl rfl ?_
  have hX := Ext.refl (One tb) w
  refine c_seq (c_region (wl_p I_ok rfl (wl_nil (f_then (c_seq (c_cutK (α := Bool) [0, 1] rfl (fun z => [(18, .bool z)]) (fun z u => u = w ∧ z = decide (s.bad = true ∨ s.rest.length < n)) ?_ ?_))))))
  · refine c_region ?_
    refine wl_p I_ok rfl (wl (st_ld I_ok rfl (htb.cell rfl) (wl_p I_ok rfl (wl_case 10 rfl (fun hg => ?_) (fun hg => ?_)))))
    · refine wl_pk I_ok 8 rfl ?_
      refine wl_nil ?_
      exact f_cut (true) rfl ⟨rfl, by symm; rw [decide_eq_true_eq]; exact .inl hg⟩
    · refine wl_pk I_ok 4 rfl ?_
      refine wl (st_ld I_ok rfl (htb.cell rfl) (wl_pk I_ok 3 rfl (wl_nil ?_)))
      exact f_cut (_) rfl ⟨rfl, by rw [decide_eq_decide]; exact ⟨fun h => .inr (by omega), fun h => h.elim (fun h => by rw [hg] at h; cases h) (fun h => by omega)⟩⟩
  rintro z w1 ⟨hu, rfl⟩
  have hu := hu.symm
  subst hu
  refine c_if rfl (fun hc => ?_) (fun hc => ?_)
  · rw [off_bad hc]
    refine c_seq (c_region (wl_p I_ok rfl (wl (st_st I_ok htb rfl rfl rfl fun w2 htb2 hE2 hs2 => ?_))))
    have hX := hX.then hE2
    have hT : TkS w2 tb ⟨s.rest, true⟩ := ⟨p, c, htb2, hcap, SlB.extTy hs ht hE2 hty, ht.ext hE2 hty⟩
    refine wl_nil (f_then (c_seq (c_region (wl_p I_ok rfl (wl_nil (f_then (c_ret (f_thenR (f_ret1 rfl rfl ?_)))))))))
    exact ⟨none, 0, rfl, Sl.nil _ _ _, hT, hX⟩
  · rw [off_ok hc]
    have hnl : n ≤ s.rest.length := Nat.not_lt.1 fun h => hc (.inr h)
    have hbf : s.bad = false := by cases hb : s.bad; rfl; exact absurd (.inl hb) hc
    refine c_skip (f_then (c_seq (c_region (wl_p I_ok rfl (wl (st_ld I_ok rfl (htb.cell rfl) (wl_p I_ok rfl (wl (st_sl I_ok rfl 0 n c 1 rfl (.inr ⟨rfl, rfl⟩) (.inl rfl) (.inr ⟨rfl, rfl⟩) (Nat.zero_le _) (by omega) (Nat.le_refl _) ?_)))))))))
    dsimp only
    rw [slBase_zero, Nat.sub_zero, Nat.sub_zero]
    refine wl_p I_ok rfl (wl_nil (f_then (c_seq (c_region (wl_p I_ok rfl (wl (st_ld I_ok rfl (htb.cell rfl) (wl_p I_ok rfl (wl (st_sl I_ok rfl n s.rest.length c 1 rfl (.inr ⟨rfl, rfl⟩) (.inr ⟨rfl, rfl⟩) (.inl rfl) hnl hcap (Nat.le_refl _) ?_))))))))))
    dsimp only
    refine wl_p I_ok rfl (wl (st_st I_ok htb rfl rfl rfl fun w3 htb2 hE3 hs3 => ?_))
    have hX := hX.then hE3
    have hs1 := hs.slice 0 n n (Nat.zero_le _) (Nat.le_refl _) hnl
    have hs2 := hs.slice n s.rest.length c hnl hcap (Nat.le_refl _)
    rw [slBase_zero, Nat.sub_zero, Nat.zero_mul, List.drop_zero, Nat.mul_one, bytesU_take] at hs1
    rw [Nat.mul_one, Nat.mul_one, bytesU_drop, bytesU_take, List.take_of_length_le (by simp)] at hs2
    have l1 : (s.rest.take n).length = n := by rw [List.length_take]; omega
    have l2 : (s.rest.drop n).length = s.rest.length - n := by simp
    have hs1 : SlB w p (s.rest.take n) := by rw [SlB, l1]; exact hs1
    have hs2 : SlB w (slBase p n c 1) (s.rest.drop n) := by rw [SlB, l2]; exact hs2
    have htb : Blk w3 tb 98 [.slice (slBase p n c 1) (s.rest.drop n).length (c - n), .bool false] := by rw [l2, ← hbf]; exact htb2
    have hT : TkS w3 tb ⟨s.rest.drop n, false⟩ := ⟨_, _, htb, by rw [l2]; omega, SlB.extTy hs2 (ht.sub _ _ _) hE3 hty, (ht.sub _ _ _).ext hE3 hty⟩
    have hq := SlB.extTy hs1 ht hE3 hty
    refine wl_nil (f_then (c_seq (c_region (wl_p I_ok rfl (wl_nil (f_then (c_ret (f_ret1 rfl rfl ?_))))))))
    exact ⟨p, c, by rw [l1], hq, hT, hX⟩

theorem num_tk (w : World) {tb : Nat} {s : Ds} (h : TkS w tb s) (hl : s.rest.length < 1000000000) (n : Nat) (hn : n ≤ 8) :
    CallsV Tryd.prog 51 [.pointer (some ⟨tb, 0, none⟩), .int .i64 (n : Int)] w fun v w' => v = .int .u64 ((num (s.off n).1 : Nat) : Int) ∧ TkS w' tb (s.off n).2 ∧ Ext (One tb) w w' := by
  refine calls_enter Tryd.func51 rfl rfl rfl rfl ?_
  have hX := Ext.refl (One tb) w
  refine c_seq (c_region (wl_p I_ok rfl (wl_nil (f_then (c_seq (c_region (wl_p I_ok rfl (wl (st_call Tryd.call84 rfl rfl rfl rfl rfl rfl (raw_tk w h hl n) fun v1 w1 hr1 => ?_)))))))))
  obtain ⟨q, c, rfl, hq, hT, hE1⟩ := hr1
  have hX := hX.then hE1
  have hol := (s.off_len n).1
  refine wl (st_call Tryd.call83 rfl rfl rfl rfl rfl rfl (number_calls w1 hq (by omega)) fun v2 w2 hr2 => ?_)
  obtain ⟨rfl, rfl⟩ := hr2
  refine wl_p I_ok rfl (wl_nil (f_then (c_ret (f_ret1 rfl rfl ?_))))
  exact ⟨rfl, hT, hX⟩

theorem text_tk (w : World) {tb : Nat} {s : Ds} (h : TkS w tb s) (hl : s.rest.length < 1000000000) (n : Nat) (hn : n ≤ 4) :
    CallsV Tryd.prog 52 [.pointer (some ⟨tb, 0, none⟩), .int .i64 (n : Int)] w fun v w' => v = strV (s.str n).1 ∧ TkS w' tb (s.str n).2 ∧ Ext (One tb) w w' := by
  have hnm := s.num_lt n
  have hpw : 256 ^ n ≤ 256 ^ 4 := Nat.pow_le_pow_right (by decide) hn
  have hol := s.off_len n
  refine calls_enter Tryd.func52 rfl rfl rfl rfl ?_
  have hX := Ext.refl (One tb) w
  refine c_seq (c_region (wl_p I_ok rfl (wl_nil (f_then (c_seq (c_region (wl_p I_ok rfl (wl (st_call Tryd.call51 rfl rfl rfl rfl rfl rfl (num_tk w h hl n (by omega)) fun v1 w1 hr1 => ?_)))))))))
  obtain ⟨rfl, hT, hE1⟩ := hr1
  have hX := hX.then hE1
  refine wl_p I_ok rfl ?_
  rw [IntWalk.i64_in _ (by omega)]
  refine wl (st_call Tryd.call84 rfl rfl rfl rfl rfl rfl (raw_tk w1 hT (by omega) (num (s.off n).1)) fun v2 w2 hr2 => ?_)
  obtain ⟨q, c, rfl, hq, hT2, hE2⟩ := hr2
  have hX := hX.then hE2
  refine wl (st_b2s I_ok rfl rfl hq (wl_p I_ok rfl (wl_nil (f_then (c_ret (f_ret1 rfl rfl ?_))))))
  exact ⟨rfl, hT2, hX⟩

theorem id_tk (w : World) {tb : Nat} {s : Ds} (h : TkS w tb s) (hl : s.rest.length < 1000000000) :
    CallsV Tryd.prog 53 [.pointer (some ⟨tb, 0, none⟩)] w fun v w' => v = .agg (bytesU s.id.1).toArray ∧ TkS w' tb s.id.2 ∧ Ext (One tb) w w' := by
  refine calls_enter Tryd.func53 rfl rfl rfl rfl ?_
  have hX := Ext.refl (One tb) w
  refine c_seq (c_region (wl (st_al I_ok rfl fun b2 w1 hn2 hb2 hE1 => ?_)))
  have fr2 := Nat.le_trans hX.size hn2
  have hX := hX.thenNo hE1
  have hb2 : Blk w1 b2 26 (bytesU idZ) := (by rw [idZ_c]; exact hb2)
  have hT := h.extNo hE1
  have hr2 := (hT.ne hb2 (by decide)).symm
  refine wl_nil (f_then (c_seq (c_region (wl (st_al I_ok rfl fun b3 w2 hn3 hb3 hE2 => ?_)))))
  have ne2_3 : b2 ≠ b3 := Nat.ne_of_lt (Nat.lt_of_lt_of_le hb2.lt hn3)
  have fr3 := Nat.le_trans hX.size hn3
  have hb2 := hb2.extNo hE2
  have hX := hX.thenNo hE2
  have hb3 : Blk w2 b3 26 (bytesU idZ) := (by rw [idZ_c]; exact hb3)
  have hT := hT.extNo hE2
  have hr3 := (hT.ne hb3 (by decide)).symm
  refine wl_nil (f_then (c_seq (c_draw rfl 4 [(0, true), (1, true), (2, false), (3, false)] [] ((fun x => x = tb ∨ x = b3)) (by kernel_rfl) fun w3 hE3 hs3 => ?_)))
  have hd2 := hb2
  have hd3 := hb3
  have hXd := hX
  have hb2 := hb2.extNo hE3
  have hb3 := hb3.extNo hE3
  have hX := hX.thenNo hE3
  have hC : Ext ((fun x => x = tb ∨ x = b3)) _ w3 := hE3.no
  have hT := hT.extNo hE3
  have hol := s.off_len 32
  refine wd_sa I_ok rfl rfl 0 32 32 1 rfl ⟨.inr ⟨rfl, rfl⟩, .inr ⟨rfl, rfl⟩, .inr ⟨rfl, rfl⟩, by decide, by decide, by decide⟩ ?_
  rw [slBase_zero, Nat.sub_zero]
  refine wd_k I_ok 1 rfl (wd_l rfl (st_call Tryd.call84 rfl rfl rfl rfl rfl rfl (raw_tk w3 hT hl 32) fun v4 w4 hr4 => ⟨(by obtain ⟨q, c, rfl, hq, hT2, hE4⟩ := hr4; exact hC.then (hE4.mono fun _ _ e => .inl e)), ?_⟩))
  obtain ⟨q, c, rfl, hq, hT2, hE4⟩ := hr4
  have hb2 := hb2.ext1 hE4 hr2
  have hb3 := hb3.ext1 hE4 hr3
  have hX := hX.then hE4
  have hC := hC.then (hE4.mono fun _ _ e => .inl e)
  have hb3o := hb3
  refine wd_l rfl (st_cp I_ok rfl 1 rfl hb3 (Src.slice hq OneC.h) hol.1 (by rw [bytesU_len]; dsimp only; have := hol.1; simp; omega) fun w5 hc5 hE5 hs5 => ⟨hC.then (hE5.mono fun _ _ e => .inr e), ?_⟩)
  have hC := hC.then (hE5.mono fun _ _ e => .inr e)
  have hb2 := hb2.ext1 hE5 ne2_3
  have hb3 : Blk w5 b3 26 (bytesU s.id.1) := by rw [Ds.id, ← idZ_fill hol.1]; exact hc5
  have hX := hX.thenNew hE5 fr3
  have hT3 := hT2.ext1 hE5 hb3o (by decide) (by decide)
  refine wd_sw (wb_nil (f_then (c_seq (c_region (wl (st_ldB I_ok hb3 rfl (by rw [bytesU_len, s.id_len.1]) ?_))))))
  have hb2o := hb2
  refine wl (st_stW (l' := bytesU s.id.1) I_ok hb2 rfl rfl (by rw [bytesU_len, s.id_len.1]) (by rw [bytesU_len, s.id_len.1]; rfl) OneC.h fun w6 hb2 hE6 hs6 => ?_)
  have hb3 := hb3.ext1 hE6 ne2_3.symm
  have hX := hX.thenNew hE6 fr2
  have hT4 := hT3.ext1 hE6 hb2o (by decide) (by decide)
  refine wl_nil (f_then (c_ret (f_ret [_] ⟨⟨b2, 0, rfl, ld_all I_ok rfl rfl hb2.seg (by rw [bytesU_len, s.id_len.1]; rfl)⟩, trivial⟩ ?_)))
  exact ⟨rfl, hT4, hX⟩
end Go.Proofs.YtjghckniloikgaaDoor
namespace Go.Proofs.YtjghckniloikgaaDoor
open Go.Vc
structure TecS (W0 w : World) (rb b5 : Nat) (o : ObjD) (a : ObjP) (s : Ds) : Prop where
  tk : TkS w rb s
  bo : Blk w b5 33 (objC o a)
  ol : Own w a.lp o.leaves.length a.lc 76 33 (o.leaves.flatMap LeafD.cells)
  op : Own w a.pp o.parents.length a.pc 26 32 (o.parents.flatMap bytesU)
  or : Own w a.rp o.rows.length a.rc 82 3 (o.rows.flatMap ChgD.cells)
  nl : ∀ x, OwnB a.lp x → W0.heap.size ≤ x
  np : ∀ x, OwnB a.pp x → W0.heap.size ≤ x
  nr : ∀ x, OwnB a.rp x → W0.heap.size ≤ x
  fr : W0.heap.size ≤ rb
  fo : W0.heap.size ≤ b5
  X : Ext No W0 w
  len : s.rest.length < 1000000000
  oin : ObjIn o
  sh : Short o
section
variable {W0 w w' w1 w2 : World} {rb b5 : Nat} {o : ObjD} {a : ObjP} {s s' : Ds}
theorem TecS.extNo (h : TecS W0 w rb b5 o a s) (hE : Ext No w w') : TecS W0 w' rb b5 o a s :=
  ⟨h.tk.extNo hE, h.bo.extNo hE, h.ol.ext hE fun _ _ => id, h.op.ext hE fun _ _ => id, h.or.ext hE fun _ _ => id, h.nl, h.np, h.nr, h.fr, h.fo, h.X.thenNo hE, h.len, h.oin, h.sh⟩
theorem TecS.neR (h : TecS W0 w rb b5 o a s) {b T : Nat} {L : List Value} (hb : Blk w b T L) (hT : 98 ≠ T) : b ≠ rb := (h.tk.ne hb hT).symm
theorem TecS.read (h : TecS W0 w rb b5 o a s) (hR : TkS w' rb s') (hE : Ext (One rb) w w') (hl : s'.rest.length ≤ s.rest.length) : TecS W0 w' rb b5 o a s' := by
  have rt : ∀ {x T : Nat} {L : List Value}, Blk w x T L → 98 ≠ T → Blk w' x T L := fun hb hT => hb.ext1 hE (h.neR hb hT)
  have ow : ∀ {p : Option Addr} {n c T sz : Nat} {xs : List Value}, Own w p n c T sz xs → 98 ≠ T → Own w' p n c T sz xs := fun ho hT => ho.ext hE fun x hx e => by
    have e : x = rb := e
    obtain ⟨l, hl⟩ := ho.blkAt hx
    exact h.neR hl hT e
  exact ⟨hR, rt h.bo (by decide), ow h.ol (by decide), ow h.op (by decide), ow h.or (by decide), h.nl, h.np, h.nr, h.fr, h.fo, h.X.trans hE fun y hy hF => by have hF : y = rb := hF; have := h.fr; omega, Nat.lt_of_le_of_lt hl h.len, h.oin, h.sh⟩
/-- a block that has come since is none of these -/
structure SepT (W0 : World) (rb b5 : Nat) (a : ObjP) (x : Nat) : Prop where
  r : rb ≠ x
  o : b5 ≠ x
  l : ¬ OwnB a.lp x
  p : ¬ OwnB a.pp x
  c : ¬ OwnB a.rp x
  n : W0.heap.size ≤ x
theorem TecS.sep (h : TecS W0 w rb b5 o a s) {x : Nat} (hx : w.heap.size ≤ x) : SepT W0 rb b5 a x :=
  ⟨by have := h.tk.lt; omega, by have := h.bo.lt; omega, fun e => by have := h.ol.lt e; omega, fun e => by have := h.op.lt e; omega, fun e => by have := h.or.lt e; omega, Nat.le_trans h.X.size hx⟩
theorem TecS.ext1 (h : TecS W0 w rb b5 o a s) {x T : Nat} {L : List Value} (hs : SepT W0 rb b5 a x) (hb : Blk w x T L) (hT : 5 ≠ T) (hE : Ext (One x) w w') : TecS W0 w' rb b5 o a s :=
  ⟨h.tk.ext hE hs.r fun b L hL e => hL.ne hb hT e, h.bo.ext1 hE hs.o, h.ol.ext hE fun y hy e => by have e : y = x := e; subst e; exact hs.l hy, h.op.ext hE fun y hy e => by have e : y = x := e; subst e; exact hs.p hy, h.or.ext hE fun y hy e => by have e : y = x := e; subst e; exact hs.c hy,
    h.nl, h.np, h.nr, h.fr, h.fo, h.X.thenNew hE hs.n, h.len, h.oin, h.sh⟩
/-- a field that is no row -/
theorem TecS.put (h : TecS W0 w rb b5 o a s) (hE : Ext (One b5) w w') {o' : ObjD} (hb : Blk w' b5 33 (objC o' a)) (e1 : o'.leaves = o.leaves) (e2 : o'.parents = o.parents) (e3 : o'.rows = o.rows) (hi : ObjIn o') (hs : Short o') : TecS W0 w' rb b5 o' a s :=
  ⟨h.tk.ext1 hE h.bo (by decide) (by decide), hb, by rw [e1]; exact h.ol.extTy hE h.bo (by decide), by rw [e2]; exact h.op.extTy hE h.bo (by decide), by rw [e3]; exact h.or.extTy hE h.bo (by decide),
    h.nl, h.np, h.nr, h.fr, h.fo, h.X.trans hE fun y hy hF => by have hF : y = b5 := hF; have := h.fo; omega, h.len, hi, hs⟩
theorem TkS.extOwn (h : TkS w rb s) {p : Option Addr} {n c T sz : Nat} {xs : List Value} (ho : Own w p n c T sz xs) (hE : Ext (OwnB p) w w') (h1 : 98 ≠ T) (h2 : 5 ≠ T) : TkS w' rb s :=
  h.ext hE (fun hx => by obtain ⟨l, hl⟩ := ho.blkAt hx; exact h.ne hl h1 rfl) fun b L hL hx => (ho.neTy hx hL (Ne.symm h2)) rfl
/-- a leaf more -/
theorem TecS.putLeaf (h : TecS W0 w rb b5 o a s) {p : Option Addr} {c : Nat} {r : LeafD} (hE1 : Ext (OwnB a.lp) w w1) (ho : Own w1 p (o.leaves.length + 1) c 76 33 (o.leaves.flatMap LeafD.cells ++ r.cells)) (hB : ∀ x, OwnB p x → OwnB a.lp x ∨ w.heap.size ≤ x)
    (hE2 : Ext (One b5) w1 w2) (hb : Blk w2 b5 33 (objC { o with leaves := o.leaves ++ [r] } ⟨p, c, a.pp, a.pc, a.rp, a.rc⟩)) (hr : LeafIn r) (hp : r.path.length < 1000000000) (hn : o.leaves.length < 255) :
    TecS W0 w2 rb b5 { o with leaves := o.leaves ++ [r] } ⟨p, c, a.pp, a.pc, a.rp, a.rc⟩ s := by
  have bo1 := h.bo.extOwn h.ol hE1 (by decide)
  have e1 : (o.leaves ++ [r]).length = o.leaves.length + 1 := by rw [List.length_append]; rfl
  have e2 : (o.leaves ++ [r]).flatMap LeafD.cells = o.leaves.flatMap LeafD.cells ++ r.cells := by rw [List.flatMap_append]; simp
  exact ⟨(h.tk.extOwn h.ol hE1 (by decide) (by decide)).ext1 hE2 bo1 (by decide) (by decide), hb,
    by rw [e1, e2]; exact ho.extTy hE2 bo1 (by decide), (h.op.extOwn h.ol hE1 (by decide)).extTy hE2 bo1 (by decide), (h.or.extOwn h.ol hE1 (by decide)).extTy hE2 bo1 (by decide),
    newW h.X h.nl hB, h.np, h.nr, h.fr, h.fo,
    (h.X.trans hE1 fun y hy hF => by have := h.nl y hF; omega).trans hE2 fun y hy hF => by have hF : y = b5 := hF; have := h.fo; omega,
    h.len, ⟨h.oin.tree, h.oin.base, h.oin.parents, fun x hx => by rcases List.mem_append.1 hx with hx | hx; exact h.oin.leaves x hx; rw [List.mem_singleton.1 hx]; exact hr, h.oin.rows, h.oin.number, h.oin.author⟩, ⟨by show (o.leaves ++ [r]).length < _; omega, h.sh.parents, h.sh.rows, fun x hx => by rcases List.mem_append.1 hx with hx | hx; exact h.sh.leafP x hx; rw [List.mem_singleton.1 hx]; exact hp, h.sh.rowP⟩⟩
/-- a parent more -/
theorem TecS.putId (h : TecS W0 w rb b5 o a s) {p : Option Addr} {c : Nat} {r : List UInt8} (hE1 : Ext (OwnB a.pp) w w1) (ho : Own w1 p (o.parents.length + 1) c 26 32 (o.parents.flatMap bytesU ++ bytesU r)) (hB : ∀ x, OwnB p x → OwnB a.pp x ∨ w.heap.size ≤ x)
    (hE2 : Ext (One b5) w1 w2) (hb : Blk w2 b5 33 (objC { o with parents := o.parents ++ [r] } ⟨a.lp, a.lc, p, c, a.rp, a.rc⟩)) (hr : IdIn r) (hn : o.parents.length < 255) :
    TecS W0 w2 rb b5 { o with parents := o.parents ++ [r] } ⟨a.lp, a.lc, p, c, a.rp, a.rc⟩ s := by
  have bo1 := h.bo.extOwn h.op hE1 (by decide)
  have e1 : (o.parents ++ [r]).length = o.parents.length + 1 := by rw [List.length_append]; rfl
  have e2 : (o.parents ++ [r]).flatMap bytesU = o.parents.flatMap bytesU ++ bytesU r := by rw [List.flatMap_append]; simp
  exact ⟨(h.tk.extOwn h.op hE1 (by decide) (by decide)).ext1 hE2 bo1 (by decide) (by decide), hb,
    (h.ol.extOwn h.op hE1 (by decide)).extTy hE2 bo1 (by decide), by rw [e1, e2]; exact ho.extTy hE2 bo1 (by decide), (h.or.extOwn h.op hE1 (by decide)).extTy hE2 bo1 (by decide),
    h.nl, newW h.X h.np hB, h.nr, h.fr, h.fo,
    (h.X.trans hE1 fun y hy hF => by have := h.np y hF; omega).trans hE2 fun y hy hF => by have hF : y = b5 := hF; have := h.fo; omega,
    h.len, ⟨h.oin.tree, h.oin.base, fun x hx => by rcases List.mem_append.1 hx with hx | hx; exact h.oin.parents x hx; rw [List.mem_singleton.1 hx]; exact hr, h.oin.leaves, h.oin.rows, h.oin.number, h.oin.author⟩, ⟨h.sh.leaves, by show (o.parents ++ [r]).length < _; omega, h.sh.rows, h.sh.leafP, h.sh.rowP⟩⟩
/-- a change more -/
theorem TecS.putChg (h : TecS W0 w rb b5 o a s) {p : Option Addr} {c : Nat} {r : ChgD} (hE1 : Ext (OwnB a.rp) w w1) (ho : Own w1 p (o.rows.length + 1) c 82 3 (o.rows.flatMap ChgD.cells ++ r.cells)) (hB : ∀ x, OwnB p x → OwnB a.rp x ∨ w.heap.size ≤ x)
    (hE2 : Ext (One b5) w1 w2) (hb : Blk w2 b5 33 (objC { o with rows := o.rows ++ [r] } ⟨a.lp, a.lc, a.pp, a.pc, p, c⟩)) (hr : ChgIn r) (hp : r.path.length < 1000000000) (hn : o.rows.length < 255) :
    TecS W0 w2 rb b5 { o with rows := o.rows ++ [r] } ⟨a.lp, a.lc, a.pp, a.pc, p, c⟩ s := by
  have bo1 := h.bo.extOwn h.or hE1 (by decide)
  have e1 : (o.rows ++ [r]).length = o.rows.length + 1 := by rw [List.length_append]; rfl
  have e2 : (o.rows ++ [r]).flatMap ChgD.cells = o.rows.flatMap ChgD.cells ++ r.cells := by rw [List.flatMap_append]; simp
  exact ⟨(h.tk.extOwn h.or hE1 (by decide) (by decide)).ext1 hE2 bo1 (by decide) (by decide), hb,
    (h.ol.extOwn h.or hE1 (by decide)).extTy hE2 bo1 (by decide), (h.op.extOwn h.or hE1 (by decide)).extTy hE2 bo1 (by decide), by rw [e1, e2]; exact ho.extTy hE2 bo1 (by decide),
    h.nl, h.np, newW h.X h.nr hB, h.fr, h.fo,
    (h.X.trans hE1 fun y hy hF => by have := h.nr y hF; omega).trans hE2 fun y hy hF => by have hF : y = b5 := hF; have := h.fo; omega,
    h.len, ⟨h.oin.tree, h.oin.base, h.oin.parents, h.oin.leaves, fun x hx => by rcases List.mem_append.1 hx with hx | hx; exact h.oin.rows x hx; rw [List.mem_singleton.1 hx]; exact hr, h.oin.number, h.oin.author⟩, ⟨h.sh.leaves, h.sh.parents, by show (o.rows ++ [r]).length < _; omega, h.sh.leafP, fun x hx => by rcases List.mem_append.1 hx with hx | hx; exact h.sh.rowP x hx; rw [List.mem_singleton.1 hx]; exact hp⟩⟩
end
theorem TecS.new {W0 w : World} {rb b5 : Nat} {o : ObjD} {a : ObjP} {s : Ds} (h : TecS W0 w rb b5 o a s) : ObjNew W0 w o a := ⟨h.ol, h.op, h.or, h.nl, h.np, h.nr⟩
end Go.Proofs.YtjghckniloikgaaDoor
namespace Go.Proofs.YtjghckniloikgaaDoor
open Go.Vc
theorem first_bad {l : List UInt8} : ((⟨l, false⟩ : Ds).off 1).2.bad = true ↔ l = [] := by
  cases l with
  | nil => simp [Ds.off]
  | cons x r => simp [Ds.off]
theorem row_step {α : Type} {f : Ds → α × Ds} {s0 s : Ds} {acc : List α} {n i : Nat} (h : s0.row f = (acc ++ (Ds.each f (n - i) s).1, (Ds.each f (n - i) s).2)) (hi : i < n) (hb : s.bad = false) :
    s0.row f = ((acc ++ [(f s).1]) ++ (Ds.each f (n - (i + 1)) (f s).2).1, (Ds.each f (n - (i + 1)) (f s).2).2) := by
  rw [show n - i = (n - (i + 1)) + 1 from by omega, Ds.each_step hb] at h
  rw [h]
  simp
theorem row_end {α : Type} {f : Ds → α × Ds} {s0 s : Ds} {acc : List α} {n i : Nat} (h : s0.row f = (acc ++ (Ds.each f (n - i) s).1, (Ds.each f (n - i) s).2)) (hi : ¬ (i < n ∧ s.bad = false)) : s0.row f = (acc, s) := by
  rw [h, Ds.each_end (by
    by_cases h0 : i < n
    · cases hb : s.bad
      · exact absurd ⟨h0, hb⟩ hi
      · exact .inr rfl
    · exact .inl (by omega)), List.append_nil]
theorem decode6_calls (w : World) {p : Option Addr} {c : Nat} {l : List UInt8} (h : SlB w p l) (ht : TyU w p) (hc0 : l.length ≤ c) (hl : l.length < 1000000000) :
    CallsV Tryd.prog 23 [.slice p l.length c] w fun v w' => ∃ a, v = .tuple #[.agg (objC (decB l).1 a).toArray, .int .i64 (decB l).2] ∧ ObjNew w w' (decB l).1 a ∧ Ext No w w' := by
  refine calls_enter Tryd.func23 rfl rfl rfl rfl ?_
  have hX := Ext.refl No w
  refine c_seq (c_region (wl (st_al I_ok rfl fun b2 w1 hn2 hb2 hE1 => ?_)))
  have fr2 := Nat.le_trans hX.size hn2
  have hX := hX.thenNo hE1
  have hb2o := hb2
  have hX1 := hX
  refine wl_p I_ok rfl (wl_nil (f_then (c_seq (c_region (wl_p I_ok rfl (wl (st_bd I_ok rfl ⟨⟨rfl, by decide⟩, trivial⟩ (l' := [.slice p l.length c, .bool false]) rfl (wl (st_al I_ok rfl fun b16 w2 hn16 hb16 hE2 => ?_)))))))))
  have ne2_16 : b2 ≠ b16 := Nat.ne_of_lt (Nat.lt_of_lt_of_le hb2.lt hn16)
  have fr16 := Nat.le_trans hX.size hn16
  have hb2 := hb2.extNo hE2
  have hX := hX.thenNo hE2
  have hb16 : Blk w2 b16 98 ([.slice p l.length c, .bool false]) := hb16
  have hn16o := hn16
  have hT : TkS w2 b16 ⟨l, false⟩ := ⟨p, c, hb16, hc0, h.extNo hX, ht.ext hX fun _ _ _ => id⟩
  refine wl_p I_ok rfl (wl_nil (f_then (c_seq (c_region (wl_p I_ok rfl (wl (st_call Tryd.call51 rfl rfl rfl rfl rfl rfl (num_tk w2 hT hl 1 (by decide)) fun v3 w3 hr3 => ?_)))))))
  obtain ⟨rfl, hR2, hE3⟩ := hr3
  have hb2 := hb2.ext1 hE3 (hT.ne hb2 (by decide)).symm
  have hX := hX.trans hE3 fun y hy hF => by have hF : y = b16 := hF; omega
  have hT := hR2
  have hnm := (⟨l, false⟩ : Ds).num_lt 1
  refine wl_p I_ok rfl ?_
  rw [IntWalk.i64_in _ (by omega)]
  obtain ⟨k, hk⟩ : ∃ k, k = num ((⟨l, false⟩ : Ds).off 1).1 := ⟨_, rfl⟩
  rw [← hk]
  refine wl (st_bd I_ok rfl ⟨⟨rfl, by decide⟩, trivial⟩ (l' := objC { objZ with kind := (k : Int) } noP) (by rw [← objZ_c]; rfl) (wl (st_al I_ok rfl fun b5 w4 hn5 hb5 hE4 => ?_)))
  have ne2_5 : b2 ≠ b5 := Nat.ne_of_lt (Nat.lt_of_lt_of_le hb2.lt hn5)
  have fr5 := Nat.le_trans hX.size hn5
  have hb2 := hb2.extNo hE4
  have hT := TkS.extNo hT hE4
  have hX := hX.thenNo hE4
  have hb5o := hb5
  refine wl (st_stW (l' := objC { objZ with kind := (k : Int) } noP) I_ok hb5 rfl rfl rfl rfl OneC.h fun w5 hb5 hE5 hs5 => ?_)
  have hb2 := hb2.ext1 hE5 ne2_5
  have hT := TkS.ext1 hT hE5 hb5o (by decide) (by decide)
  have hX := hX.thenNew hE5 fr5
  have z1 := hX1.size
  have z2 := hE2.size
  have z3 := hE3.size
  have z4 := hE4.size
  have hXX : Ext No w1 w5 := (((hE2.trans hE3 fun y hy hF => by have hF : y = b16 := hF; omega).thenNo hE4).thenNew hE5 (by omega))
  have hD : TecS w1 w5 b16 b5 { objZ with kind := (k : Int) } noP ((⟨l, false⟩ : Ds).off 1).2 := ⟨hT, hb5, Own.nil _ _ _, Own.nil _ _ _, Own.nil _ _ _, noOwn, noOwn, noOwn, hn16o, by omega, hXX, Ds.off_lt hl, ⟨objZ_in.tree, objZ_in.base, objZ_in.parents, objZ_in.leaves, objZ_in.rows, objZ_in.number, objZ_in.author⟩, ⟨objZ_sh.leaves, objZ_sh.parents, objZ_sh.rows, objZ_sh.leafP, objZ_sh.rowP⟩⟩
  refine wl_nil (f_then ?_)
  refine c_cutK (α := ObjD × ObjP × Ds) [0, 2, 4, 5] rfl (fun z => []) (fun z u => (TecS w1 u b16 b5 z.1 z.2.1 z.2.2 ∧ (l = [] ∧ z.2.2.bad = true ∨ l ≠ [] ∧ decB l = endB l (z.1, z.2.2))) ∧ Blk u b2 33 (cellsOf ti33.zero) ∧ Ext No w u) ?_ ?_
  · refine c_block ?_
    refine c_seq (c_region (wl_p I_ok rfl (wl (st_ld I_ok rfl hD.tk.cell (wl_p I_ok rfl (wl_nil (f_then (c_cond rfl (fun hc => ?_) (fun hc => ?_)))))))))
    · have hle := first_bad.1 hc
      refine c_skip ?_
      exact f_blockN (f_cut (_, _, _) rfl ⟨⟨hD, .inl ⟨hle, hc⟩⟩, hb2, hX⟩)
    · have hne : l ≠ [] := fun e => by rw [first_bad.2 e] at hc; cases hc
      refine c_seq (c_region (wl_p I_ok rfl (wl (st_ld I_ok rfl ((hD.bo.seg.obj hD.oin).kind) ?_))))
      dsimp only
      refine wl_p I_ok rfl (wl_nil (f_then (c_if rfl (fun hc => ?_) (fun hc => ?_))))
      · obtain rfl : k = 1 := by omega
        refine c_region (wl_p I_ok rfl (wl (st_call Tryd.call52 rfl rfl rfl rfl rfl rfl (text_tk w5 hD.tk hD.len 2 (by decide)) fun v6 w6 hr6 => ?_)))
        obtain ⟨rfl, hR2, hE6⟩ := hr6
        have hb2 := hb2.ext1 hE6 (hD.neR hb2 (by decide))
        have hX := hX
        have hD := hD.read hR2 hE6 (Ds.str_len _ 2).2
        have hb2 := hb2o.extNo hD.X
        have hX := hX1.thenNo hD.X
        refine wl_p I_ok rfl (wl (st_st I_ok hD.bo rfl rfl rfl fun w7 hbo hE7 hs7 => ?_))
        have hD := hD.put hE7 (o' := { objZ with kind := ((1 : Nat) : Int), text := (((⟨l, false⟩ : Ds).off 1).2.str 2).1 }) hbo rfl rfl rfl ⟨hD.oin.tree, hD.oin.base, hD.oin.parents, hD.oin.leaves, hD.oin.rows, hD.oin.number, hD.oin.author⟩ ⟨hD.sh.leaves, hD.sh.parents, hD.sh.rows, hD.sh.leafP, hD.sh.rowP⟩
        have hb2 := hb2o.extNo hD.X
        have hX := hX1.thenNo hD.X
        refine wl_nil ?_
        exact f_blockN (f_cut (_, _, _) rfl ⟨⟨hD, .inr ⟨hne, dec1 hne hk rfl⟩⟩, hb2, hX⟩)
      · have h1 : ¬ k = 1 := by omega
        refine c_seq (c_region (wl_p I_ok rfl (wl (st_ld I_ok rfl ((hD.bo.seg.obj hD.oin).kind) ?_))))
        dsimp only
        refine wl_p I_ok rfl (wl_nil (f_then (c_if rfl (fun hc => ?_) (fun hc => ?_))))
        · obtain rfl : k = 2 := by omega
          generalize hs1 : ((⟨l, false⟩ : Ds).off 1).2 = s1 at hD
          refine c_seq (c_region (wl_p I_ok rfl (wl (st_call Tryd.call51 rfl rfl rfl rfl rfl rfl (num_tk w5 hD.tk hD.len 1 (by decide)) fun v8 w8 hr8 => ?_))))
          obtain ⟨rfl, hR2, hE8⟩ := hr8
          have hb2 := hb2.ext1 hE8 (hD.neR hb2 (by decide))
          have hX := hX
          have hD := hD.read hR2 hE8 (Ds.off_len _ 1).2.1
          have hb2 := hb2o.extNo hD.X
          have hX := hX1.thenNo hD.X
          refine wl_p I_ok rfl ?_
          rw [IntWalk.i64_in _ (by have := s1.num_lt 1; omega)]
          obtain ⟨n, hn⟩ : ∃ n, n = num (s1.off 1).1 := ⟨_, rfl⟩
          have hn255 : n ≤ 255 := by have := s1.num_lt 1; omega
          have hrow0 : s1.row Ds.leaf = ([] ++ (Ds.each Ds.leaf (n - 0) (s1.off 1).2).1, (Ds.each Ds.leaf (n - 0) (s1.off 1).2).2) := by rw [Ds.row, ← hn]; rfl
          rw [← hn]
          refine wl_p I_ok rfl (wl_nil (f_then (c_block ?_)))
          refine c_loopK (α := Nat × List (LeafD) × ObjP × Ds) [0, 2, 4, 5, 7] rfl (fun z => [(6, .int .i64 (z.1 : Int))]) (fun z u => (z.1 ≤ n ∧ z.2.1.length ≤ z.1 ∧ TecS w1 u b16 b5 { objZ with kind := ((2 : Nat) : Int), leaves := z.2.1 } z.2.2.1 z.2.2.2 ∧ s1.row Ds.leaf = (z.2.1 ++ (Ds.each Ds.leaf (n - z.1) z.2.2.2).1, (Ds.each Ds.leaf (n - z.1) z.2.2.2).2)) ∧ Blk u b2 33 (cellsOf ti33.zero) ∧ Ext No w u) (fun z u => n - z.1) (0, [], _, _) rfl ⟨⟨Nat.zero_le _, Nat.le_refl _, hD, hrow0⟩, hb2, hX⟩ ?_
          rintro ⟨i, acc, aa, s⟩ w9 ⟨⟨hi, hal, hD, hrow⟩, hb2, hX⟩
          try dsimp only
          dsimp only at hi hal hD hrow
          refine c_seq (c_cutK (α := Bool) [0, 2, 4, 5, 6, 7] rfl (fun z => [(50, .bool z)]) (fun z u => u = w9 ∧ z = decide (i < n ∧ s.bad = false)) ?_ ?_)
          · refine c_region ?_
            refine wl_p I_ok rfl (wl_caseD 44 rfl (fun hg => ?_) (fun hg => ?_))
            · refine wl_pk I_ok 3 rfl ?_
              refine wl (st_ld I_ok rfl hD.tk.cell (wl_pk I_ok 2 rfl (wl_nil ?_)))
              exact f_cut (_) rfl ⟨rfl, by cases hbd : s.bad; exact (decide_eq_true ⟨by omega, rfl⟩).symm; exact (decide_eq_false (fun h => absurd h.2 (by decide))).symm⟩
            · refine wl_pk I_ok 6 rfl ?_
              refine wl_nil ?_
              exact f_cut (false) rfl ⟨rfl, (decide_eq_false (fun h => absurd h.1 (by omega))).symm⟩
          rintro z w10 ⟨hu, rfl⟩
          have hu := hu.symm
          subst hu
          refine c_if rfl (fun hc => ?_) (fun hc => ?_)
          · have hin := hc.1
            have hbf := hc.2
            have hDl := hD.len
            refine c_skip (f_then (c_seq (c_block (c_seq (c_region (wl_p I_ok rfl (wl (st_call Tryd.call52 rfl rfl rfl rfl rfl rfl (text_tk w9 hD.tk hD.len 1 (by decide)) fun v11 w11 hr11 => ?_))))))))
            obtain ⟨rfl, hR2, hE11⟩ := hr11
            have hb2 := hb2.ext1 hE11 (hD.neR hb2 (by decide))
            have hX := hX
            have hD := hD.read hR2 hE11 (Ds.str_len _ 1).2
            have hb2 := hb2o.extNo hD.X
            have hX := hX1.thenNo hD.X
            refine wl (st_bd I_ok rfl ⟨⟨rfl, by decide⟩, trivial⟩ (l' := LeafD.cells ⟨(s.str 1).1, idZ⟩) (by rw [leafZ_c]; rfl) ?_)
            have hDo := hD
            refine wl (st_al I_ok rfl fun b8 w12 hn8 hb8 hE12 => ?_)
            have ne2_8 : b2 ≠ b8 := Nat.ne_of_lt (Nat.lt_of_lt_of_le hb2.lt hn8)
            have fr8 := Nat.le_trans hX.size hn8
            have hb2 := hb2.extNo hE12
            have hD := hD.extNo hE12
            have hX := hX.thenNo hE12
            have hsp := hDo.sep hn8
            have hb8o := hb8
            refine wl (st_stW (l' := LeafD.cells ⟨(s.str 1).1, idZ⟩) I_ok hb8 rfl rfl (LeafD.len rfl) (LeafD.len rfl) OneC.h fun w13 hb8 hE13 hs13 => ?_)
            have hb2 := hb2.ext1 hE13 ne2_8
            have hD := hD.ext1 hsp hb8o (by decide) hE13
            have hX := hX.thenNew hE13 fr8
            refine wl_nil (f_then (c_seq (c_region (wl_p I_ok rfl (wl (st_call Tryd.call53 rfl rfl rfl rfl rfl rfl (id_tk w13 hD.tk hD.len) fun v14 w14 hr14 => ?_))))))
            obtain ⟨rfl, hR2, hE14⟩ := hr14
            have hb2 := hb2.ext1 hE14 (hD.neR hb2 (by decide))
            have hb8 := hb8.ext1 hE14 (hD.neR hb8 (by decide))
            have hX := hX
            have hD := hD.read hR2 hE14 (Ds.id_len _).2
            have hb2 := hb2o.extNo hD.X
            have hX := hX1.thenNo hD.X
            refine wl_p I_ok rfl ?_
            have hb8o := hb8
            have hlf := Ds.leaf_in hDl
            refine wl (st_stN I_ok hb8 rfl (by rw [cellsOf_agg, bytesU_len, (s.str 1).2.id_len.1]) (by rw [LeafD.len rfl]; decide) (by rw [cellsOf_agg]; exact OneC.h) fun w15 hb8 hE15 hs15 => ?_)
            have hb2 := hb2.ext1 hE15 ne2_8
            have hD := hD.ext1 hsp hb8o (by decide) hE15
            have hX := hX.thenNew hE15 fr8
            have hb8 : Blk w15 b8 76 ((s.leaf.1).cells) := (by have := hb8; rw [cellsOf_agg, leaf_put rfl (s.str 1).2.id_len.1] at this; exact this)
            refine wl_nil (f_then (c_region (wl_p I_ok rfl (wl (st_ld I_ok rfl ((hD.bo.seg.obj hD.oin).leaves) (wl (st_ldB I_ok hb8 rfl (LeafD.len hlf.2) ?_)))))))
            refine wl (st_bs I_ok rfl 33 rfl leafZ_c (LeafD.len rfl) (by decide) (by decide) ⟨⟨by rw [cellsOf_agg]; exact (LeafD.len hlf.2), by decide⟩, trivial⟩ (l' := (s.leaf.1).cells) (one_leaf hlf.2) fun b62 w16 hn62 hb62 hE16 hs16 => ?_)
            have ne2_62 : b2 ≠ b62 := Nat.ne_of_lt (Nat.lt_of_lt_of_le hb2.lt hn62)
            have ne8_62 : b8 ≠ b62 := Nat.ne_of_lt (Nat.lt_of_lt_of_le hb8.lt hn62)
            have fr62 := Nat.le_trans hX.size hn62
            have hb2 := hb2.extNo hE16
            have hb8 := hb8.extNo hE16
            have hD := hD.extNo hE16
            have hX := hX.thenNo hE16
            have hX0 := hX
            refine wl (st_app I_ok rfl 33 48 rfl rfl rfl (by decide) hD.ol (Src.slice (m := 1) ⟨LeafD.len hlf.2, .inr ⟨b62, 0, rfl, hb62.seg⟩⟩ OneC.h) (by dsimp only [maxLen]; omega) (by dsimp only; omega) fun p17 c17 w17 ho17 hE17 hB17 => ?_)
            dsimp only at ho17 hE17 hB17 ⊢
            have hbo1 := hD.bo.extOwn hD.ol hE17 (show (76 : Nat) ≠ 33 from by decide)
            refine wl_p I_ok rfl (wl (st_st I_ok hbo1 rfl rfl rfl fun w18 hbo hE18 hs18 => ?_))
            have hbo : Blk w18 b5 33 (objC { objZ with kind := ((2 : Nat) : Int), leaves := acc ++ [s.leaf.1] } ⟨p17, c17, aa.pp, aa.pc, aa.rp, aa.rc⟩) := by
              simp only [objC, List.length_append]
              exact hbo
            have hD := hD.putLeaf (r := s.leaf.1) hE17 ho17 hB17 hE18 hbo hlf (by have := s.str_len 1; show (s.str 1).1.length < _; omega) (by dsimp only; omega)
            have hb2 := hb2o.extNo hD.X
            have hX := hX1.thenNo hD.X
            refine wl_nil (f_blockN (f_then (c_region (wl_p I_ok rfl ?_))))
            rw [IntWalk.i64_in _ (by omega)]
            refine wl_nil ?_
            exact f_round (i + 1, _, _, _) rfl ⟨⟨by dsimp only; omega, by dsimp only; rw [List.length_append, List.length_singleton]; omega, hD, row_step hrow hin hbf⟩, hb2, hX⟩ (by first | omega | (dsimp only; omega))
          · have hrow := row_end hrow hc
            refine c_exit ?_
            exact f_thenE (f_thenE (f_blockE (f_blockN (f_cut (_, _, _) rfl ⟨⟨hD, .inr ⟨hne, (dec2 hne hk rfl).trans (by rw [hs1, hrow]; rfl)⟩⟩, hb2, hX⟩))))
        · have h2 : ¬ k = 2 := by omega
          refine c_seq (c_region (wl_p I_ok rfl (wl (st_ld I_ok rfl ((hD.bo.seg.obj hD.oin).kind) ?_))))
          dsimp only
          refine wl_p I_ok rfl (wl_nil (f_then (c_if rfl (fun hc => ?_) (fun hc => ?_))))
          · obtain rfl : k = 3 := by omega
            generalize hs1 : ((⟨l, false⟩ : Ds).off 1).2 = s1 at hD
            refine c_seq (c_region (wl_p I_ok rfl (wl (st_call Tryd.call51 rfl rfl rfl rfl rfl rfl (num_tk w5 hD.tk hD.len 1 (by decide)) fun v19 w19 hr19 => ?_))))
            obtain ⟨rfl, hR2, hE19⟩ := hr19
            have hb2 := hb2.ext1 hE19 (hD.neR hb2 (by decide))
            have hX := hX
            have hD := hD.read hR2 hE19 (Ds.off_len _ 1).2.1
            have hb2 := hb2o.extNo hD.X
            have hX := hX1.thenNo hD.X
            refine wl_p I_ok rfl ?_
            rw [IntWalk.i64_in _ (by have := s1.num_lt 1; omega)]
            refine wl_p I_ok rfl (wl (st_call Tryd.call53 rfl rfl rfl rfl rfl rfl (id_tk w19 hD.tk hD.len) fun v20 w20 hr20 => ?_))
            obtain ⟨rfl, hR2, hE20⟩ := hr20
            have hb2 := hb2.ext1 hE20 (hD.neR hb2 (by decide))
            have hX := hX
            have hD := hD.read hR2 hE20 (Ds.id_len _).2
            have hb2 := hb2o.extNo hD.X
            have hX := hX1.thenNo hD.X
            refine wl_p I_ok rfl (wl (st_st I_ok hD.bo rfl rfl rfl fun w21 hbo hE21 hs21 => ?_))
            have hD := hD.put hE21 (o' := { objZ with kind := ((3 : Nat) : Int), style := (num (s1.off 1).1 : Nat) }) hbo rfl rfl rfl ⟨hD.oin.tree, hD.oin.base, hD.oin.parents, hD.oin.leaves, hD.oin.rows, hD.oin.number, hD.oin.author⟩ ⟨hD.sh.leaves, hD.sh.parents, hD.sh.rows, hD.sh.leafP, hD.sh.rowP⟩
            have hb2 := hb2o.extNo hD.X
            have hX := hX1.thenNo hD.X
            refine wl_p I_ok rfl (wl (st_stN I_ok hD.bo rfl (by rw [cellsOf_agg, bytesU_len, (Ds.id_len _).1]) (by rw [objC_len hD.oin]; decide) (by rw [cellsOf_agg]; exact OneC.h) fun w22 hbo hE22 hs22 => ?_))
            rw [cellsOf_agg] at hbo
            have hbo := (show _ = _ from objC_tree hD.oin (Ds.id_len _).1) ▸ hbo
            have hD := hD.put hE22 (o' := { objZ with kind := ((3 : Nat) : Int), style := (num (s1.off 1).1 : Nat), tree := (s1.off 1).2.id.1 }) hbo rfl rfl rfl ⟨(Ds.id_len _).1, hD.oin.base, hD.oin.parents, hD.oin.leaves, hD.oin.rows, hD.oin.number, hD.oin.author⟩ ⟨hD.sh.leaves, hD.sh.parents, hD.sh.rows, hD.sh.leafP, hD.sh.rowP⟩
            have hb2 := hb2o.extNo hD.X
            have hX := hX1.thenNo hD.X
            refine wl_nil (f_then (c_seq (c_seq (c_region (wl_p I_ok rfl (wl (st_call Tryd.call51 rfl rfl rfl rfl rfl rfl (num_tk w22 hD.tk hD.len 1 (by decide)) fun v23 w23 hr23 => ?_)))))))
            obtain ⟨rfl, hR2, hE23⟩ := hr23
            have hb2 := hb2.ext1 hE23 (hD.neR hb2 (by decide))
            have hX := hX
            have hD := hD.read hR2 hE23 (Ds.off_len _ 1).2.1
            have hb2 := hb2o.extNo hD.X
            have hX := hX1.thenNo hD.X
            refine wl_p I_ok rfl ?_
            rw [IntWalk.i64_in _ (by have := (s1.off 1).2.id.2.num_lt 1; omega)]
            obtain ⟨n, hn⟩ : ∃ n, n = num ((s1.off 1).2.id.2.off 1).1 := ⟨_, rfl⟩
            have hn255 : n ≤ 255 := by have := (s1.off 1).2.id.2.num_lt 1; omega
            have hrow0 : (s1.off 1).2.id.2.row Ds.id = ([] ++ (Ds.each Ds.id (n - 0) ((s1.off 1).2.id.2.off 1).2).1, (Ds.each Ds.id (n - 0) ((s1.off 1).2.id.2.off 1).2).2) := by rw [Ds.row, ← hn]; rfl
            rw [← hn]
            refine wl_p I_ok rfl (wl_nil (f_then (c_block ?_)))
            refine c_loopK (α := Nat × List (List UInt8) × ObjP × Ds) [0, 2, 4, 5, 10] rfl (fun z => [(9, .int .i64 (z.1 : Int))]) (fun z u => (z.1 ≤ n ∧ z.2.1.length ≤ z.1 ∧ TecS w1 u b16 b5 { objZ with kind := ((3 : Nat) : Int), style := (num (s1.off 1).1 : Nat), tree := (s1.off 1).2.id.1, parents := z.2.1 } z.2.2.1 z.2.2.2 ∧ (s1.off 1).2.id.2.row Ds.id = (z.2.1 ++ (Ds.each Ds.id (n - z.1) z.2.2.2).1, (Ds.each Ds.id (n - z.1) z.2.2.2).2)) ∧ Blk u b2 33 (cellsOf ti33.zero) ∧ Ext No w u) (fun z u => n - z.1) (0, [], _, _) rfl ⟨⟨Nat.zero_le _, Nat.le_refl _, hD, hrow0⟩, hb2, hX⟩ ?_
            rintro ⟨i, acc, aa, s⟩ w24 ⟨⟨hi, hal, hD, hrow⟩, hb2, hX⟩
            try dsimp only
            dsimp only at hi hal hD hrow
            refine c_seq (c_cutK (α := Bool) [0, 2, 4, 5, 9, 10] rfl (fun z => [(88, .bool z)]) (fun z u => u = w24 ∧ z = decide (i < n ∧ s.bad = false)) ?_ ?_)
            · refine c_region ?_
              refine wl_p I_ok rfl (wl_caseD 82 rfl (fun hg => ?_) (fun hg => ?_))
              · refine wl_pk I_ok 3 rfl ?_
                refine wl (st_ld I_ok rfl hD.tk.cell (wl_pk I_ok 2 rfl (wl_nil ?_)))
                exact f_cut (_) rfl ⟨rfl, by cases hbd : s.bad; exact (decide_eq_true ⟨by omega, rfl⟩).symm; exact (decide_eq_false (fun h => absurd h.2 (by decide))).symm⟩
              · refine wl_pk I_ok 6 rfl ?_
                refine wl_nil ?_
                exact f_cut (false) rfl ⟨rfl, (decide_eq_false (fun h => absurd h.1 (by omega))).symm⟩
            rintro z w25 ⟨hu, rfl⟩
            have hu := hu.symm
            subst hu
            refine c_if rfl (fun hc => ?_) (fun hc => ?_)
            · have hin := hc.1
              have hbf := hc.2
              have hDl := hD.len
              refine c_skip (f_then (c_seq (c_block (c_draw rfl 7 [(0, true), (1, true), (2, true), (3, false), (4, false), (5, false), (6, true)] [7] ((fun x => x = b16 ∨ OwnB aa.pp x)) (by kernel_rfl) fun w26 hE26 hs26 => ?_))))
              have hd2 := hb2
              have hTd := hT
              have hDd := hD
              have hXd := hX
              have hb2 := hb2.extNo hE26
              have hD := hD.extNo hE26
              have hX := hX.thenNo hE26
              have hC : Ext ((fun x => x = b16 ∨ OwnB aa.pp x)) _ w26 := hE26.no
              have hn5 : ¬ (fun x => x = b16 ∨ OwnB aa.pp x) b5 := fun e => e.elim (hDd.neR hDd.bo (by decide)) fun hx => hDd.op.neTy hx hDd.bo (by decide) rfl
              have hin1 := s.id_len
              refine wd_k I_ok 1 rfl (wd_ld I_ok rfl rfl (fun w' hw' => ((hDd.bo.ext (show Ext (fun x => x = b16 ∨ OwnB aa.pp x) _ w' from hw') hn5).seg.obj hDd.oin).parents) ?_)
              refine wd_k I_ok 1 rfl (wd_l rfl (st_call Tryd.call53 rfl rfl rfl rfl rfl rfl (id_tk w26 hD.tk hD.len) fun v27 w27 hr27 => ⟨(by obtain ⟨rfl, hR2, hE27⟩ := hr27; exact hC.then (hE27.mono fun _ _ e => .inl e)), ?_⟩))
              obtain ⟨rfl, hR2, hE27⟩ := hr27
              have hb2 := hb2.ext1 hE27 (hD.neR hb2 (by decide))
              have hX := hX
              have hC := hC.then (hE27.mono fun _ _ e => .inl e)
              have hD := hD.read hR2 hE27 s.id_len.2
              have hb2 := hb2o.extNo hD.X
              have hX := hX1.thenNo hD.X
              refine wd_l rfl (st_bs I_ok rfl 32 rfl idZ_c.symm (by rw [bytesU_len]; rfl) (by decide) (by decide) ⟨⟨by rw [cellsOf_agg]; exact (IdIn.len hin1.1), by decide⟩, trivial⟩ (l' := bytesU s.id.1) (one_id hin1.1) fun b95 w28 hn95 hb95 hE28 hs28 => ⟨hC.thenNo hE28, ?_⟩)
              have ne2_95 : b2 ≠ b95 := Nat.ne_of_lt (Nat.lt_of_lt_of_le hb2.lt hn95)
              have fr95 := Nat.le_trans hX.size hn95
              have hb2 := hb2.extNo hE28
              have hD := hD.extNo hE28
              have hX := hX.thenNo hE28
              have hC := hC.thenNo hE28
              have hX0 := hX
              refine wd_l rfl (st_app I_ok rfl 32 32 rfl rfl rfl (by decide) hD.op (Src.slice (m := 1) (one_idS hin1.1 hb95) OneC.h) (by dsimp only [maxLen]; omega) (by dsimp only; omega) fun p29 c29 w29 ho29 hE29 hB29 => ⟨hC.then (hE29.mono fun _ _ e => .inr e), ?_⟩)
              have hC := hC.then (hE29.mono fun _ _ e => .inr e)
              dsimp only at ho29 hE29 hB29 ⊢
              have hbo1 := hD.bo.extOwn hD.op hE29 (show (26 : Nat) ≠ 33 from by decide)
              refine wd_k I_ok 1 rfl (wd_sw (wb rfl (st_set I_ok hbo1 rfl rfl (by rw [objC_len hD.oin]; decide) fun w30 hbo hE30 hs30 => ?_)))
              have hbo := (show _ = _ from objC_set hD.oin 0 _) ▸ (show Blk w30 b5 33 ((objC _ aa).set (68 + 0) _) from hbo)
              have hbo : Blk w30 b5 33 (objC { objZ with kind := ((3 : Nat) : Int), style := (num (s1.off 1).1 : Nat), tree := (s1.off 1).2.id.1, parents := acc ++ [s.id.1] } ⟨aa.lp, aa.lc, p29, c29, aa.rp, aa.rc⟩) := by
                simp only [objC, List.length_append]
                exact hbo
              have hD := hD.putId (r := s.id.1) hE29 ho29 hB29 hE30 hbo hin1.1 (by dsimp only; omega)
              have hb2 := hb2o.extNo hD.X
              have hX := hX1.thenNo hD.X
              refine wb_nil (f_blockN (f_then (c_region (wl_p I_ok rfl ?_))))
              rw [IntWalk.i64_in _ (by omega)]
              refine wl_nil ?_
              exact f_round (i + 1, _, _, _) rfl ⟨⟨by dsimp only; omega, by dsimp only; rw [List.length_append, List.length_singleton]; omega, hD, row_step hrow hin hbf⟩, hb2, hX⟩ (by first | omega | (dsimp only; omega))
            · have hrow := row_end hrow hc
              have e1 : acc = ((s1.off 1).2.id.2.row Ds.id).1 := by rw [hrow]
              have e2 : s = ((s1.off 1).2.id.2.row Ds.id).2 := by rw [hrow]
              subst e1
              subst e2
              refine c_exit (f_thenE (f_thenE (f_blockE (f_then (c_seq (c_region (wl_p I_ok rfl (wl (st_call Tryd.call53 rfl rfl rfl rfl rfl rfl (id_tk w24 hD.tk hD.len) fun v31 w31 hr31 => ?_)))))))))
              obtain ⟨rfl, hR2, hE31⟩ := hr31
              have hb2 := hb2.ext1 hE31 (hD.neR hb2 (by decide))
              have hX := hX
              have hD := hD.read hR2 hE31 (Ds.id_len _).2
              have hb2 := hb2o.extNo hD.X
              have hX := hX1.thenNo hD.X
              refine wl_p I_ok rfl (wl (st_stN I_ok hD.bo rfl (by rw [cellsOf_agg, bytesU_len, (Ds.id_len _).1]) (by rw [objC_len hD.oin]; decide) (by rw [cellsOf_agg]; exact OneC.h) fun w32 hbo hE32 hs32 => ?_))
              rw [cellsOf_agg] at hbo
              have hbo := (show _ = _ from objC_base hD.oin (Ds.id_len _).1) ▸ hbo
              have hD := hD.put hE32 (o' := { objZ with kind := ((3 : Nat) : Int), style := (num (s1.off 1).1 : Nat), tree := (s1.off 1).2.id.1, parents := ((s1.off 1).2.id.2.row Ds.id).1, base := ((s1.off 1).2.id.2.row Ds.id).2.id.1 }) hbo rfl rfl rfl ⟨hD.oin.tree, (Ds.id_len _).1, hD.oin.parents, hD.oin.leaves, hD.oin.rows, hD.oin.number, hD.oin.author⟩ ⟨hD.sh.leaves, hD.sh.parents, hD.sh.rows, hD.sh.leafP, hD.sh.rowP⟩
              have hb2 := hb2o.extNo hD.X
              have hX := hX1.thenNo hD.X
              refine wl_nil (f_then (c_seq (c_seq (c_region (wl_p I_ok rfl (wl (st_call Tryd.call51 rfl rfl rfl rfl rfl rfl (num_tk w32 hD.tk hD.len 1 (by decide)) fun v33 w33 hr33 => ?_)))))))
              obtain ⟨rfl, hR2, hE33⟩ := hr33
              have hb2 := hb2.ext1 hE33 (hD.neR hb2 (by decide))
              have hX := hX
              have hD := hD.read hR2 hE33 (Ds.off_len _ 1).2.1
              have hb2 := hb2o.extNo hD.X
              have hX := hX1.thenNo hD.X
              refine wl_p I_ok rfl ?_
              rw [IntWalk.i64_in _ (by have := ((s1.off 1).2.id.2.row Ds.id).2.id.2.num_lt 1; omega)]
              obtain ⟨n, hn⟩ : ∃ n, n = num (((s1.off 1).2.id.2.row Ds.id).2.id.2.off 1).1 := ⟨_, rfl⟩
              have hn255 : n ≤ 255 := by have := ((s1.off 1).2.id.2.row Ds.id).2.id.2.num_lt 1; omega
              have hrow0 : ((s1.off 1).2.id.2.row Ds.id).2.id.2.row Ds.chg = ([] ++ (Ds.each Ds.chg (n - 0) (((s1.off 1).2.id.2.row Ds.id).2.id.2.off 1).2).1, (Ds.each Ds.chg (n - 0) (((s1.off 1).2.id.2.row Ds.id).2.id.2.off 1).2).2) := by rw [Ds.row, ← hn]; rfl
              rw [← hn]
              refine wl_p I_ok rfl (wl_nil (f_then (c_block ?_)))
              refine c_loopK (α := Nat × List (ChgD) × ObjP × Ds) [0, 2, 4, 5, 12] rfl (fun z => [(11, .int .i64 (z.1 : Int))]) (fun z u => (z.1 ≤ n ∧ z.2.1.length ≤ z.1 ∧ TecS w1 u b16 b5 { objZ with kind := ((3 : Nat) : Int), style := (num (s1.off 1).1 : Nat), tree := (s1.off 1).2.id.1, parents := ((s1.off 1).2.id.2.row Ds.id).1, base := ((s1.off 1).2.id.2.row Ds.id).2.id.1, rows := z.2.1 } z.2.2.1 z.2.2.2 ∧ ((s1.off 1).2.id.2.row Ds.id).2.id.2.row Ds.chg = (z.2.1 ++ (Ds.each Ds.chg (n - z.1) z.2.2.2).1, (Ds.each Ds.chg (n - z.1) z.2.2.2).2)) ∧ Blk u b2 33 (cellsOf ti33.zero) ∧ Ext No w u) (fun z u => n - z.1) (0, [], _, _) rfl ⟨⟨Nat.zero_le _, Nat.le_refl _, hD, hrow0⟩, hb2, hX⟩ ?_
              rintro ⟨i, acc, aa, s⟩ w34 ⟨⟨hi, hal, hD, hrow⟩, hb2, hX⟩
              try dsimp only
              dsimp only at hi hal hD hrow
              refine c_seq (c_cutK (α := Bool) [0, 2, 4, 5, 11, 12] rfl (fun z => [(113, .bool z)]) (fun z u => u = w34 ∧ z = decide (i < n ∧ s.bad = false)) ?_ ?_)
              · refine c_region ?_
                refine wl_p I_ok rfl (wl_caseD 107 rfl (fun hg => ?_) (fun hg => ?_))
                · refine wl_pk I_ok 3 rfl ?_
                  refine wl (st_ld I_ok rfl hD.tk.cell (wl_pk I_ok 2 rfl (wl_nil ?_)))
                  exact f_cut (_) rfl ⟨rfl, by cases hbd : s.bad; exact (decide_eq_true ⟨by omega, rfl⟩).symm; exact (decide_eq_false (fun h => absurd h.2 (by decide))).symm⟩
                · refine wl_pk I_ok 6 rfl ?_
                  refine wl_nil ?_
                  exact f_cut (false) rfl ⟨rfl, (decide_eq_false (fun h => absurd h.1 (by omega))).symm⟩
              rintro z w35 ⟨hu, rfl⟩
              have hu := hu.symm
              subst hu
              refine c_if rfl (fun hc => ?_) (fun hc => ?_)
              · have hin := hc.1
                have hbf := hc.2
                have hDl := hD.len
                refine c_skip (f_then (c_seq (c_block (c_seq (c_region (wl_p I_ok rfl (wl (st_call Tryd.call52 rfl rfl rfl rfl rfl rfl (text_tk w34 hD.tk hD.len 1 (by decide)) fun v36 w36 hr36 => ?_))))))))
                obtain ⟨rfl, hR2, hE36⟩ := hr36
                have hb2 := hb2.ext1 hE36 (hD.neR hb2 (by decide))
                have hX := hX
                have hD := hD.read hR2 hE36 (Ds.str_len _ 1).2
                have hb2 := hb2o.extNo hD.X
                have hX := hX1.thenNo hD.X
                refine wl (st_bd I_ok rfl ⟨⟨rfl, by decide⟩, trivial⟩ (l' := ChgD.cells ⟨(s.str 1).1, false, []⟩) (by rw [chgZ_c]; rfl) ?_)
                have hDo := hD
                refine wl (st_al I_ok rfl fun b13 w37 hn13 hb13 hE37 => ?_)
                have ne2_13 : b2 ≠ b13 := Nat.ne_of_lt (Nat.lt_of_lt_of_le hb2.lt hn13)
                have fr13 := Nat.le_trans hX.size hn13
                have hb2 := hb2.extNo hE37
                have hD := hD.extNo hE37
                have hX := hX.thenNo hE37
                have hsp := hDo.sep hn13
                have hb13o := hb13
                refine wl (st_stW (l' := ChgD.cells ⟨(s.str 1).1, false, []⟩) I_ok hb13 rfl rfl rfl rfl OneC.h fun w38 hb13 hE38 hs38 => ?_)
                have hb2 := hb2.ext1 hE38 ne2_13
                have hD := hD.ext1 hsp hb13o (by decide) hE38
                have hX := hX.thenNew hE38 fr13
                refine wl_nil (f_then (c_seq (c_region (wl_p I_ok rfl (wl (st_call Tryd.call51 rfl rfl rfl rfl rfl rfl (num_tk w38 hD.tk hD.len 1 (by decide)) fun v39 w39 hr39 => ?_))))))
                obtain ⟨rfl, hR2, hE39⟩ := hr39
                have hb2 := hb2.ext1 hE39 (hD.neR hb2 (by decide))
                have hb13 := hb13.ext1 hE39 (hD.neR hb13 (by decide))
                have hX := hX
                have hD := hD.read hR2 hE39 (Ds.off_len _ 1).2.1
                have hb2 := hb2o.extNo hD.X
                have hX := hX1.thenNo hD.X
                refine wl_p I_ok rfl ?_
                have hb13o := hb13
                refine wl (st_st I_ok hb13 rfl rfl rfl fun w40 hb13 hE40 hs40 => ?_)
                have hb2 := hb2.ext1 hE40 ne2_13
                have hD := hD.ext1 hsp hb13o (by decide) hE40
                have hX := hX.thenNew hE40 fr13
                have hb13 : Blk w40 b13 82 (ChgD.cells ⟨(s.str 1).1, (decide (0 < num ((s.str 1).2.off 1).1)), []⟩) := (by have e : decide ((num ((s.str 1).2.off 1).1 : Int) > 0) = (decide (0 < num ((s.str 1).2.off 1).1)) := decide_eq_decide.2 (by omega); rw [← e]; exact hb13)
                refine wl_nil (f_then (c_seq (c_region (wl_p I_ok rfl (wl (st_call Tryd.call52 rfl rfl rfl rfl rfl rfl (text_tk w40 hD.tk hD.len 2 (by decide)) fun v41 w41 hr41 => ?_))))))
                obtain ⟨rfl, hR2, hE41⟩ := hr41
                have hb2 := hb2.ext1 hE41 (hD.neR hb2 (by decide))
                have hb13 := hb13.ext1 hE41 (hD.neR hb13 (by decide))
                have hX := hX
                have hD := hD.read hR2 hE41 (Ds.str_len _ 2).2
                have hb2 := hb2o.extNo hD.X
                have hX := hX1.thenNo hD.X
                refine wl_p I_ok rfl ?_
                have hb13o := hb13
                have hch := Ds.chg_in hDl
                refine wl (st_st I_ok hb13 rfl rfl rfl fun w42 hb13 hE42 hs42 => ?_)
                have hb2 := hb2.ext1 hE42 ne2_13
                have hD := hD.ext1 hsp hb13o (by decide) hE42
                have hX := hX.thenNew hE42 fr13
                have hb13 : Blk w42 b13 82 ((s.chg.1).cells) := hb13
                refine wl_nil (f_then (c_region (wl_p I_ok rfl (wl (st_ld I_ok rfl ((hD.bo.seg.obj hD.oin).rows) (wl (st_ldB I_ok hb13 rfl rfl ?_)))))))
                refine wl (st_bs I_ok rfl 3 rfl chgZ_c rfl (by decide) (by decide) ⟨⟨rfl, by decide⟩, trivial⟩ (l' := (s.chg.1).cells) rfl fun b130 w43 hn130 hb130 hE43 hs43 => ?_)
                have ne2_130 : b2 ≠ b130 := Nat.ne_of_lt (Nat.lt_of_lt_of_le hb2.lt hn130)
                have ne13_130 : b13 ≠ b130 := Nat.ne_of_lt (Nat.lt_of_lt_of_le hb13.lt hn130)
                have fr130 := Nat.le_trans hX.size hn130
                have hb2 := hb2.extNo hE43
                have hb13 := hb13.extNo hE43
                have hD := hD.extNo hE43
                have hX := hX.thenNo hE43
                have hX0 := hX
                refine wl (st_app I_ok rfl 3 40 rfl rfl rfl (by decide) hD.or (Src.slice (m := 1) ⟨rfl, .inr ⟨b130, 0, rfl, hb130.seg⟩⟩ OneC.h) (by dsimp only [maxLen]; omega) (by dsimp only; omega) fun p44 c44 w44 ho44 hE44 hB44 => ?_)
                dsimp only at ho44 hE44 hB44 ⊢
                have hbo1 := hD.bo.extOwn hD.or hE44 (show (82 : Nat) ≠ 33 from by decide)
                refine wl_p I_ok rfl (wl (st_set I_ok hbo1 rfl rfl (by rw [objC_len hD.oin]; decide) fun w45 hbo hE45 hs45 => ?_))
                have hbo := (show _ = _ from objC_set hD.oin 1 _) ▸ (show Blk w45 b5 33 ((objC _ aa).set (68 + 1) _) from hbo)
                have hbo : Blk w45 b5 33 (objC { objZ with kind := ((3 : Nat) : Int), style := (num (s1.off 1).1 : Nat), tree := (s1.off 1).2.id.1, parents := ((s1.off 1).2.id.2.row Ds.id).1, base := ((s1.off 1).2.id.2.row Ds.id).2.id.1, rows := acc ++ [s.chg.1] } ⟨aa.lp, aa.lc, aa.pp, aa.pc, p44, c44⟩) := by
                  simp only [objC, List.length_append]
                  exact hbo
                have hD := hD.putChg (r := s.chg.1) hE44 ho44 hB44 hE45 hbo hch (by have := s.str_len 1; show (s.str 1).1.length < _; omega) (by dsimp only; omega)
                have hb2 := hb2o.extNo hD.X
                have hX := hX1.thenNo hD.X
                refine wl_nil (f_blockN (f_then (c_region (wl_p I_ok rfl ?_))))
                rw [IntWalk.i64_in _ (by omega)]
                refine wl_nil ?_
                exact f_round (i + 1, _, _, _) rfl ⟨⟨by dsimp only; omega, by dsimp only; rw [List.length_append, List.length_singleton]; omega, hD, row_step hrow hin hbf⟩, hb2, hX⟩ (by first | omega | (dsimp only; omega))
              · have hrow := row_end hrow hc
                have hcom : s1.com = ({ objZ with kind := ((3 : Nat) : Int), style := (num (s1.off 1).1 : Nat), tree := (s1.off 1).2.id.1, parents := ((s1.off 1).2.id.2.row Ds.id).1, base := ((s1.off 1).2.id.2.row Ds.id).2.id.1, rows := acc, number := num (s.off 4).1, author := num ((s.off 4).2.off 4).1, note := (((s.off 4).2.off 4).2.str 1).1 }, (((s.off 4).2.off 4).2.str 1).2) := by unfold Ds.com; dsimp only; rw [hrow]; rfl
                refine c_exit (f_thenE (f_thenE (f_blockE (f_then (c_seq (c_region (wl_p I_ok rfl (wl (st_call Tryd.call51 rfl rfl rfl rfl rfl rfl (num_tk w34 hD.tk hD.len 4 (by decide)) fun v46 w46 hr46 => ?_)))))))))
                obtain ⟨rfl, hR2, hE46⟩ := hr46
                have hb2 := hb2.ext1 hE46 (hD.neR hb2 (by decide))
                have hX := hX
                have hD := hD.read hR2 hE46 (Ds.off_len _ 4).2.1
                have hb2 := hb2o.extNo hD.X
                have hX := hX1.thenNo hD.X
                refine wl_p I_ok rfl ?_
                rw [IntWalk.u32_in _ (by have := Ds.num_lt s 4; omega)]
                refine wl_p I_ok rfl (wl (st_call Tryd.call51 rfl rfl rfl rfl rfl rfl (num_tk w46 hD.tk hD.len 4 (by decide)) fun v47 w47 hr47 => ?_))
                obtain ⟨rfl, hR2, hE47⟩ := hr47
                have hb2 := hb2.ext1 hE47 (hD.neR hb2 (by decide))
                have hX := hX
                have hD := hD.read hR2 hE47 (Ds.off_len _ 4).2.1
                have hb2 := hb2o.extNo hD.X
                have hX := hX1.thenNo hD.X
                refine wl_p I_ok rfl ?_
                rw [IntWalk.u32_in _ (by have := Ds.num_lt (s.off 4).2 4; omega)]
                refine wl_p I_ok rfl (wl (st_set I_ok hD.bo rfl rfl (by rw [objC_len hD.oin]; decide) fun w48 hbo hE48 hs48 => ?_))
                have hbo := (show _ = _ from objC_set hD.oin 2 _) ▸ (show Blk w48 b5 33 ((objC _ aa).set (68 + 2) _) from hbo)
                have hD := hD.put hE48 (o' := { objZ with kind := ((3 : Nat) : Int), style := (num (s1.off 1).1 : Nat), tree := (s1.off 1).2.id.1, parents := ((s1.off 1).2.id.2.row Ds.id).1, base := ((s1.off 1).2.id.2.row Ds.id).2.id.1, rows := acc, number := num (s.off 4).1 }) hbo rfl rfl rfl ⟨hD.oin.tree, hD.oin.base, hD.oin.parents, hD.oin.leaves, hD.oin.rows, (Ds.num_lt _ 4), hD.oin.author⟩ ⟨hD.sh.leaves, hD.sh.parents, hD.sh.rows, hD.sh.leafP, hD.sh.rowP⟩
                have hb2 := hb2o.extNo hD.X
                have hX := hX1.thenNo hD.X
                refine wl_p I_ok rfl (wl (st_set I_ok hD.bo rfl rfl (by rw [objC_len hD.oin]; decide) fun w49 hbo hE49 hs49 => ?_))
                have hbo := (show _ = _ from objC_set hD.oin 3 _) ▸ (show Blk w49 b5 33 ((objC _ aa).set (68 + 3) _) from hbo)
                have hD := hD.put hE49 (o' := { objZ with kind := ((3 : Nat) : Int), style := (num (s1.off 1).1 : Nat), tree := (s1.off 1).2.id.1, parents := ((s1.off 1).2.id.2.row Ds.id).1, base := ((s1.off 1).2.id.2.row Ds.id).2.id.1, rows := acc, number := num (s.off 4).1, author := num ((s.off 4).2.off 4).1 }) hbo rfl rfl rfl ⟨hD.oin.tree, hD.oin.base, hD.oin.parents, hD.oin.leaves, hD.oin.rows, hD.oin.number, (Ds.num_lt _ 4)⟩ ⟨hD.sh.leaves, hD.sh.parents, hD.sh.rows, hD.sh.leafP, hD.sh.rowP⟩
                have hb2 := hb2o.extNo hD.X
                have hX := hX1.thenNo hD.X
                refine wl_nil (f_then (c_region (wl_p I_ok rfl (wl (st_call Tryd.call52 rfl rfl rfl rfl rfl rfl (text_tk w49 hD.tk hD.len 1 (by decide)) fun v50 w50 hr50 => ?_)))))
                obtain ⟨rfl, hR2, hE50⟩ := hr50
                have hb2 := hb2.ext1 hE50 (hD.neR hb2 (by decide))
                have hX := hX
                have hD := hD.read hR2 hE50 (Ds.str_len _ 1).2
                have hb2 := hb2o.extNo hD.X
                have hX := hX1.thenNo hD.X
                refine wl_p I_ok rfl (wl (st_set I_ok hD.bo rfl rfl (by rw [objC_len hD.oin]; decide) fun w51 hbo hE51 hs51 => ?_))
                have hbo := (show _ = _ from objC_set hD.oin 4 _) ▸ (show Blk w51 b5 33 ((objC _ aa).set (68 + 4) _) from hbo)
                have hD := hD.put hE51 (o' := { objZ with kind := ((3 : Nat) : Int), style := (num (s1.off 1).1 : Nat), tree := (s1.off 1).2.id.1, parents := ((s1.off 1).2.id.2.row Ds.id).1, base := ((s1.off 1).2.id.2.row Ds.id).2.id.1, rows := acc, number := num (s.off 4).1, author := num ((s.off 4).2.off 4).1, note := (((s.off 4).2.off 4).2.str 1).1 }) hbo rfl rfl rfl ⟨hD.oin.tree, hD.oin.base, hD.oin.parents, hD.oin.leaves, hD.oin.rows, hD.oin.number, hD.oin.author⟩ ⟨hD.sh.leaves, hD.sh.parents, hD.sh.rows, hD.sh.leafP, hD.sh.rowP⟩
                have hb2 := hb2o.extNo hD.X
                have hX := hX1.thenNo hD.X
                refine wl_nil ?_
                exact f_blockN (f_cut (_, _, _) rfl ⟨⟨hD, .inr ⟨hne, (dec3 hne hk rfl).trans (by rw [hs1, hcom])⟩⟩, hb2, hX⟩)
          · have h3 : ¬ k = 3 := by omega
            refine c_seq (c_region (wl (st_bd I_ok rfl trivial (l' := objC objZ noP) objZ_c.symm (wl (st_stW (l' := objC objZ noP) I_ok hb2 rfl rfl rfl rfl OneC.h fun w52 hb2 hE52 hs52 => ?_)))))
            have hX := hX.thenNew hE52 fr2
            refine wl_p I_ok rfl (wl_nil (f_then (c_ret (f_blockR (f_thenR (f_ret [_, _] ⟨⟨b2, 0, rfl, ld_all I_ok rfl rfl hb2.seg rfl⟩, rfl, trivial⟩ ?_))))))
            exact ⟨noP, by rw [dec4 hne hk h1 h2 h3]; rfl, by rw [dec4 hne hk h1 h2 h3]; exact ObjNew.nil _ _ _ rfl rfl rfl, hX⟩
  rintro ⟨o, aa, s⟩ w53 ⟨⟨hD, hdec⟩, hb2, hX⟩
  try dsimp only
  dsimp only at hD hdec
  refine c_seq (c_seq (c_region (wl_p I_ok rfl (wl (st_ld I_ok rfl hD.tk.cell (wl_nil (f_then (c_cond rfl (fun hc => ?_) (fun hc => ?_)))))))))
  · have hd2 : decB l = (objZ, 7) := by
      rcases hdec with ⟨h1, _⟩ | ⟨_, h1⟩
      · exact dec0 h1
      · rw [h1, endB]; exact if_pos hc
    refine c_seq (c_region (wl (st_bd I_ok rfl trivial (l' := objC objZ noP) objZ_c.symm (wl (st_stW (l' := objC objZ noP) I_ok hb2 rfl rfl rfl rfl OneC.h fun w54 hb2 hE54 hs54 => ?_)))))
    have hX := hX.thenNew hE54 fr2
    refine wl_p I_ok rfl (wl_nil (f_then (c_ret (f_thenR (f_ret [_, _] ⟨⟨b2, 0, rfl, ld_all I_ok rfl rfl hb2.seg rfl⟩, rfl, trivial⟩ ?_)))))
    exact ⟨noP, by rw [hd2]; rfl, by rw [hd2]; exact ObjNew.nil _ _ _ rfl rfl rfl, hX⟩
  · have hd1 : decB l = if ObjOk o ∧ laidB o = l then (o, 0) else (objZ, 160) := by
      rcases hdec with ⟨_, h1⟩ | ⟨_, h1⟩
      · rw [h1] at hc; cases hc
      · rw [h1, endB]; exact if_neg (by rw [hc]; decide)
    refine c_skip (f_then (c_seq (c_cutK (α := Bool) [2, 5] rfl (fun z => [(160, .bool z)]) (fun z u => (z = decide (¬ (ObjOk o ∧ laidB o = l)) ∧ TecS w1 u b16 b5 o aa s) ∧ Blk u b2 33 (cellsOf ti33.zero) ∧ Ext No w u) ?_ ?_)))
    · refine c_draw rfl 11 [(0, true), (1, false), (2, true), (3, true), (4, true), (7, true), (8, true), (5, false), (6, false), (9, true), (10, true)] [] (No) (by kernel_rfl) fun w55 hE55 hs55 => ?_
      have hd2 := hb2
      have hTd := hT
      have hDd := hD
      have hXd := hX
      have hb2 := hb2.extNo hE55
      have hD := hD.extNo hE55
      have hX := hX.thenNo hE55
      have hC : Ext (No) _ w55 := hE55.no
      refine wd_ldN I_ok rfl rfl (fun w' hw' => (hDd.extNo hw').bo.seg) (objC_len hDd.oin) ?_
      refine wd_l rfl (st_call Tryd.call16 rfl rfl rfl rfl rfl rfl (right6_calls w55 hD.oin hD.new.l hD.sh) fun v56 w56 hr56 => ⟨(by obtain ⟨rfl, hE56⟩ := hr56; exact hC.thenNo hE56), ?_⟩)
      obtain ⟨rfl, hE56⟩ := hr56
      have hb2 := hb2.extNo hE56
      have hD := hD.extNo hE56
      have hX := hX.thenNo hE56
      have hC := hC.thenNo hE56
      refine wd_k I_ok 2 rfl (wd_case 153 rfl (fun hg => ?_) (fun hg => ?_))
      · have hok : ¬ ObjOk o := by simpa using hg
        refine wd_k I_ok 7 rfl (wd_sw (wb_nil ?_))
        exact f_cut (_) rfl ⟨⟨by symm; rw [decide_eq_true_eq]; exact fun h => hok h.1, hD⟩, hb2, hX⟩
      · have hok : ObjOk o := by simpa using hg
        refine wd_ldN I_ok rfl rfl (fun w' hw' => (hDd.extNo hw').bo.seg) (objC_len hDd.oin) ?_
        refine wd_k I_ok 1 rfl (wd_b2s I_ok rfl rfl rfl (fun w' hw' => (h.extNo (hXd.thenNo hw'))) (h.extNo hX) ?_)
        refine wd_l rfl (st_call Tryd.call18 rfl rfl rfl rfl rfl rfl (bytes6_calls w56 hD.oin hD.new.l hok.1) fun v57 w57 hr57 => ⟨(by obtain ⟨q, k2, rfl, hq, hqn, hE57⟩ := hr57; exact hC.thenNo hE57), ?_⟩)
        obtain ⟨q, k2, rfl, hq, hqn, hE57⟩ := hr57
        have hb2 := hb2.extNo hE57
        have hD := hD.extNo hE57
        have hX := hX.thenNo hE57
        have hC := hC.thenNo hE57
        refine wd_l rfl (st_b2s I_ok rfl rfl hq.sl ⟨hC, ?_⟩)
        refine wd_k I_ok 2 rfl (wd_sw (wb_nil ?_))
        exact f_cut (_) rfl ⟨⟨by rw [decide_eq_decide]; exact ⟨fun h h2 => h (by rw [h2.2]), fun h e => h ⟨hok, strU_inj e⟩⟩, hD⟩, hb2, hX⟩
    rintro z w58 ⟨⟨rfl, hD⟩, hb2, hX⟩
    refine c_if rfl (fun hc => ?_) (fun hc => ?_)
    · have hd2 : decB l = (objZ, 160) := by rw [hd1]; exact if_neg hc
      refine c_seq (c_region (wl (st_bd I_ok rfl trivial (l' := objC objZ noP) objZ_c.symm (wl (st_stW (l' := objC objZ noP) I_ok hb2 rfl rfl rfl rfl OneC.h fun w59 hb2 hE59 hs59 => ?_)))))
      have hX := hX.thenNew hE59 fr2
      refine wl_p I_ok rfl (wl_nil (f_then (c_ret (f_thenR (f_ret [_, _] ⟨⟨b2, 0, rfl, ld_all I_ok rfl rfl hb2.seg rfl⟩, rfl, trivial⟩ ?_)))))
      exact ⟨noP, by rw [hd2]; rfl, by rw [hd2]; exact ObjNew.nil _ _ _ rfl rfl rfl, hX⟩
    · have hd2 : decB l = (o, 0) := by rw [hd1]; exact if_pos (Decidable.not_not.1 hc)
      refine c_skip (f_then (c_seq (c_region (wl (st_ldN I_ok rfl hD.bo.seg (objC_len hD.oin) ?_)))))
      have hN := hD.new
      have hin := hD.oin
      have hb2p := hb2
      refine wl (st_stW (l' := objC o aa) I_ok hb2 rfl rfl (objC_len hD.oin) (objC_len hD.oin) OneC.h fun w60 hb2 hE60 hs60 => ?_)
      have hX := hX.thenNew hE60 fr2
      have hN := hN.ext1 hE60 hb2p (by decide) (by decide) (by decide)
      refine wl_p I_ok rfl (wl_nil (f_then (c_ret (f_ret [_, _] ⟨⟨b2, 0, rfl, ld_all I_ok rfl rfl hb2.seg (objC_len hin)⟩, rfl, trivial⟩ ?_))))
      exact ⟨aa, by rw [hd2]; rfl, by rw [hd2]; exact hN.older hX1.size, hX⟩
end Go.Proofs.YtjghckniloikgaaDoor
namespace Go.Vc
theorem Own.opened {w : World} {p : Option Addr} {n c T sz : Nat} {xs : List Value} (h : Own w p n c T sz xs) (hn : 0 < n) : ∃ b l, p = some ⟨b, 0, none⟩ ∧ Blk w b T l ∧ l.length = c * sz ∧ n ≤ c ∧ c ≤ maxLen ∧ l.take (n * sz) = xs := by
  rcases h with ⟨_, h, _, _⟩ | ⟨b, l, hp, hb, hl, hn', hc, hx⟩
  · omega
  · exact ⟨b, l, hp, hb, hl, hn', hc, hx⟩
/-- one cell of its rows is written -/
theorem Own.setB {w : World} {b n c T sz : Nat} {l xs : List Value} {k : Nat} {v : Value} (hl : l.length = c * sz) (hn : n ≤ c) (hc : c ≤ maxLen) (hx : l.take (n * sz) = xs) (hb : Blk w b T (l.set k v)) : Own w (some ⟨b, 0, none⟩) n c T sz (xs.set k v) :=
  .inr ⟨b, _, rfl, hb, by rw [List.length_set, hl], hn, hc, by rw [List.take_set, hx]⟩
theorem put_take {l : List Value} {k m : Nat} : ∀ {vs : List Value}, k + vs.length ≤ m → (put l k vs).take m = put (l.take m) k vs := by
  intro vs
  induction vs generalizing l k with
  | nil => intro _; rfl
  | cons v r ih =>
    intro h
    simp only [put, List.length_cons] at *
    rw [ih (by omega), List.take_set]
/-- some cells of its rows are written -/
theorem Own.putB {w : World} {b n c T sz : Nat} {l xs : List Value} {k : Nat} {vs : List Value} (hl : l.length = c * sz) (hn : n ≤ c) (hc : c ≤ maxLen) (hx : l.take (n * sz) = xs) (hk : k + vs.length ≤ n * sz) (hb : Blk w b T (put l k vs)) : Own w (some ⟨b, 0, none⟩) n c T sz (put xs k vs) :=
  .inr ⟨b, _, rfl, hb, by rw [put_length, hl], hn, hc, by rw [put_take hk, hx]⟩
theorem flat_set {α : Type} {f : α → List Value} {n : Nat} {l : List α} (hn : ∀ x ∈ l, (f x).length = n) {i j : Nat} (hi : i < l.length) (hj : j < n) {v : Value} {y : α} (hy : f y = (f l[i]).set j v) : (l.flatMap f).set (i * n + j) v = (l.set i y).flatMap f := by
  have h := rows_put (Uni.map hn) (i := i) (j := j) (r := f l[i]) (by rw [List.getElem?_map, List.getElem?_eq_getElem hi]; rfl) [v] (by simp; omega)
  rw [List.flatMap_def, List.flatMap_def, List.map_set, hy]
  exact h
/-- the first so many are done -/
def upto {α : Type} (g : α → α) (i : Nat) (l : List α) : List α := (l.take i).map g ++ l.drop i
theorem upto_zero {α : Type} (g : α → α) (l : List α) : upto g 0 l = l := by simp [upto]
theorem upto_len {α : Type} (g : α → α) (i : Nat) (l : List α) : (upto g i l).length = l.length := by simp [upto]; omega
theorem upto_all {α : Type} {g : α → α} {i : Nat} {l : List α} (h : l.length ≤ i) : upto g i l = l.map g := by
  simp [upto, List.take_of_length_le h, List.drop_eq_nil_of_le h]
theorem upto_get {α : Type} {g : α → α} {i : Nat} {l : List α} (h : i < l.length) : (upto g i l)[i]'(by rw [upto_len]; exact h) = l[i] := by
  have e : ((l.take i).map g).length = i := by simp; omega
  simp only [upto]
  rw [List.getElem_append_right (by rw [e]; exact Nat.le_refl _)]
  rw [List.getElem_drop]
  congr 1
  omega
theorem upto_step {α : Type} {g : α → α} {i : Nat} {l : List α} (h : i < l.length) : (upto g i l).set i (g l[i]) = upto g (i + 1) l := by
  have e : ((l.take i).map g).length = i := by simp; omega
  simp only [upto]
  rw [List.set_append, if_neg (by omega), e, Nat.sub_self, List.drop_eq_getElem_cons h, List.set_cons_zero, List.take_succ_eq_append_getElem h, List.map_append, List.append_assoc]
  rfl
theorem upto_mem {α : Type} {g : α → α} {i : Nat} {l : List α} {p : α → Prop} (h : ∀ x ∈ l, p x) (hg : ∀ x, p x → p (g x)) : ∀ x ∈ upto g i l, p x := fun x hx => by
  simp only [upto, List.mem_append, List.mem_map] at hx
  rcases hx with ⟨y, hy, rfl⟩ | hx
  · exact hg y (h y (List.mem_of_mem_take hy))
  · exact h x (List.mem_of_mem_drop hx)
theorem upto_set {α : Type} {g : α → α} {i : Nat} {l : List α} {p : α → Prop} (h : ∀ x ∈ l, p x) (hg : ∀ x, p x → p (g x)) {y : α} (hy : p y) : ∀ x ∈ (upto g i l).set i y, p x := fun x hx => by
  rcases List.mem_or_eq_of_mem_set hx with h1 | rfl
  · exact upto_mem h hg x h1
  · exact hy

theorem strU_cut (l : Str) (n : Nat) : (strU l).extract 0 (min (strU l).size n) = strU (l.take n) := by
  apply ByteArray.ext
  show ((strU l).extract 0 (min (strU l).size n)).data = (l.take n).toArray
  rw [ByteArray.data_extract, strU_size]
  show l.toArray.extract 0 (min l.length n) = _
  rw [List.extract_toArray]
  congr 1
  simp only [List.extract, Nat.sub_zero, List.drop_zero]
  rw [List.take_eq_take_iff]
  omega
theorem minI (n k : Nat) : (if (k : Int) < (n : Int) then (k : Int) else (n : Int)) = ((min n k : Nat) : Int) := by split <;> omega
theorem cutBds (n k : Nat) : Bds.Is ⟨none, some (if (k : Int) < (n : Int) then (k : Int) else (n : Int)), none⟩ n n 0 (min n k) n :=
  ⟨.inr ⟨rfl, rfl⟩, .inl (congrArg some (minI n k)), .inr ⟨rfl, rfl⟩, Nat.zero_le _, by omega, Nat.le_refl _⟩
theorem min_take {α : Type} (l : List α) (k : Nat) : min l.length k = (l.take k).length := by simp [Nat.min_comm]
theorem Sl.cut {α : Type} {w : World} {p : Option Addr} {f : α → List Value} {n : Nat} {l : List α} (h : Sl w p l.length n (l.flatMap f)) (hn : ∀ x ∈ l, (f x).length = n) (k : Nat) : Sl w p (l.take k).length n ((l.take k).flatMap f) := by
  have h1 := h.slice 0 (min l.length k) (min l.length k) (Nat.zero_le _) (Nat.le_refl _) (by omega)
  have e : ((l.flatMap f).drop (0 * n)).take ((min l.length k - 0) * n) = (l.take k).flatMap f := by
    rw [Nat.zero_mul, List.drop_zero, Nat.sub_zero, List.flatMap_def, List.flatMap_def, rows_take (Uni.map hn), ← List.map_take]
    congr 2
    rw [List.take_eq_take_iff]
    omega
  rw [e, slBase_zero, Nat.sub_zero, min_take] at h1
  exact h1

def cutLeaf (r : LeafD) : LeafD := ⟨r.path.take 49, r.id⟩
def cutChg (r : ChgD) : ChgD := ⟨r.path.take 49, r.is, r.text.take 257⟩
def cutRow (r : RowD) : RowD := ⟨r.path.take 49, r.text.take 257⟩
def cutT (o : ObjD) : ObjD := { o with text := o.text.take 257 }
def cutN (o : ObjD) : ObjD := { cutT o with note := o.note.take 201 }
def cutL (o : ObjD) : ObjD := { cutN o with leaves := o.leaves.take 33 }
def cutP (o : ObjD) : ObjD := { cutL o with parents := o.parents.take 4 }
def cutO (o : ObjD) : ObjD := { cutP o with rows := o.rows.take 33 }
/-- an object cut short -/
def shortO (o : ObjD) : ObjD := { cutO o with leaves := (o.leaves.take 33).map cutLeaf, rows := (o.rows.take 33).map cutChg }
theorem cutT_in {o : ObjD} (h : ObjIn o) : ObjIn (cutT o) := ⟨h.tree, h.base, h.parents, h.leaves, h.rows, h.number, h.author⟩
theorem cutN_in {o : ObjD} (h : ObjIn o) : ObjIn (cutN o) := ⟨h.tree, h.base, h.parents, h.leaves, h.rows, h.number, h.author⟩
theorem cutL_in {o : ObjD} (h : ObjIn o) : ObjIn (cutL o) := ⟨h.tree, h.base, h.parents, fun r hr => h.leaves r (List.mem_of_mem_take hr), h.rows, h.number, h.author⟩
theorem cutP_in {o : ObjD} (h : ObjIn o) : ObjIn (cutP o) := ⟨h.tree, h.base, fun r hr => h.parents r (List.mem_of_mem_take hr), fun r hr => h.leaves r (List.mem_of_mem_take hr), h.rows, h.number, h.author⟩
theorem cutO_in {o : ObjD} (h : ObjIn o) : ObjIn (cutO o) := ⟨h.tree, h.base, fun r hr => h.parents r (List.mem_of_mem_take hr), fun r hr => h.leaves r (List.mem_of_mem_take hr), fun r hr => h.rows r (List.mem_of_mem_take hr), h.number, h.author⟩
theorem shortO_in {o : ObjD} (h : ObjIn o) : ObjIn (shortO o) := ⟨h.tree, h.base, fun r hr => h.parents r (List.mem_of_mem_take hr),
  fun r hr => by
    obtain ⟨x, hx, rfl⟩ := List.mem_map.1 hr
    have := h.leaves x (List.mem_of_mem_take hx)
    exact ⟨Nat.le_trans (by simp [cutLeaf]; omega) this.1, this.2⟩,
  fun r hr => by
    obtain ⟨x, hx, rfl⟩ := List.mem_map.1 hr
    have := h.rows x (List.mem_of_mem_take hx)
    exact ⟨Nat.le_trans (by simp [cutChg]; omega) this.1, Nat.le_trans (by simp [cutChg]; omega) this.2⟩, h.number, h.author⟩
theorem shortO_short (o : ObjD) : shortO (shortO o) = shortO o := by
  simp only [shortO, cutO, cutP, cutL, cutN, cutT, ObjD.mk.injEq, true_and]
  refine ⟨?_, ?_, ?_, ?_, ?_⟩
  · rw [List.take_take]; rfl
  · rw [← List.map_take, List.take_take, List.map_map]
    refine List.map_congr_left fun x _ => ?_
    simp [cutLeaf, List.take_take]
  · rw [List.take_take]; rfl
  · rw [← List.map_take, List.take_take, List.map_map]
    refine List.map_congr_left fun x _ => ?_
    simp [cutChg, List.take_take]
  · rw [List.take_take]; rfl
end Go.Vc
namespace Go.Proofs.YtjghckniloikgaaDoor
open Go.Vc
theorem sameIds_calls (w : World) {p q : Option Addr} {c d : Nat} {l m : List (List UInt8)} (h : Sl w p l.length 32 (l.flatMap bytesU)) (h' : Sl w q m.length 32 (m.flatMap bytesU)) (hl : l.length < 1000000000) (h1 : ∀ r ∈ l, IdIn r) (h2 : ∀ r ∈ m, IdIn r) :
    CallsV Tryd.prog 20 [.slice p l.length c, .slice q m.length d] w fun v w' => v = .bool (decide (l = m)) ∧ Ext No w w' := by
  refine calls_enter Tryd.func20 rfl rfl rfl rfl ?_
  have hX := Ext.refl No w
  refine c_seq (c_region (wl_p I_ok rfl (wl_nil (f_then (c_seq (c_seq (c_region (wl_p I_ok rfl (wl_nil (f_then (c_if rfl (fun hc => ?_) (fun hc => ?_))))))))))))
  · refine c_seq ?_
    refine c_region (wl_p I_ok rfl (wl_nil (f_then (c_ret (f_thenR (f_ret1 rfl rfl ?_))))))
    exact ⟨congrArg Value.bool (by symm; rw [decide_eq_false_iff_not]; intro h; rw [h] at hc; exact hc rfl), hX⟩
  · have hlm : l.length = m.length := by omega
    refine c_skip (f_then (c_seq (c_seq (c_region (wl_p I_ok rfl (wl_nil (f_then (c_block ?_))))))))
    refine c_loopK (α := Nat) [0, 1, 12] rfl (fun z => [(13, .int .i64 (z : Int))]) (fun z u => (z ≤ l.length ∧ ∀ k (hk : k < l.length), k < z → l[k] = m[k]'(by omega)) ∧ Ext No w u) (fun z u => l.length - z) (0) rfl ⟨⟨Nat.zero_le _, fun k _ h => absurd h (Nat.not_lt_zero _)⟩, hX⟩ ?_
    rintro i w1 ⟨⟨hi, hok⟩, hX⟩
    refine c_seq (c_region (wl_p I_ok rfl (wl_nil (f_then (c_seq (c_if rfl (fun hc => ?_) (fun hc => ?_)))))))
    · have hi : i < l.length := by omega
      have him : i < m.length := by omega
      obtain ⟨b, off, rfl, hsa⟩ := h.rowAll (fun r hr => (h1 r hr).len) (by omega)
      obtain ⟨b', off', rfl, hsb⟩ := h'.rowAll (fun r hr => (h2 r hr).len) (by omega)
      have ha1 := h1 _ (List.getElem_mem hi)
      have ha2 := h2 _ (List.getElem_mem him)
      refine c_skip (f_then (c_seq (c_block (c_seq (c_region (wl_p I_ok rfl (wl_nil (f_then (c_seq ?_)))))))))
      refine c_draw rfl 9 [(0, true), (1, true), (2, true), (3, true), (4, true), (5, true), (6, true), (7, true), (8, true)] [] (No) (by kernel_rfl) fun w2 hE2 hs2 => ?_
      have hXd := hX
      have hX := hX.thenNo hE2
      have hC : Ext (No) _ w2 := hE2.no
      refine wd_k I_ok 2 rfl (wd_ix I_ok rfl rfl 32 rfl i rfl (by omega) (off + i * 32) rfl (wd_ldN I_ok rfl rfl (fun w' hw' => ((hsa i hi).extNo (hXd.thenNo hw'))) (IdIn.len ha1) ?_))
      refine wd_k I_ok 2 rfl (wd_ix I_ok rfl rfl 32 rfl i rfl (by omega) (off' + i * 32) rfl (wd_ldN I_ok rfl rfl (fun w' hw' => ((hsb i him).extNo (hXd.thenNo hw'))) (IdIn.len ha2) ?_))
      refine wd_eqK rfl rfl gId 10 (by decide) kId (idForm ha1) (idForm ha2) (idKey ha1) (idKey ha2) idLits_inj ?_
      simp only [Bool.false_eq_true, if_false]
      refine wd_sw (wb_nil (f_then (c_if rfl (fun hc => ?_) (fun hc => ?_))))
      · refine c_seq ?_
        refine c_region (wl_p I_ok rfl (wl_nil (f_then (c_ret (f_blockR (f_thenR (f_thenR (f_blockR (f_thenR (f_ret1 rfl rfl ?_))))))))))
        exact ⟨congrArg Value.bool (by symm; rw [decide_eq_false_iff_not]; intro e; subst e; exact hc rfl), hX⟩
      · have hei := Decidable.not_not.1 hc
        refine c_skip (f_blockN (f_then (c_region (wl_p I_ok rfl ?_))))
        rw [IntWalk.i64_in _ (by omega)]
        refine wl_nil ?_
        exact f_round (i + 1) rfl ⟨⟨by omega, fun k hk hlt => (by rcases Nat.lt_or_ge k i with h0 | h0; exact hok k hk h0; (have e : k = i := (by omega)); subst e; exact hei)⟩, hX⟩ (by first | omega | (dsimp only; omega))
    · have hall : l = m := list_ext hlm fun k hk => hok k hk (by omega)
      refine c_exit (f_thenE (f_thenE (f_blockE (f_then (c_seq (c_region (wl_p I_ok rfl (wl_nil (f_then (c_ret (f_ret1 rfl rfl ?_)))))))))))
      exact ⟨congrArg Value.bool (decide_eq_true hall).symm, hX⟩
end Go.Proofs.YtjghckniloikgaaDoor
namespace Go.Proofs.YtjghckniloikgaaDoor
open Go.Vc
/-- its lists reach as far as they are long -/
structure ObjCap (x : ObjD) (a : ObjP) : Prop where
  leaves : x.leaves.length ≤ a.lc
  parents : x.parents.length ≤ a.pc
  rows : x.rows.length ≤ a.rc
theorem ObjNew.cap {W0 w : World} {o : ObjD} {a : ObjP} (h : ObjNew W0 w o a) : ObjCap o a := ⟨h.ol.cap, h.op.cap, h.or.cap⟩
theorem objC_cutN {x : ObjD} {a : ObjP} (h : ObjIn x) : (objC (cutT x) a).set (68 + 4) (strV (x.note.take 201)) = objC (cutN x) a := objC_set (cutT_in h) 4 _
theorem objC_cutP {x : ObjD} {a : ObjP} (h : ObjIn x) : (objC (cutL x) a).set (68 + 0) (.slice a.pp (x.parents.take 4).length a.pc) = objC (cutP x) a := objC_set (cutL_in h) 0 _
theorem objC_cutO {x : ObjD} {a : ObjP} (h : ObjIn x) : (objC (cutP x) a).set (68 + 1) (.slice a.rp (x.rows.take 33).length a.rc) = objC (cutO x) a := objC_set (cutP_in h) 1 _
theorem objC_short (x : ObjD) (a : ObjP) : objC (shortO x) a = objC (cutO x) a := by
  simp only [objC, shortO, cutO, List.length_map]; rfl
theorem cutO_l {w : World} {x : ObjD} {a : ObjP} (h : ObjL w x a) (hx : ObjIn x) : ObjL w (cutO x) a :=
  ⟨h.leaves.cut (fun r hr => LeafD.len (hx.leaves r hr).2) 33, h.parents.cut (fun r hr => (by rw [bytesU_len]; exact hx.parents r hr)) 4, h.rows.cut (fun r _ => r.len) 33⟩
theorem cutO_leaves (x : ObjD) : (cutO x).leaves.length < 1000000000 := Nat.lt_of_le_of_lt (by show (x.leaves.take 33).length ≤ 33; rw [List.length_take]; omega) (by decide : 33 < 1000000000)
theorem cutO_parents (x : ObjD) : (cutO x).parents.length < 1000000000 := Nat.lt_of_le_of_lt (by show (x.parents.take 4).length ≤ 33; rw [List.length_take]; omega) (by decide : 33 < 1000000000)
theorem cutO_rows (x : ObjD) : (cutO x).rows.length < 1000000000 := Nat.lt_of_le_of_lt (by show (x.rows.take 33).length ≤ 33; rw [List.length_take]; omega) (by decide : 33 < 1000000000)
theorem leaf_cut {L : List LeafD} (hL : ∀ r ∈ L, r.id.length = 32) {i : Nat} (hi : i < L.length) :
    ((upto cutLeaf i L).flatMap LeafD.cells).set (i * 33 + 0) (strV ((L[i]).path.take 49)) = (upto cutLeaf (i + 1) L).flatMap LeafD.cells := by
  have h1 : i < (upto cutLeaf i L).length := by rw [upto_len]; exact hi
  have h2 : ∀ r ∈ upto cutLeaf i L, (LeafD.cells r).length = 33 := upto_mem (fun r hr => LeafD.len (hL r hr)) (fun r h => h)
  rw [flat_set h2 h1 (by decide) (y := cutLeaf L[i]) (by rw [upto_get hi]; rfl), upto_step hi]
theorem chg_cut {L : List ChgD} {i : Nat} (hi : i < L.length) :
    (((upto cutChg i L).flatMap ChgD.cells).set (i * 3 + 0) (strV ((L[i]).path.take 49))).set (i * 3 + 2) (strV ((L[i]).text.take 257)) = (upto cutChg (i + 1) L).flatMap ChgD.cells := by
  have h1 : i < (upto cutChg i L).length := by rw [upto_len]; exact hi
  rw [flat_set (fun r _ => r.len) h1 (by decide) (y := ⟨(L[i]).path.take 49, (L[i]).is, (L[i]).text⟩) (by rw [upto_get hi]; rfl),
    flat_set (fun r _ => r.len) (by rw [List.length_set]; exact h1) (by decide) (y := cutChg L[i]) (by rw [List.getElem_set_self]; rfl), List.set_set, upto_step hi]
theorem Own.row {α : Type} {w : World} {p : Option Addr} {_n c T sz : Nat} {g : α → α} {f : α → List Value} {i : Nat} {l : List α} (h : Own w p l.length c T sz ((upto g i l).flatMap f)) (hn : ∀ x ∈ upto g i l, (f x).length = sz) {b : Nat} (hp : p = some ⟨b, 0, none⟩) (hi : i < l.length) : Seg w b (i * sz) (f l[i]) := by
  have h1 := h.sl
  have h2 : Sl w p (upto g i l).length sz ((upto g i l).flatMap f) := by rw [upto_len]; exact h1
  have h3 : i < (upto g i l).length := by rw [upto_len]; exact hi
  obtain ⟨b', off, e, hs⟩ := h2.rowAll hn (by omega)
  rw [hp] at e
  cases e
  have := hs i h3
  rw [upto_get hi, Nat.zero_add] at this
  exact this
theorem short_calls (w : World) {x : ObjD} {a : ObjP} (hx : ObjIn x) (hxl : ObjL w x a) (hcap : ObjCap x a) :
    CallsV Tryd.prog 10 [.agg (objC x a).toArray] w fun v w' => ∃ a', v = .agg (objC (shortO x) a').toArray ∧ ObjNew w w' (shortO x) a' ∧ Ext No w w' := by
  refine calls_enter Tryd.func10 rfl rfl rfl rfl ?_
  have hX := Ext.refl No w
  refine c_seq (c_region (wl (st_al I_ok rfl fun b1 w1 hn1 hb1 hE1 => ?_)))
  have fr1 := Nat.le_trans hX.size hn1
  have hX := hX.thenNo hE1
  have hb1 : Blk w1 b1 33 (objC x a) := hb1
  refine wl (st_al I_ok rfl fun b2 w2 hn2 hb2 hE2 => ?_)
  have ne1_2 : b1 ≠ b2 := Nat.ne_of_lt (Nat.lt_of_lt_of_le hb1.lt hn2)
  have fr2 := Nat.le_trans hX.size hn2
  have hb1 := hb1.extNo hE2
  have hX := hX.thenNo hE2
  refine wl_nil (f_then (c_seq ?_))
  refine c_drawL I_ok rfl [] 15 [11, 12, 13] [(0, true), (1, true), (2, true), (3, true), (4, true), (5, true), (6, true), (7, true), (8, true), (9, true), (10, true), (14, true)] [29, 30, 31, 15, 16, 17] (No) (by kernel_rfl) rfl fun w3 hE3 hs3 => ?_
  have hd1 := hb1
  have hd2 := hb2
  have hXd := hX
  have hb1 := hb1.extNo hE3
  have hb2 := hb2.extNo hE3
  have hX := hX.thenNo hE3
  have hC : Ext (No) _ w3 := hE3.no
  refine wd_k I_ok 1 rfl (wd_ld I_ok rfl rfl (fun w' hw' => ((hd1.extNo hw').seg.obj hx).text) ?_)
  refine wd_k I_ok 1 rfl (wd_ld I_ok rfl rfl (fun w' hw' => ((hd1.extNo hw').seg.obj hx).text) ?_)
  refine wd_k I_ok 2 rfl (wd_ss I_ok rfl rfl 0 (min _ 257) (cutBds _ _) ?_)
  rw [strU_cut]
  refine wd_k I_ok 1 rfl (wd_ld I_ok rfl rfl (fun w' hw' => ((hd1.extNo hw').seg.obj hx).note) ?_)
  refine wd_k I_ok 1 rfl (wd_ld I_ok rfl rfl (fun w' hw' => ((hd1.extNo hw').seg.obj hx).note) ?_)
  refine wd_k I_ok 1 rfl (wd_sw (wbf I_ok (i := 11) rfl rfl rfl rfl rfl (by kernel_rfl) (wbf I_ok (i := 12) rfl rfl rfl rfl rfl (by kernel_rfl) (wb_ss I_ok (i := 13) rfl rfl rfl 0 (min _ 201) (cutBds _ _) (by kernel_rfl) ?_))))
  rw [strU_cut]
  have hb1o := hb1
  refine wb rfl (st_st I_ok hb1 rfl rfl rfl fun w4 hb1 hE4 hs4 => ?_)
  have hb2 := hb2.ext1 hE4 ne1_2.symm
  have hX := hX.thenNew hE4 fr1
  have hb1 : Blk w4 b1 33 (objC (cutT x) a) := hb1
  refine wb rfl (st_p I_ok rfl rfl rfl ?_)
  have hb1o := hb1
  refine wb rfl (st_set I_ok hb1 rfl rfl (by rw [objC_len (cutT_in hx)]; decide) fun w5 hb1 hE5 hs5 => ?_)
  have hb2 := hb2.ext1 hE5 ne1_2.symm
  have hX := hX.thenNew hE5 fr1
  have hb1 : Blk w5 b1 33 (objC (cutN x) a) := (by have h : Blk _ b1 _ ((objC (cutT x) a).set (68 + 4) (strV (x.note.take 201))) := hb1; rw [objC_cutN hx] at h; exact h)
  refine wb_nil (f_then (c_seq ?_))
  refine c_drawL I_ok rfl [] 24 [11, 12, 13, 20, 21, 22] [(0, true), (1, true), (2, true), (3, true), (4, true), (5, true), (6, true), (7, true), (8, true), (9, true), (10, true), (14, true), (15, true), (16, true), (17, true), (18, true), (19, true), (23, true)] [41, 42, 43, 50, 51, 52, 24, 25, 26, 27, 28, 29] (No) (by kernel_rfl) rfl fun w6 hE6 hs6 => ?_
  have hd1 := hb1
  have hd2 := hb2
  have hXd := hX
  have hb1 := hb1.extNo hE6
  have hb2 := hb2.extNo hE6
  have hX := hX.thenNo hE6
  have hC : Ext (No) _ w6 := hE6.no
  refine wd_k I_ok 1 rfl (wd_ld I_ok rfl rfl (fun w' hw' => ((hd1.extNo hw').seg.obj (cutN_in hx)).leaves) ?_)
  refine wd_k I_ok 1 rfl (wd_ld I_ok rfl rfl (fun w' hw' => ((hd1.extNo hw').seg.obj (cutN_in hx)).leaves) ?_)
  refine wd_k I_ok 2 rfl (wd_sl I_ok rfl rfl 0 (min x.leaves.length 33) a.lc 33 rfl (.inr ⟨rfl, rfl⟩) (.inl (congrArg some (minI _ _))) (.inr ⟨rfl, rfl⟩) (Nat.zero_le _) (by have := hcap.leaves; omega) (Nat.le_refl _) ?_)
  rw [slBase_zero, Nat.sub_zero, Nat.sub_zero, min_take]
  refine wd_k I_ok 1 rfl (wd_ld I_ok rfl rfl (fun w' hw' => ((hd1.extNo hw').seg.obj (cutN_in hx)).parents) ?_)
  refine wd_k I_ok 1 rfl (wd_ld I_ok rfl rfl (fun w' hw' => ((hd1.extNo hw').seg.obj (cutN_in hx)).parents) ?_)
  refine wd_k I_ok 2 rfl (wd_ld I_ok rfl rfl (fun w' hw' => ((hd1.extNo hw').seg.obj (cutN_in hx)).rows) ?_)
  refine wd_k I_ok 2 rfl (wd_ld I_ok rfl rfl (fun w' hw' => ((hd1.extNo hw').seg.obj (cutN_in hx)).rows) ?_)
  refine wd_k I_ok 1 rfl (wd_sw (wbf I_ok (i := 11) rfl rfl rfl rfl rfl (by kernel_rfl) (wbf I_ok (i := 12) rfl rfl rfl rfl rfl (by kernel_rfl) ?_)))
  refine wb_sl I_ok (i := 13) rfl rfl rfl 0 (min x.parents.length 4) a.pc 32 rfl (.inr ⟨rfl, rfl⟩) (.inl (congrArg some (minI _ _))) (.inr ⟨rfl, rfl⟩) (Nat.zero_le _) (by have := hcap.parents; omega) (Nat.le_refl _) (by kernel_rfl) ?_
  rw [slBase_zero, Nat.sub_zero, Nat.sub_zero, min_take]
  refine wbf I_ok (i := 20) rfl rfl rfl rfl rfl (by kernel_rfl) (wbf I_ok (i := 21) rfl rfl rfl rfl rfl (by kernel_rfl) ?_)
  refine wb_sl I_ok (i := 22) rfl rfl rfl 0 (min x.rows.length 33) a.rc 3 rfl (.inr ⟨rfl, rfl⟩) (.inl (congrArg some (minI _ _))) (.inr ⟨rfl, rfl⟩) (Nat.zero_le _) (by have := hcap.rows; omega) (Nat.le_refl _) (by kernel_rfl) ?_
  rw [slBase_zero, Nat.sub_zero, Nat.sub_zero, min_take]
  have hb1o := hb1
  refine wb rfl (st_st I_ok hb1 rfl rfl rfl fun w7 hb1 hE7 hs7 => ?_)
  have hb2 := hb2.ext1 hE7 ne1_2.symm
  have hX := hX.thenNew hE7 fr1
  have hb1 : Blk w7 b1 33 (objC (cutL x) a) := hb1
  refine wb rfl (st_p I_ok rfl rfl rfl ?_)
  have hb1o := hb1
  refine wb rfl (st_set I_ok hb1 rfl rfl (by rw [objC_len (cutL_in hx)]; decide) fun w8 hb1 hE8 hs8 => ?_)
  have hb2 := hb2.ext1 hE8 ne1_2.symm
  have hX := hX.thenNew hE8 fr1
  have hb1 : Blk w8 b1 33 (objC (cutP x) a) := (by have h : Blk _ b1 _ ((objC (cutL x) a).set (68 + 0) (.slice a.pp (x.parents.take 4).length a.pc)) := hb1; rw [objC_cutP hx] at h; exact h)
  refine wb rfl (st_p I_ok rfl rfl rfl (wb rfl (st_p I_ok rfl rfl rfl ?_)))
  have hb1o := hb1
  refine wb rfl (st_set I_ok hb1 rfl rfl (by rw [objC_len (cutP_in hx)]; decide) fun w9 hb1 hE9 hs9 => ?_)
  have hb2 := hb2.ext1 hE9 ne1_2.symm
  have hX := hX.thenNew hE9 fr1
  have hb1 : Blk w9 b1 33 (objC (cutO x) a) := (by have h : Blk _ b1 _ ((objC (cutP x) a).set (68 + 1) (.slice a.rp (x.rows.take 33).length a.rc)) := hb1; rw [objC_cutO hx] at h; exact h)
  refine wb_nil (f_then (c_seq (c_region (wl (st_ldB I_ok hb1 rfl (objC_len (cutO_in hx)) ?_)))))
  have hX0 := hX
  refine wl (st_call Tryd.call33 rfl rfl rfl rfl rfl rfl (copy6_calls w9 (cutO_in hx) (cutO_l (hxl.extNo hX) hx) (cutO_leaves x) (cutO_parents x) (cutO_rows x)) fun v10 w10 hr10 => ?_)
  obtain ⟨⟨lp, lc, pp, pc, rp, rc⟩, rfl, hN, hE10⟩ := hr10
  have hb1 := hb1.extNo hE10
  have hb2 := hb2.extNo hE10
  have hX := hX.thenNo hE10
  have hnl := fun y hy => Nat.le_trans hX0.size (hN.nl y hy)
  have hnp := fun y hy => Nat.le_trans hX0.size (hN.np y hy)
  have hnr := fun y hy => Nat.le_trans hX0.size (hN.nr y hy)
  have hol : Own w10 lp (x.leaves.take 33).length lc 76 33 ((upto cutLeaf 0 (x.leaves.take 33)).flatMap LeafD.cells) := (upto_zero cutLeaf _).symm ▸ hN.ol
  have hop : Own w10 pp (x.parents.take 4).length pc 26 32 ((x.parents.take 4).flatMap bytesU) := hN.op
  have hor : Own w10 rp (x.rows.take 33).length rc 82 3 ((upto cutChg 0 (x.rows.take 33)).flatMap ChgD.cells) := (upto_zero cutChg _).symm ▸ hN.or
  have hb1o := hb1
  refine wl (st_stW (l' := objC (cutO x) ⟨lp, lc, pp, pc, rp, rc⟩) I_ok hb1 rfl rfl (objC_len (cutO_in hx)) (by rw [objC_len (cutO_in hx), objC_len (cutO_in hx)]) OneC.h fun w11 hb1 hE11 hs11 => ?_)
  have hb2 := hb2.ext1 hE11 ne1_2.symm
  have hol := hol.extTy hE11 hb1o (by decide)
  have hop := hop.extTy hE11 hb1o (by decide)
  have hor := hor.extTy hE11 hb1o (by decide)
  have hX := hX.thenNew hE11 fr1
  refine wl_nil (f_then (c_seq (c_seq (c_region (wl_p I_ok rfl (wl (st_ldb I_ok hb1 rfl rfl (wl_p I_ok rfl (wl_nil (f_then (c_block ?_)))))))))))
  refine c_loopK (α := Nat) [1, 2, 54] rfl (fun z => [(55, .int .i64 (z : Int))]) (fun z u => (z ≤ (x.leaves.take 33).length ∧ Own u lp (x.leaves.take 33).length lc 76 33 ((upto cutLeaf z (x.leaves.take 33)).flatMap LeafD.cells) ∧ Own u pp (x.parents.take 4).length pc 26 32 ((x.parents.take 4).flatMap bytesU) ∧ Own u rp (x.rows.take 33).length rc 82 3 ((upto cutChg 0 (x.rows.take 33)).flatMap ChgD.cells)) ∧ Blk u b1 33 (objC (cutO x) ⟨lp, lc, pp, pc, rp, rc⟩) ∧ Blk u b2 33 (cellsOf ti33.zero) ∧ Ext No w u) (fun z u => (x.leaves.take 33).length - z) (0) rfl ⟨⟨Nat.zero_le _, hol, hop, hor⟩, hb1, hb2, hX⟩ ?_
  rintro i w12 ⟨⟨hi, hol, hop, hor⟩, hb1, hb2, hX⟩
  refine c_seq (c_region (wl_p I_ok rfl (wl_nil (f_then (c_seq (c_if rfl (fun hc => ?_) (fun hc => ?_)))))))
  · have h33 : (x.leaves.take 33).length ≤ 33 := by rw [List.length_take]; omega
    have hi : i < (x.leaves.take 33).length := (by have h : i < (cutO x).leaves.length := (by omega); exact h)
    have hLid : ∀ r ∈ (x.leaves.take 33), r.id.length = 32 := fun r hr => (hx.leaves r (List.mem_of_mem_take hr)).2
    obtain ⟨bl, L, hp, hbl, hL, hnc, hcm, htk⟩ := hol.opened (by omega)
    have hrow := Own.row (_n := 0) hol (upto_mem (fun r hr => LeafD.len (hLid r hr)) (fun r h => h)) hp hi
    subst hp
    refine c_skip (f_then (c_seq (c_block (c_seq (c_region (wl_p I_ok rfl (wl_nil (f_then (c_seq (c_region (wl_p I_ok rfl (wl (st_ldb I_ok hb1 rfl rfl (wl_p I_ok rfl (wl (st_ix I_ok rfl 33 rfl i rfl hi (0 + i * 33) rfl ?_))))))))))))))))
    rw [Nat.zero_add]
    refine wl_p I_ok rfl (wl_nil (f_then ?_))
    refine c_draw rfl 14 [(0, true), (1, true), (2, true), (3, true), (4, true), (5, true), (6, true), (7, true), (8, true), (9, true), (10, true), (11, true), (12, true), (13, true)] [14] (No) (by kernel_rfl) fun w13 hE13 hs13 => ?_
    have hd1 := hb1
    have hd2 := hb2
    have hold := hol
    have hopd := hop
    have hord := hor
    have hXd := hX
    have hb1 := hb1.extNo hE13
    have hb2 := hb2.extNo hE13
    have hol := hol.ext hE13 fun _ _ => id
    have hop := hop.ext hE13 fun _ _ => id
    have hor := hor.ext hE13 fun _ _ => id
    have hX := hX.thenNo hE13
    have hC : Ext (No) _ w13 := hE13.no
    have hbl := hbl.extNo hE13
    skip
    refine wd_k I_ok 4 rfl (wd_ld I_ok rfl rfl (fun w' hw' => ((hrow.extNo hw') 0 _ rfl)) ?_)
    refine wd_k I_ok 3 rfl (wd_ld I_ok rfl rfl (fun w' hw' => ((hrow.extNo hw') 0 _ rfl)) ?_)
    refine wd_k I_ok 2 rfl (wd_ss I_ok rfl rfl 0 (min _ 49) (cutBds _ _) ?_)
    rw [strU_cut]
    refine wd_k I_ok 2 rfl (wd_sw ?_)
    have hblo := hbl
    have hXo := hX
    refine wb rfl (st_set I_ok hbl rfl rfl (by rw [hL]; have := Nat.mul_le_mul_right 33 hnc; omega) fun w14 hbl hE14 hs14 => ?_)
    have ne1 : b1 ≠ bl := hb1.ne hblo (by decide)
    have ne2 : b2 ≠ bl := hb2.ne hblo (by decide)
    have hb1 := hb1.ext1 hE14 ne1
    have hb2 := hb2.ext1 hE14 ne2
    have hX := hXo.thenNew hE14 (hnl bl rfl)
    have hop := hop.extTy hE14 hblo (by decide)
    have hor := hor.extTy hE14 hblo (by decide)
    have hol : Own w14 (some ⟨bl, 0, none⟩) (x.leaves.take 33).length lc 76 33 ((upto cutLeaf (i + 1) (x.leaves.take 33)).flatMap LeafD.cells) := by
      rw [← leaf_cut hLid hi]; exact Own.setB hL hnc hcm htk hbl
    refine wb_nil (f_blockN (f_then (c_region (wl_p I_ok rfl ?_))))
    rw [IntWalk.i64_in _ (by omega)]
    refine wl_nil ?_
    exact f_round (i + 1) rfl ⟨⟨hi, hol, hop, hor⟩, hb1, hb2, hX⟩ (by first | omega | (dsimp only; omega))
  · have hend : (x.leaves.take 33).length ≤ i := (by have h : (cutO x).leaves.length ≤ i := (by omega); exact h)
    refine c_exit (f_thenE (f_thenE (f_blockE (f_then (c_seq (c_seq (c_region (wl_p I_ok rfl (wl (st_ld I_ok rfl (hb1.seg.obj (cutO_in hx)).rows (wl_p I_ok rfl (wl_nil (f_then (c_block ?_))))))))))))))
    refine c_loopK (α := Nat) [1, 2, 80] rfl (fun z => [(81, .int .i64 (z : Int))]) (fun z u => (z ≤ (x.rows.take 33).length ∧ Own u lp (x.leaves.take 33).length lc 76 33 ((upto cutLeaf i (x.leaves.take 33)).flatMap LeafD.cells) ∧ Own u pp (x.parents.take 4).length pc 26 32 ((x.parents.take 4).flatMap bytesU) ∧ Own u rp (x.rows.take 33).length rc 82 3 ((upto cutChg z (x.rows.take 33)).flatMap ChgD.cells)) ∧ Blk u b1 33 (objC (cutO x) ⟨lp, lc, pp, pc, rp, rc⟩) ∧ Blk u b2 33 (cellsOf ti33.zero) ∧ Ext No w u) (fun z u => (x.rows.take 33).length - z) (0) rfl ⟨⟨Nat.zero_le _, hol, hop, hor⟩, hb1, hb2, hX⟩ ?_
    rintro j w15 ⟨⟨hj, hol, hop, hor⟩, hb1, hb2, hX⟩
    refine c_seq (c_region (wl_p I_ok rfl (wl_nil (f_then (c_seq (c_if rfl (fun hc => ?_) (fun hc => ?_)))))))
    · have h33 : (x.rows.take 33).length ≤ 33 := by rw [List.length_take]; omega
      have hj : j < (x.rows.take 33).length := (by have h : j < (cutO x).rows.length := (by omega); exact h)
      obtain ⟨bl, L, hp, hbl, hL, hnc, hcm, htk⟩ := hor.opened (by omega)
      have hrow := Own.row (_n := 0) hor (fun r _ => r.len) hp hj
      subst hp
      refine c_skip (f_then (c_seq (c_block (c_seq (c_region (wl_p I_ok rfl (wl_nil (f_then (c_seq (c_region (wl_p I_ok rfl (wl (st_ld I_ok rfl (hb1.seg.obj (cutO_in hx)).rows (wl_p I_ok rfl ?_))))))))))))))
      refine wl (st_ix I_ok rfl 3 rfl j rfl hj (0 + j * 3) rfl ?_)
      rw [Nat.zero_add]
      refine wl_p I_ok rfl (wl_nil (f_then ?_))
      refine c_drawL I_ok rfl [] 26 [1, 21, 22, 23] [(0, true), (2, true), (3, true), (4, true), (5, true), (6, true), (7, true), (8, true), (9, true), (10, true), (11, true), (12, true), (13, true), (14, true), (15, true), (16, true), (17, true), (18, true), (19, true), (20, true), (24, true), (25, true)] [31, 51, 52, 53, 26, 27, 28, 29] (No) (by kernel_rfl) rfl fun w16 hE16 hs16 => ?_
      have hd1 := hb1
      have hd2 := hb2
      have hold := hol
      have hopd := hop
      have hord := hor
      have hXd := hX
      have hb1 := hb1.extNo hE16
      have hb2 := hb2.extNo hE16
      have hol := hol.ext hE16 fun _ _ => id
      have hop := hop.ext hE16 fun _ _ => id
      have hor := hor.ext hE16 fun _ _ => id
      have hX := hX.thenNo hE16
      have hC : Ext (No) _ w16 := hE16.no
      have hbl := hbl.extNo hE16
      refine wd_k I_ok 4 rfl (wd_ld I_ok rfl rfl (fun w' hw' => ((hrow.extNo hw') 0 _ rfl)) ?_)
      refine wd_k I_ok 3 rfl (wd_ld I_ok rfl rfl (fun w' hw' => ((hrow.extNo hw') 0 _ rfl)) ?_)
      refine wd_k I_ok 2 rfl (wd_ss I_ok rfl rfl 0 (min _ 49) (cutBds _ _) ?_)
      rw [strU_cut]
      refine wd_k I_ok 3 rfl (wd_ld I_ok rfl rfl (fun w' hw' => ((hrow.extNo hw') 2 _ rfl)) ?_)
      refine wd_k I_ok 3 rfl (wd_ld I_ok rfl rfl (fun w' hw' => ((hrow.extNo hw') 2 _ rfl)) ?_)
      refine wd_k I_ok 2 rfl (wd_sw (wbf I_ok (i := 1) rfl rfl rfl rfl rfl (by kernel_rfl) (wbf I_ok (i := 21) rfl rfl rfl rfl rfl (by kernel_rfl) (wbf I_ok (i := 22) rfl rfl rfl rfl rfl (by kernel_rfl) ?_))))
      refine wb_ss I_ok (i := 23) rfl rfl rfl 0 (min _ 257) (cutBds _ _) (by kernel_rfl) ?_
      rw [strU_cut]
      have hblo := hbl
      have hXo := hX
      refine wb rfl (st_set I_ok hbl rfl rfl (by rw [hL]; have := Nat.mul_le_mul_right 3 hnc; omega) fun w17 hbl1 hE17 hs17 => ?_)
      have ne1 : b1 ≠ bl := hb1.ne hblo (by decide)
      have ne2 : b2 ≠ bl := hb2.ne hblo (by decide)
      have hb1 := hb1.ext1 hE17 ne1
      have hb2 := hb2.ext1 hE17 ne2
      have hX := hXo.thenNew hE17 (hnr bl rfl)
      have hop := hop.extTy hE17 hblo (by decide)
      have hol := hol.extTy hE17 hblo (by decide)
      refine wb rfl (st_p I_ok rfl rfl rfl (wb rfl (st_p I_ok rfl rfl rfl ?_)))
      have hXo := hX
      refine wb rfl (st_set I_ok hbl1 rfl rfl (by show j * 3 + 2 < _; rw [List.length_set, hL]; have := Nat.mul_le_mul_right 3 hnc; omega) fun w18 hbl2 hE18 hs18 => ?_)
      have hb1 := hb1.ext1 hE18 ne1
      have hb2 := hb2.ext1 hE18 ne2
      have hX := hXo.thenNew hE18 (hnr bl rfl)
      have hop := hop.extTy hE18 hbl1 (by decide)
      have hol := hol.extTy hE18 hbl1 (by decide)
      have hor : Own w18 (some ⟨bl, 0, none⟩) (x.rows.take 33).length rc 82 3 ((upto cutChg (j + 1) (x.rows.take 33)).flatMap ChgD.cells) := by
        rw [← chg_cut hj]; exact Own.setB (by rw [List.length_set, hL]) hnc hcm (by rw [List.take_set, htk]) hbl2
      refine wb_nil (f_blockN (f_then (c_region (wl_p I_ok rfl ?_))))
      rw [IntWalk.i64_in _ (by omega)]
      refine wl_nil ?_
      exact f_round (j + 1) rfl ⟨⟨hj, hol, hop, hor⟩, hb1, hb2, hX⟩ (by first | omega | (dsimp only; omega))
    · have hend2 : (x.rows.take 33).length ≤ j := (by have h : (cutO x).rows.length ≤ j := (by omega); exact h)
      refine c_exit (f_thenE (f_thenE (f_blockE (f_then (c_seq (c_region (wl (st_ldB I_ok hb1 rfl (objC_len (cutO_in hx)) ?_))))))))
      have hb1o := hb2
      refine wl (st_stW (l' := objC (cutO x) ⟨lp, lc, pp, pc, rp, rc⟩) I_ok hb2 rfl rfl (objC_len (cutO_in hx)) (by rw [objC_len (cutO_in hx)]; rfl) OneC.h fun w19 hb2 hE19 hs19 => ?_)
      have hb1 := hb1.ext1 hE19 ne1_2
      have hol := hol.extTy hE19 hb1o (by decide)
      have hop := hop.extTy hE19 hb1o (by decide)
      have hor := hor.extTy hE19 hb1o (by decide)
      have hX := hX.thenNew hE19 fr2
      refine wl_nil (f_then (c_ret (f_ret [_] ⟨⟨b2, 0, rfl, ld_all I_ok rfl rfl hb2.seg (objC_len (cutO_in hx))⟩, trivial⟩ ?_)))
      rw [upto_all hend] at hol
      rw [upto_all hend2] at hor
      exact ⟨⟨lp, lc, pp, pc, rp, rc⟩, by rw [objC_short]; rfl, ⟨by rw [show (shortO x).leaves.length = (x.leaves.take 33).length from List.length_map ..]; exact hol, hop, by rw [show (shortO x).rows.length = (x.rows.take 33).length from List.length_map ..]; exact hor, hnl, hnp, hnr⟩, hX⟩
end Go.Proofs.YtjghckniloikgaaDoor
namespace Go.Proofs.YtjghckniloikgaaDoor
open Go.Vc
/-- rows of its own, whatever stands there -/
def OwnX (w : World) (p : Option Addr) (n c T sz : Nat) : Prop := ∃ xs, Own w p n c T sz xs
theorem OwnX.extNo {w w' : World} {p : Option Addr} {n c T sz : Nat} (h : OwnX w p n c T sz) (hE : Ext No w w') : OwnX w' p n c T sz := by obtain ⟨xs, h⟩ := h; exact ⟨xs, h.ext hE fun _ _ => id⟩
theorem OwnX.extTy {w w' : World} {p : Option Addr} {n c T sz : Nat} (h : OwnX w p n c T sz) {b U : Nat} {m : List Value} (hE : Ext (One b) w w') (hb : Blk w b U m) (hT : T ≠ U) : OwnX w' p n c T sz := by obtain ⟨xs, h⟩ := h; exact ⟨xs, h.extTy hE hb hT⟩
abbrev ObjF (a : ObjP) : Nat → Prop := fun y => OwnB a.lp y ∨ OwnB a.pp y ∨ OwnB a.rp y
theorem spoil_calls (w : World) {x : ObjD} {a : ObjP} (hx : ObjIn x) (hl : OwnX w a.lp x.leaves.length a.lc 76 33) (hp : OwnX w a.pp x.parents.length a.pc 26 32) (hr : OwnX w a.rp x.rows.length a.rc 82 3) (h1 : x.leaves.length < 1000000000) (h2 : x.parents.length < 1000000000) (h3 : x.rows.length < 1000000000) :
    CallsV Tryd.prog 24 [.agg (objC x a).toArray] w fun v w' => v = .tuple #[] ∧ Ext (ObjF a) w w' := by
  obtain ⟨lp, lc, pp, pc, rp, rc⟩ := a
  dsimp only at hl hp hr
  have hol := hl
  have hop := hp
  have hor := hr
  refine calls_enter Tryd.func24 rfl rfl rfl rfl ?_
  have hX := Ext.refl (ObjF ⟨lp, lc, pp, pc, rp, rc⟩) w
  refine c_seq (c_region (wl (st_al I_ok rfl fun b1 w1 hn1 hb1 hE1 => ?_)))
  have fr1 := Nat.le_trans hX.size hn1
  have hol := hol.extNo hE1
  have hop := hop.extNo hE1
  have hor := hor.extNo hE1
  have hX := hX.thenNo hE1
  have hb1 : Blk w1 b1 33 (objC x ⟨lp, lc, pp, pc, rp, rc⟩) := hb1
  refine wl_nil (f_then (c_seq (c_seq (c_region (wl_p I_ok rfl (wl (st_ldb I_ok hb1 rfl rfl (wl_p I_ok rfl (wl_nil (f_then (c_block ?_)))))))))))
  refine c_loopK (α := Nat) [1, 7] rfl (fun z => [(8, .int .i64 (z : Int))]) (fun z u => (z ≤ x.leaves.length ∧ OwnX u lp x.leaves.length lc 76 33 ∧ OwnX u pp x.parents.length pc 26 32 ∧ OwnX u rp x.rows.length rc 82 3) ∧ Blk u b1 33 (objC x ⟨lp, lc, pp, pc, rp, rc⟩) ∧ Ext (ObjF ⟨lp, lc, pp, pc, rp, rc⟩) w u) (fun z u => x.leaves.length - z) (0) rfl ⟨⟨Nat.zero_le _, hol, hop, hor⟩, hb1, hX⟩ ?_
  rintro i w2 ⟨⟨hi, hol, hop, hor⟩, hb1, hX⟩
  refine c_seq (c_region (wl_p I_ok rfl (wl_nil (f_then (c_seq (c_if rfl (fun hc => ?_) (fun hc => ?_)))))))
  · have hi : i < x.leaves.length := by omega
    obtain ⟨xs, hxs⟩ := hol
    obtain ⟨bl, L, hp, hbl, hL, hnc, hcm, htk⟩ := hxs.opened (by omega)
    subst hp
    refine c_skip (f_then (c_seq (c_block (c_seq (c_region (wl_p I_ok rfl (wl_nil (f_then (c_region (wl_p I_ok rfl (wl (st_ldb I_ok hb1 rfl rfl (wl_p I_ok rfl (wl (st_ix I_ok rfl 33 rfl i rfl hi (0 + i * 33) rfl ?_)))))))))))))))
    rw [Nat.zero_add]
    refine wl_p I_ok rfl ?_
    have hblo := hbl
    have hXo := hX
    refine wl (st_set I_ok hbl rfl rfl (by rw [hL]; have := Nat.mul_le_mul_right 33 hnc; omega) fun w3 hbl hE3 hs3 => ?_)
    have hb1 := hb1.ext1 hE3 (hb1.ne hblo (by decide))
    have hX := hXo.trans hE3 fun y hy hF => .inl (by rw [show y = bl from hF])
    have hop := hop.extTy hE3 hblo (by decide)
    have hor := hor.extTy hE3 hblo (by decide)
    have hol : OwnX w3 (some ⟨bl, 0, none⟩) x.leaves.length lc 76 33 := ⟨_, Own.setB hL hnc hcm htk hbl⟩
    refine wl_nil (f_blockN (f_then (c_region (wl_p I_ok rfl ?_))))
    rw [IntWalk.i64_in _ (by omega)]
    refine wl_nil ?_
    exact f_round (i + 1) rfl ⟨⟨hi, hol, hop, hor⟩, hb1, hX⟩ (by first | omega | (dsimp only; omega))
  · refine c_exit ?_
    refine f_thenE (f_thenE (f_blockE (f_then (c_seq (c_seq (c_region (wl_p I_ok rfl (wl (st_ld I_ok rfl (hb1.seg.obj hx).parents (wl_p I_ok rfl (wl_nil (f_then (c_block ?_)))))))))))))
    refine c_loopK (α := Nat) [1, 19] rfl (fun z => [(20, .int .i64 (z : Int))]) (fun z u => (z ≤ x.parents.length ∧ OwnX u lp x.leaves.length lc 76 33 ∧ OwnX u pp x.parents.length pc 26 32 ∧ OwnX u rp x.rows.length rc 82 3) ∧ Blk u b1 33 (objC x ⟨lp, lc, pp, pc, rp, rc⟩) ∧ Ext (ObjF ⟨lp, lc, pp, pc, rp, rc⟩) w u) (fun z u => x.parents.length - z) (0) rfl ⟨⟨Nat.zero_le _, hol, hop, hor⟩, hb1, hX⟩ ?_
    rintro j w4 ⟨⟨hj, hol, hop, hor⟩, hb1, hX⟩
    refine c_seq (c_region (wl_p I_ok rfl (wl_nil (f_then (c_seq (c_if rfl (fun hc => ?_) (fun hc => ?_)))))))
    · have hj : j < x.parents.length := by omega
      obtain ⟨xs, hxs⟩ := hop
      obtain ⟨bl, L, hp, hbl, hL, hnc, hcm, htk⟩ := hxs.opened (by omega)
      subst hp
      refine c_skip (f_then (c_seq (c_block (c_seq (c_region (wl_p I_ok rfl (wl_nil (f_then (c_region (wl_p I_ok rfl (wl (st_ld I_ok rfl (hb1.seg.obj hx).parents (wl_p I_ok rfl (wl (st_bd I_ok rfl trivial (l' := bytesU idZ) idZ_c.symm ?_)))))))))))))))
      refine wl (st_ix I_ok rfl 32 rfl j rfl hj (0 + j * 32) rfl ?_)
      rw [Nat.zero_add]
      have hblo := hbl
      have hXo := hX
      refine wl (st_stN I_ok hbl rfl (by rw [cellsOf_agg]; rfl) (by show j * 32 + 32 ≤ _; rw [hL]; have := Nat.mul_le_mul_right 32 hnc; omega) (by rw [cellsOf_agg]; exact OneC.h) fun w5 hbl hE5 hs5 => ?_)
      have hb1 := hb1.ext1 hE5 (hb1.ne hblo (by decide))
      have hX := hXo.trans hE5 fun y hy hF => .inr <| .inl (by rw [show y = bl from hF])
      have hol := hol.extTy hE5 hblo (by decide)
      have hor := hor.extTy hE5 hblo (by decide)
      have hop : OwnX w5 (some ⟨bl, 0, none⟩) x.parents.length pc 26 32 := ⟨_, Own.putB hL hnc hcm htk (by rw [cellsOf_agg, bytesU_len]; show j * 32 + 32 ≤ _; omega) hbl⟩
      refine wl_nil (f_blockN (f_then (c_region (wl_p I_ok rfl ?_))))
      rw [IntWalk.i64_in _ (by omega)]
      refine wl_nil ?_
      exact f_round (j + 1) rfl ⟨⟨hj, hol, hop, hor⟩, hb1, hX⟩ (by first | omega | (dsimp only; omega))
    · refine c_exit ?_
      refine f_thenE (f_thenE (f_blockE (f_then (c_seq (c_region (wl_p I_ok rfl (wl (st_ld I_ok rfl (hb1.seg.obj hx).rows (wl_p I_ok rfl (wl_nil (f_then (c_block ?_))))))))))))
      refine c_loopK (α := Nat) [1, 32] rfl (fun z => [(33, .int .i64 (z : Int))]) (fun z u => (z ≤ x.rows.length ∧ OwnX u lp x.leaves.length lc 76 33 ∧ OwnX u pp x.parents.length pc 26 32 ∧ OwnX u rp x.rows.length rc 82 3) ∧ Blk u b1 33 (objC x ⟨lp, lc, pp, pc, rp, rc⟩) ∧ Ext (ObjF ⟨lp, lc, pp, pc, rp, rc⟩) w u) (fun z u => x.rows.length - z) (0) rfl ⟨⟨Nat.zero_le _, hol, hop, hor⟩, hb1, hX⟩ ?_
      rintro k w6 ⟨⟨hk, hol, hop, hor⟩, hb1, hX⟩
      refine c_seq (c_region (wl_p I_ok rfl (wl_nil (f_then (c_seq (c_if rfl (fun hc => ?_) (fun hc => ?_)))))))
      · have hk : k < x.rows.length := by omega
        obtain ⟨xs, hxs⟩ := hor
        obtain ⟨bl, L, hp, hbl, hL, hnc, hcm, htk⟩ := hxs.opened (by omega)
        subst hp
        refine c_skip (f_then (c_seq (c_block (c_seq (c_region (wl_p I_ok rfl (wl_nil (f_then (c_region (wl_p I_ok rfl (wl (st_ld I_ok rfl (hb1.seg.obj hx).rows (wl_p I_ok rfl (wl (st_ix I_ok rfl 3 rfl k rfl hk (0 + k * 3) rfl ?_)))))))))))))))
        rw [Nat.zero_add]
        refine wl_p I_ok rfl ?_
        have hblo := hbl
        have hXo := hX
        refine wl (st_set I_ok hbl rfl rfl (by rw [hL]; have := Nat.mul_le_mul_right 3 hnc; omega) fun w7 hbl hE7 hs7 => ?_)
        have hb1 := hb1.ext1 hE7 (hb1.ne hblo (by decide))
        have hX := hXo.trans hE7 fun y hy hF => .inr <| .inr (by rw [show y = bl from hF])
        have hol := hol.extTy hE7 hblo (by decide)
        have hop := hop.extTy hE7 hblo (by decide)
        have hor : OwnX w7 (some ⟨bl, 0, none⟩) x.rows.length rc 82 3 := ⟨_, Own.setB hL hnc hcm htk hbl⟩
        refine wl_nil (f_blockN (f_then (c_region (wl_p I_ok rfl ?_))))
        rw [IntWalk.i64_in _ (by omega)]
        refine wl_nil ?_
        exact f_round (k + 1) rfl ⟨⟨hk, hol, hop, hor⟩, hb1, hX⟩ (by first | omega | (dsimp only; omega))
      · refine c_exit ?_
        refine f_thenE (f_thenE (f_blockE (f_end0 rfl ?_)))
        exact ⟨rfl, hX⟩
end Go.Proofs.YtjghckniloikgaaDoor
namespace Go.Proofs.YtjghckniloikgaaDoor
open Go.Vc
/-- a map cut short -/
def textsR (l : List RowD) : List RowD := (l.take 33).map cutRow
theorem rowZ_c : cellsOf ti78.zero = RowD.cells ⟨[], []⟩ := by kernel_rfl
theorem cut_step {l : List RowD} {i : Nat} (h : i < l.length) : (l.take (i + 1)).map cutRow = (l.take i).map cutRow ++ [cutRow l[i]] := by
  rw [List.take_succ_eq_append_getElem h, List.map_append]; rfl
theorem texts_calls (w : World) {p : Option Addr} {c : Nat} {rows : List RowD} (hs : Sl w p rows.length 2 (rows.flatMap RowD.cells)) (hl : rows.length < 1000000000) :
    CallsV Tryd.prog 25 [.agg #[.slice p rows.length c]] w fun v w' => ∃ q k, v = .agg #[.slice q (textsR rows).length k] ∧ Own w' q (textsR rows).length k 78 2 ((textsR rows).flatMap RowD.cells) ∧ (∀ x, OwnB q x → w.heap.size ≤ x) ∧ Ext No w w' := by
  refine calls_enter Tryd.func25 rfl rfl rfl rfl ?_
  have hX := Ext.refl No w
  refine c_seq (c_region (wl (st_al I_ok rfl fun b1 w1 hn1 hb1 hE1 => ?_)))
  have fr1 := Nat.le_trans hX.size hn1
  have hX := hX.thenNo hE1
  have hb1 : Blk w1 b1 58 ([.slice p rows.length c]) := hb1
  refine wl (st_al I_ok rfl fun b2 w2 hn2 hb2 hE2 => ?_)
  have ne1_2 : b1 ≠ b2 := Nat.ne_of_lt (Nat.lt_of_lt_of_le hb1.lt hn2)
  have fr2 := Nat.le_trans hX.size hn2
  have hb1 := hb1.extNo hE2
  have hX := hX.thenNo hE2
  refine wl_nil (f_then (c_seq (c_region (wl (st_al I_ok rfl fun b3 w3 hn3 hb3 hE3 => ?_)))))
  have ne1_3 : b1 ≠ b3 := Nat.ne_of_lt (Nat.lt_of_lt_of_le hb1.lt hn3)
  have ne2_3 : b2 ≠ b3 := Nat.ne_of_lt (Nat.lt_of_lt_of_le hb2.lt hn3)
  have fr3 := Nat.le_trans hX.size hn3
  have hb1 := hb1.extNo hE3
  have hb2 := hb2.extNo hE3
  have hX := hX.thenNo hE3
  have hb3 : Blk w3 b3 58 ([.slice none 0 0]) := hb3
  refine wl_nil (f_then ?_)
  refine c_cutK (α := Option Addr × Nat) [2, 3] rfl (fun z => []) (fun z u => (Own u z.1 (textsR rows).length z.2 78 2 ((textsR rows).flatMap RowD.cells) ∧ (∀ x, OwnB z.1 x → w.heap.size ≤ x)) ∧ Blk u b1 58 ([.slice p rows.length c]) ∧ Blk u b2 58 (cellsOf ti58.zero) ∧ Blk u b3 58 ([.slice z.1 (textsR rows).length z.2]) ∧ Ext No w u) ?_ ?_
  · refine c_seq ?_
    refine c_region (wl_p I_ok rfl (wl (st_ldb I_ok hb1 rfl rfl (wl_p I_ok rfl (wl_nil (f_then (c_block ?_)))))))
    refine c_loopK (α := Nat × Option Addr × Nat) [2, 3, 7, 8] rfl (fun z => [(9, .int .i64 (z.1 : Int))]) (fun z u => (z.1 ≤ rows.length ∧ z.1 ≤ 33 ∧ Own u z.2.1 ((rows.take z.1).map cutRow).length z.2.2 78 2 (((rows.take z.1).map cutRow).flatMap RowD.cells) ∧ (∀ x, OwnB z.2.1 x → w.heap.size ≤ x)) ∧ Blk u b1 58 ([.slice p rows.length c]) ∧ Blk u b2 58 (cellsOf ti58.zero) ∧ Blk u b3 58 ([.slice z.2.1 ((rows.take z.1).map cutRow).length z.2.2]) ∧ Ext No w u) (fun z u => rows.length - z.1) (0, none, 0) rfl ⟨⟨Nat.zero_le _, Nat.zero_le _, Own.nil _ _ _, noOwn⟩, hb1, hb2, hb3, hX⟩ ?_
    rintro ⟨i, q, k⟩ w4 ⟨⟨hi, hi33, hq, hqn⟩, hb1, hb2, hb3, hX⟩
    try dsimp only
    dsimp only at hi hi33 hq hqn
    refine c_seq (c_region (wl_p I_ok rfl (wl_nil (f_then (c_seq (c_if rfl (fun hc => ?_) (fun hc => ?_)))))))
    · have hi : i < rows.length := by omega
      obtain ⟨qb, qoff, hp, hsq⟩ := hs.rowAll (fun r _ => r.len) (by omega)
      rw [hp] at hb1 ⊢
      have hal : ((rows.take i).map cutRow).length = i := by simp; omega
      refine c_skip (f_then (c_seq (c_block (c_seq (c_region (wl_p I_ok rfl (wl (st_ix I_ok rfl 2 rfl i rfl (by omega) (qoff + i * 2) rfl (wl (st_ldN I_ok rfl ((hsq i hi).extNo hX) rfl ?_))))))))))
      have hq0 := hq
      refine wl (st_al I_ok rfl fun b5 w5 hn5 hb5 hE5 => ?_)
      have ne1_5 : b1 ≠ b5 := Nat.ne_of_lt (Nat.lt_of_lt_of_le hb1.lt hn5)
      have ne2_5 : b2 ≠ b5 := Nat.ne_of_lt (Nat.lt_of_lt_of_le hb2.lt hn5)
      have ne3_5 : b3 ≠ b5 := Nat.ne_of_lt (Nat.lt_of_lt_of_le hb3.lt hn5)
      have fr5 := Nat.le_trans hX.size hn5
      have hb1 := hb1.extNo hE5
      have hb2 := hb2.extNo hE5
      have hb3 := hb3.extNo hE5
      have hq := hq.ext hE5 fun _ _ => id
      have hX := hX.thenNo hE5
      have ne5 : ∀ x, OwnB q x → x ≠ b5 := fun x hx => Nat.ne_of_lt (Nat.lt_of_lt_of_le (hq0.lt hx) hn5)
      refine wl_p I_ok rfl ?_
      have hb5o := hb5
      refine wl (st_stW (l' := (rows[i]).cells) I_ok hb5 rfl rfl rfl rfl OneC.h fun w6 hb5 hE6 hs6 => ?_)
      have hb1 := hb1.ext1 hE6 ne1_5
      have hb2 := hb2.ext1 hE6 ne2_5
      have hb3 := hb3.ext1 hE6 ne3_5
      have hq := hq.ext hE6 (fun x hx => ne5 x hx)
      have hX := hX.thenNew hE6 fr5
      refine wl_nil (f_then (c_seq (c_seq (c_region (wl_p I_ok rfl (wl_nil (f_then (c_if rfl (fun hc => ?_) (fun hc => ?_)))))))))
      · have h33 : i = 33 := by omega
        have eT : (rows.take i).map cutRow = textsR rows := by rw [h33]; rfl
        rw [eT] at hq hb3
        obtain ⟨qT, kT, hqT, hqnT, e1, e2⟩ : ∃ qT kT, Own w6 qT (textsR rows).length kT 78 2 ((textsR rows).flatMap RowD.cells) ∧ (∀ x, OwnB qT x → w.heap.size ≤ x) ∧ q = qT ∧ k = kT := ⟨q, k, hq, hqn, rfl, rfl⟩
        rw [e1, e2] at hb3
        refine c_exit ?_
        exact f_thenE (f_blockE' rfl (f_thenE (f_thenE (f_blockE (f_cut (qT, kT) rfl ⟨⟨hqT, hqnT⟩, hb1, hb2, hb3, hX⟩)))))
      · have h33 : i < 33 := by omega
        refine c_skip (f_then (c_seq ?_))
        refine c_drawL I_ok rfl [] 15 [11, 12, 13] [(0, true), (1, true), (2, true), (3, true), (4, true), (5, true), (6, true), (7, true), (8, true), (9, true), (10, true), (14, true)] [29, 30, 31, 15, 16, 17] (No) (by kernel_rfl) rfl fun w7 hE7 hs7 => ?_
        have hd1 := hb1
        have hd2 := hb2
        have hd3 := hb3
        have hd5 := hb5
        have hqd := hq
        have hXd := hX
        have hb1 := hb1.extNo hE7
        have hb2 := hb2.extNo hE7
        have hb3 := hb3.extNo hE7
        have hb5 := hb5.extNo hE7
        have hq := hq.ext hE7 fun _ _ => id
        have hX := hX.thenNo hE7
        have hC : Ext (No) _ w7 := hE7.no
        refine wd_k I_ok 1 rfl (wd_ld I_ok rfl rfl (fun w' hw' => (hd5.extNo hw').cell rfl) ?_)
        refine wd_k I_ok 1 rfl (wd_ld I_ok rfl rfl (fun w' hw' => (hd5.extNo hw').cell rfl) ?_)
        refine wd_k I_ok 2 rfl (wd_ss I_ok rfl rfl 0 (min _ 49) (cutBds _ _) ?_)
        rw [strU_cut]
        refine wd_k I_ok 1 rfl (wd_ld I_ok rfl rfl (fun w' hw' => (hd5.extNo hw').cell rfl) ?_)
        refine wd_k I_ok 1 rfl (wd_ld I_ok rfl rfl (fun w' hw' => (hd5.extNo hw').cell rfl) ?_)
        refine wd_k I_ok 1 rfl (wd_sw (wbf I_ok (i := 11) rfl rfl rfl rfl rfl (by kernel_rfl) (wbf I_ok (i := 12) rfl rfl rfl rfl rfl (by kernel_rfl) (wb_ss I_ok (i := 13) rfl rfl rfl 0 (min _ 257) (cutBds _ _) (by kernel_rfl) ?_))))
        rw [strU_cut]
        have hb5o := hb5
        refine wb rfl (st_st I_ok hb5 rfl rfl rfl fun w8 hb5 hE8 hs8 => ?_)
        have hb1 := hb1.ext1 hE8 ne1_5
        have hb2 := hb2.ext1 hE8 ne2_5
        have hb3 := hb3.ext1 hE8 ne3_5
        have hq := hq.ext hE8 (fun x hx => ne5 x hx)
        have hX := hX.thenNew hE8 fr5
        have hb5 : Blk w8 b5 78 ([strV ((rows[i]).path.take 49), strV (rows[i]).text]) := hb5
        refine wb rfl (st_p I_ok rfl rfl rfl ?_)
        have hb5o := hb5
        refine wb rfl (st_st I_ok hb5 rfl rfl rfl fun w9 hb5 hE9 hs9 => ?_)
        have hb1 := hb1.ext1 hE9 ne1_5
        have hb2 := hb2.ext1 hE9 ne2_5
        have hb3 := hb3.ext1 hE9 ne3_5
        have hq := hq.ext hE9 (fun x hx => ne5 x hx)
        have hX := hX.thenNew hE9 fr5
        have hb5 : Blk w9 b5 78 ((cutRow rows[i]).cells) := hb5
        refine wb_nil (f_then (c_region (wl_p I_ok rfl (wl (st_ldb I_ok hb3 rfl rfl (wl (st_ldB I_ok hb5 rfl rfl ?_)))))))
        refine wl (st_bs I_ok rfl 2 rfl rowZ_c rfl (by decide) (by decide) ⟨⟨rfl, by decide⟩, trivial⟩ (l' := (cutRow rows[i]).cells) rfl fun b35 w10 hn35 hb35 hE10 hs10 => ?_)
        have ne1_35 : b1 ≠ b35 := Nat.ne_of_lt (Nat.lt_of_lt_of_le hb1.lt hn35)
        have ne2_35 : b2 ≠ b35 := Nat.ne_of_lt (Nat.lt_of_lt_of_le hb2.lt hn35)
        have ne3_35 : b3 ≠ b35 := Nat.ne_of_lt (Nat.lt_of_lt_of_le hb3.lt hn35)
        have ne5_35 : b5 ≠ b35 := Nat.ne_of_lt (Nat.lt_of_lt_of_le hb5.lt hn35)
        have fr35 := Nat.le_trans hX.size hn35
        have hb1 := hb1.extNo hE10
        have hb2 := hb2.extNo hE10
        have hb3 := hb3.extNo hE10
        have hb5 := hb5.extNo hE10
        have hq := hq.ext hE10 fun _ _ => id
        have hX := hX.thenNo hE10
        have hX1 := hX
        refine wl (st_app I_ok rfl 2 32 rfl rfl rfl (by decide) hq (Src.slice (m := 1) ⟨rfl, .inr ⟨b35, 0, rfl, hb35.seg⟩⟩ OneC.h) (by dsimp only [maxLen]; omega) (by dsimp only; omega) fun p11 c11 w11 ho11 hE11 hB11 => ?_)
        dsimp only at ho11 hE11 hB11 ⊢
        have hX := hX1.trans hE11 fun y hy hF => by have := hqn y hF; omega
        have hb1 := hb1.extOwn hq hE11 (by decide)
        have hb2 := hb2.extOwn hq hE11 (by decide)
        have hb3 := hb3.extOwn hq hE11 (by decide)
        have hb5 := hb5.ext hE11 (fun h => ne5 _ h rfl)
        have hsz1 := hX1.size
        obtain ⟨q2, k2, e1, e2, hq2⟩ : ∃ q2 k2, q2 = p11 ∧ k2 = c11 ∧ Own w11 q2 ((rows.take (i + 1)).map cutRow).length k2 78 2 (((rows.take (i + 1)).map cutRow).flatMap RowD.cells) := ⟨_, _, rfl, rfl, by
          rw [cut_step hi, List.flatMap_append, List.length_append]
          simpa using ho11⟩
        rw [← e1] at hB11
        rw [← e1, ← e2]
        have hqn2 : ∀ x, OwnB q2 x → w.heap.size ≤ x := fun x hx => (hB11 x hx).elim (fun h => hqn x h) fun h => by omega
        refine wl_p I_ok rfl ?_
        have hb3o := hb3
        refine wl (st_st I_ok hb3 rfl rfl rfl fun w12 hb3 hE12 hs12 => ?_)
        have hb1 := hb1.ext1 hE12 ne1_3
        have hb2 := hb2.ext1 hE12 ne2_3
        have hb5 := hb5.ext1 hE12 ne3_5.symm
        have hq2 := hq2.extTy hE12 hb3o (by decide)
        have hX := hX.thenNew hE12 fr3
        have hb3 : Blk w12 b3 58 ([.slice q2 ((rows.take (i + 1)).map cutRow).length k2]) := (by
          rw [cut_step hi, List.length_append]
          exact hb3)
        refine wl_nil (f_blockN (f_then (c_region (wl_p I_ok rfl ?_))))
        rw [IntWalk.i64_in _ (by omega)]
        refine wl_nil ?_
        exact f_round (i + 1, q2, k2) rfl ⟨⟨hi, h33, hq2, hqn2⟩, hb1, hb2, hb3, hX⟩ (by first | omega | (dsimp only; omega))
    · have eT : (rows.take i).map cutRow = textsR rows := by
        rw [textsR, List.take_of_length_le (by omega), List.take_of_length_le (by omega)]
      rw [eT] at hq hb3
      obtain ⟨qT, kT, hqT, hqnT, e1, e2⟩ : ∃ qT kT, Own w4 qT (textsR rows).length kT 78 2 ((textsR rows).flatMap RowD.cells) ∧ (∀ x, OwnB qT x → w.heap.size ≤ x) ∧ q = qT ∧ k = kT := ⟨q, k, hq, hqn, rfl, rfl⟩
      rw [e1, e2] at hb3
      refine c_exit ?_
      exact f_thenE (f_thenE (f_blockE (f_cut (qT, kT) rfl ⟨⟨hqT, hqnT⟩, hb1, hb2, hb3, hX⟩)))
  rintro ⟨q, k⟩ w13 ⟨⟨hq, hqn⟩, hb1, hb2, hb3, hX⟩
  try dsimp only
  dsimp only at hq hqn
  refine c_seq (c_region (wl (st_ldB I_ok hb3 rfl rfl ?_)))
  have hb2o := hb2
  refine wl (st_stW (l' := [.slice q (textsR rows).length k]) I_ok hb2 rfl rfl rfl rfl OneC.h fun w14 hb2 hE14 hs14 => ?_)
  have hb1 := hb1.ext1 hE14 ne1_2
  have hb3 := hb3.ext1 hE14 ne2_3.symm
  have hq := hq.extTy hE14 hb2o (by decide)
  have hX := hX.thenNew hE14 fr2
  refine wl_nil (f_then (c_ret (f_ret [_] ⟨⟨b2, 0, rfl, ld_all I_ok rfl rfl hb2.seg rfl⟩, trivial⟩ ?_)))
  exact ⟨q, k, rfl, hq, hqn, hX⟩
end Go.Proofs.YtjghckniloikgaaDoor
namespace Go.Proofs.YtjghckniloikgaaDoor
open Go.Vc
def heldB (t : Str) : HeldT := ⟨idOf (blobO t), blobO t, noP⟩
def addT (acc : List Str) (r : RowD) : List Str := if r.text ∈ acc then acc else acc ++ [r.text]
/-- a map's texts, each once -/
def refT (l : List RowD) : List Str := l.foldl addT []
theorem refT_take {l : List RowD} {i : Nat} (h : i < l.length) : refT (l.take (i + 1)) = addT (refT (l.take i)) l[i] := by
  rw [List.take_succ_eq_append_getElem h, refT, List.foldl_append]; rfl
theorem refT_len (l : List RowD) : (refT l).length ≤ l.length := by
  have : ∀ (l : List RowD) (acc : List Str), (l.foldl addT acc).length ≤ acc.length + l.length := by
    intro l
    induction l with
    | nil => intro acc; simp
    | cons r l ih =>
      intro acc
      have h1 := ih (addT acc r)
      have h2 : (addT acc r).length ≤ acc.length + 1 := by unfold addT; split <;> simp
      rw [List.foldl_cons, List.length_cons]
      omega
  simpa [refT] using this l []
theorem heldB_in (t : Str) : (heldC (heldB t)).length = 105 := heldC_len (idOf_len _) (blobO_in _)
theorem heldBs {l : List Str} : ∀ h ∈ l.map heldB, (heldC h).length = 105 := fun h hh => by obtain ⟨t, _, rfl⟩ := List.mem_map.1 hh; exact heldB_in t
theorem held_obj {w : World} {b off : Nat} {h : HeldT} (hs : Seg w b off (heldC h)) (hid : h.id.length = 32) : Seg w b (off + 32) (objC h.o h.a) := by
  have h1 := (Seg.append.1 hs).2
  rw [bytesU_len, hid] at h1
  exact h1
/-- a map's parts, as the document has them -/
def refP (l : List RowD) (a : ObjP) : List HeldT := (refT l).map heldB ++ [⟨idOf (treeOf l), treeOf l, a⟩]
theorem mem_step {α : Type} [DecidableEq α] {l : List α} {j : Nat} (h : j < l.length) {x : α} : x ∈ l.take (j + 1) ↔ x ∈ l.take j ∨ l[j] = x := by
  rw [List.take_succ_eq_append_getElem h, List.mem_append, List.mem_singleton]
  exact ⟨fun h => h.imp id Eq.symm, fun h => h.imp id Eq.symm⟩
theorem parts6_calls (w : World) {p : Option Addr} {c : Nat} {rows : List RowD} (hrows : RowsOk rows) (hs : Sl w p rows.length 2 (rows.flatMap RowD.cells)) :
    CallsV Tryd.prog 29 [.agg #[.slice p rows.length c]] w fun v w' => ∃ q k lp lc, (ObjOk (treeOf rows) → v = .slice q (refP rows (lfP lp lc)).length k ∧ Own w' q (refP rows (lfP lp lc)).length k 68 105 ((refP rows (lfP lp lc)).flatMap heldC)) ∧ (¬ ObjOk (treeOf rows) → v = .slice none 0 0) ∧
      (∀ x, OwnB q x → w.heap.size ≤ x) ∧ Own w' lp (leavesOf rows).length lc 76 33 ((leavesOf rows).flatMap LeafD.cells) ∧ (∀ x, OwnB lp x → w.heap.size ≤ x) ∧ Ext No w w' := by
  have hr32 := rows_at hrows
  have hll : (leavesOf rows).length = rows.length := by rw [leavesOf, List.length_map]
  refine calls_enter Tryd.func29 rfl rfl rfl rfl ?_
  have hX := Ext.refl No w
  refine c_seq (c_region (wl (st_al I_ok rfl fun b1 w1 hn1 hb1 hE1 => ?_)))
  have fr1 := Nat.le_trans hX.size hn1
  have hX := hX.thenNo hE1
  have hb1 : Blk w1 b1 58 ([.slice p rows.length c]) := hb1
  refine wl_p I_ok rfl (wl_nil (f_then (c_seq (c_region (wl_p I_ok rfl (wl_nil (f_then (c_seq (c_region (wl (st_bd I_ok rfl ⟨⟨rfl, by decide⟩, trivial⟩ (l' := objC (treeO []) noP) (by rw [← objZ_c]; rfl) ?_)))))))))))
  refine wl (st_al I_ok rfl fun b4 w2 hn4 hb4 hE2 => ?_)
  have ne1_4 : b1 ≠ b4 := Nat.ne_of_lt (Nat.lt_of_lt_of_le hb1.lt hn4)
  have fr4 := Nat.le_trans hX.size hn4
  have hb1 := hb1.extNo hE2
  have hX := hX.thenNo hE2
  have hb4o := hb4
  refine wl (st_stW (l' := objC (treeO []) noP) I_ok hb4 rfl rfl rfl rfl OneC.h fun w3 hb4 hE3 hs3 => ?_)
  have hb1 := hb1.ext1 hE3 ne1_4
  have hX := hX.thenNew hE3 fr4
  refine wl_nil (f_then (c_seq (c_seq (c_region (wl_p I_ok rfl (wl (st_ldb I_ok hb1 rfl rfl (wl_p I_ok rfl (wl_nil (f_then (c_block ?_)))))))))))
  refine c_loopK (α := Nat × (Option Addr × Nat) × (Option Addr × Nat)) [4, 14, 15] rfl (fun z => [(3, .slice z.2.1.1 (refT (rows.take z.1)).length z.2.1.2), (16, .int .i64 (z.1 : Int))]) (fun z u => (z.1 ≤ rows.length ∧ Own u z.2.1.1 (refT (rows.take z.1)).length z.2.1.2 68 105 (((refT (rows.take z.1)).map heldB).flatMap heldC) ∧ (∀ x, OwnB z.2.1.1 x → w.heap.size ≤ x) ∧ Own u z.2.2.1 ((leavesOf rows).take z.1).length z.2.2.2 76 33 (((leavesOf rows).take z.1).flatMap LeafD.cells) ∧ (∀ x, OwnB z.2.2.1 x → w.heap.size ≤ x)) ∧ Blk u b1 58 ([.slice p rows.length c]) ∧ Blk u b4 33 (objC (treeO ((leavesOf rows).take z.1)) (lfP z.2.2.1 z.2.2.2)) ∧ Ext No w u) (fun z u => rows.length - z.1) (0, (none, 0), (none, 0)) rfl ⟨⟨Nat.zero_le _, Own.nil _ _ _, noOwn, Own.nil _ _ _, noOwn⟩, hb1, hb4, hX⟩ ?_
  rintro ⟨i, ⟨q, k⟩, ⟨lp, lc⟩⟩ w4 ⟨⟨hi, hq, hqn, hlf, hlfn⟩, hb1, hb4, hX⟩
  try dsimp only
  dsimp only at hi hq hqn hlf hlfn
  refine c_seq (c_region (wl_p I_ok rfl (wl_nil (f_then (c_seq (c_if rfl (fun hc => ?_) (fun hc => ?_)))))))
  · have hi : i < rows.length := by omega
    obtain ⟨qb, qoff, hp, hsq⟩ := hs.rowAll (fun r _ => r.len) (by omega)
    rw [hp] at hb1 ⊢
    have hri := hr32.2 _ (List.getElem_mem hi)
    have htl : ((leavesOf rows).take i).length = i := by rw [List.length_take, hll]; omega
    have hacl : (refT (rows.take i)).length ≤ i := Nat.le_trans (refT_len _) (by rw [List.length_take]; omega)
    refine c_skip (f_then (c_seq (c_block (c_seq (c_region (wl (st_ix I_ok rfl 2 rfl i rfl (by omega) (qoff + i * 2) rfl (wl (st_ldN I_ok rfl ((hsq i hi).extNo hX) rfl (wl (st_al I_ok rfl fun b6 w5 hn6 hb6 hE5 => ?_)))))))))))
    have ne1_6 : b1 ≠ b6 := Nat.ne_of_lt (Nat.lt_of_lt_of_le hb1.lt hn6)
    have ne4_6 : b4 ≠ b6 := Nat.ne_of_lt (Nat.lt_of_lt_of_le hb4.lt hn6)
    have fr6 := Nat.le_trans hX.size hn6
    have hb1 := hb1.extNo hE5
    have hb4 := hb4.extNo hE5
    have hq := hq.ext hE5 fun _ _ => id
    have hlf := hlf.ext hE5 fun _ _ => id
    have hX := hX.thenNo hE5
    skip
    have hb6o := hb6
    refine wl (st_stW (l' := (rows[i]).cells) I_ok hb6 rfl rfl rfl rfl OneC.h fun w6 hb6 hE6 hs6 => ?_)
    have hb1 := hb1.ext1 hE6 ne1_6
    have hb4 := hb4.ext1 hE6 ne4_6
    have hq := hq.extTy hE6 hb6o (by decide)
    have hlf := hlf.extTy hE6 hb6o (by decide)
    have hX := hX.thenNew hE6 fr6
    refine wl_nil (f_then (c_seq (c_region (wl_p I_ok rfl (wl (st_ldb I_ok hb6 rfl rfl (wl (st_bd I_ok rfl ⟨⟨rfl, by decide⟩, ⟨rfl, by decide⟩, trivial⟩ (l' := objC (blobO (rows[i]).text) noP) (by rw [← objZ_c]; rfl) ?_))))))))
    refine wl (st_al I_ok rfl fun b7 w7 hn7 hb7 hE7 => ?_)
    have ne1_7 : b1 ≠ b7 := Nat.ne_of_lt (Nat.lt_of_lt_of_le hb1.lt hn7)
    have ne4_7 : b4 ≠ b7 := Nat.ne_of_lt (Nat.lt_of_lt_of_le hb4.lt hn7)
    have ne6_7 : b6 ≠ b7 := Nat.ne_of_lt (Nat.lt_of_lt_of_le hb6.lt hn7)
    have fr7 := Nat.le_trans hX.size hn7
    have hb1 := hb1.extNo hE7
    have hb4 := hb4.extNo hE7
    have hb6 := hb6.extNo hE7
    have hq := hq.ext hE7 fun _ _ => id
    have hlf := hlf.ext hE7 fun _ _ => id
    have hX := hX.thenNo hE7
    have hb7o := hb7
    refine wl (st_stW (l' := objC (blobO (rows[i]).text) noP) I_ok hb7 rfl rfl rfl rfl OneC.h fun w8 hb7 hE8 hs8 => ?_)
    have hb1 := hb1.ext1 hE8 ne1_7
    have hb4 := hb4.ext1 hE8 ne4_7
    have hb6 := hb6.ext1 hE8 ne6_7
    have hq := hq.extTy hE8 hb7o (by decide)
    have hlf := hlf.extTy hE8 hb7o (by decide)
    have hX := hX.thenNew hE8 fr7
    refine wl_nil (f_then (c_seq (c_region (wl (st_ldB I_ok hb7 rfl rfl (wl (st_call Tryd.call19 rfl rfl rfl rfl rfl rfl (id6_calls w8 (blobO_in _) (blob_l _ _) (blob_ok hri.2).1) fun v9 w9 hr9 => ?_)))))))
    obtain ⟨rfl, hE9⟩ := hr9
    have hb1 := hb1.extNo hE9
    have hb4 := hb4.extNo hE9
    have hb6 := hb6.extNo hE9
    have hb7 := hb7.extNo hE9
    have hq := hq.ext hE9 fun _ _ => id
    have hlf := hlf.ext hE9 fun _ _ => id
    have hX := hX.thenNo hE9
    refine wl (st_al I_ok rfl fun b8 w10 hn8 hb8 hE10 => ?_)
    have ne1_8 : b1 ≠ b8 := Nat.ne_of_lt (Nat.lt_of_lt_of_le hb1.lt hn8)
    have ne4_8 : b4 ≠ b8 := Nat.ne_of_lt (Nat.lt_of_lt_of_le hb4.lt hn8)
    have ne6_8 : b6 ≠ b8 := Nat.ne_of_lt (Nat.lt_of_lt_of_le hb6.lt hn8)
    have ne7_8 : b7 ≠ b8 := Nat.ne_of_lt (Nat.lt_of_lt_of_le hb7.lt hn8)
    have fr8 := Nat.le_trans hX.size hn8
    have hb1 := hb1.extNo hE10
    have hb4 := hb4.extNo hE10
    have hb6 := hb6.extNo hE10
    have hb7 := hb7.extNo hE10
    have hq := hq.ext hE10 fun _ _ => id
    have hlf := hlf.ext hE10 fun _ _ => id
    have hX := hX.thenNo hE10
    have hb8o := hb8
    refine wl (st_stW (l' := bytesU (idOf (blobO (rows[i]).text))) I_ok hb8 rfl rfl (by rw [bytesU_len, idOf_len]) (by rw [bytesU_len, idOf_len]; rfl) OneC.h fun w11 hb8 hE11 hs11 => ?_)
    have hb1 := hb1.ext1 hE11 ne1_8
    have hb4 := hb4.ext1 hE11 ne4_8
    have hb6 := hb6.ext1 hE11 ne6_8
    have hb7 := hb7.ext1 hE11 ne7_8
    have hq := hq.extTy hE11 hb8o (by decide)
    have hlf := hlf.extTy hE11 hb8o (by decide)
    have hX := hX.thenNew hE11 fr8
    refine wl_nil (f_then (c_seq (c_region (wl_p I_ok rfl (wl_nil (f_then (c_seq (c_seq (c_region (wl_p I_ok rfl (wl_nil (f_then (c_block ?_)))))))))))))
    refine c_loopK (α := Nat) [3, 4, 6, 7, 8, 14, 15, 16, 25, 26] rfl (fun z => [(9, .bool (decide ((rows[i]).text ∈ (refT (rows.take i)).take z))), (27, .int .i64 (z : Int))]) (fun z u => (z ≤ (refT (rows.take i)).length ∧ Own u q (refT (rows.take i)).length k 68 105 (((refT (rows.take i)).map heldB).flatMap heldC) ∧ Own u lp ((leavesOf rows).take i).length lc 76 33 (((leavesOf rows).take i).flatMap LeafD.cells)) ∧ Blk u b1 58 ([.slice (some ⟨qb, qoff, none⟩) rows.length c]) ∧ Blk u b4 33 (objC (treeO ((leavesOf rows).take i)) (lfP lp lc)) ∧ Blk u b6 78 ((rows[i]).cells) ∧ Blk u b7 33 (objC (blobO (rows[i]).text) noP) ∧ Blk u b8 26 (bytesU (idOf (blobO (rows[i]).text))) ∧ Ext No w u) (fun z u => (refT (rows.take i)).length - z) (0) rfl ⟨⟨Nat.zero_le _, hq, hlf⟩, hb1, hb4, hb6, hb7, hb8, hX⟩ ?_
    rintro j w12 ⟨⟨hj, hq, hlf⟩, hb1, hb4, hb6, hb7, hb8, hX⟩
    refine c_seq (c_region (wl_p I_ok rfl (wl_nil (f_then (c_seq (c_if rfl (fun hc => ?_) (fun hc => ?_)))))))
    · have hj : j < (refT (rows.take i)).length := by omega
      have hjm : j < ((refT (rows.take i)).map heldB).length := by rw [List.length_map]; exact hj
      have hqs : Sl w12 q ((refT (rows.take i)).map heldB).length 105 (((refT (rows.take i)).map heldB).flatMap heldC) := by rw [List.length_map]; exact hq.sl
      obtain ⟨hb, hoff, hqe, hsh⟩ := hqs.rowAll heldBs (by omega)
      have hrow := hsh j hjm
      rw [List.getElem_map] at hrow
      rw [hqe] at hq ⊢
      have hq0 := hq
      refine c_skip (f_then ?_)
      refine c_cutK (α := Bool) [3, 4, 6, 7, 8, 14, 15, 16, 25, 26, 27] rfl (fun z => [(9, .bool z)]) (fun z u => (z = decide ((rows[i]).text ∈ (refT (rows.take i)).take (j + 1)) ∧ Own u (some ⟨hb, hoff, none⟩) (refT (rows.take i)).length k 68 105 (((refT (rows.take i)).map heldB).flatMap heldC) ∧ Own u lp ((leavesOf rows).take i).length lc 76 33 (((leavesOf rows).take i).flatMap LeafD.cells)) ∧ Blk u b1 58 ([.slice (some ⟨qb, qoff, none⟩) rows.length c]) ∧ Blk u b4 33 (objC (treeO ((leavesOf rows).take i)) (lfP lp lc)) ∧ Blk u b6 78 ((rows[i]).cells) ∧ Blk u b7 33 (objC (blobO (rows[i]).text) noP) ∧ Blk u b8 26 (bytesU (idOf (blobO (rows[i]).text))) ∧ Ext No w u) ?_ ?_
      · refine c_block ?_
        refine c_seq (c_region (wl (st_ix I_ok rfl 105 rfl j rfl hj (hoff + j * 105) rfl (wl (st_ldN I_ok rfl hrow (heldB_in _) (wl (st_al I_ok rfl fun b11 w13 hn11 hb11 hE13 => ?_)))))))
        have ne1_11 : b1 ≠ b11 := Nat.ne_of_lt (Nat.lt_of_lt_of_le hb1.lt hn11)
        have ne4_11 : b4 ≠ b11 := Nat.ne_of_lt (Nat.lt_of_lt_of_le hb4.lt hn11)
        have ne6_11 : b6 ≠ b11 := Nat.ne_of_lt (Nat.lt_of_lt_of_le hb6.lt hn11)
        have ne7_11 : b7 ≠ b11 := Nat.ne_of_lt (Nat.lt_of_lt_of_le hb7.lt hn11)
        have ne8_11 : b8 ≠ b11 := Nat.ne_of_lt (Nat.lt_of_lt_of_le hb8.lt hn11)
        have fr11 := Nat.le_trans hX.size hn11
        have hb1 := hb1.extNo hE13
        have hb4 := hb4.extNo hE13
        have hb6 := hb6.extNo hE13
        have hb7 := hb7.extNo hE13
        have hb8 := hb8.extNo hE13
        have hq := hq.ext hE13 fun _ _ => id
        have hlf := hlf.ext hE13 fun _ _ => id
        have hX := hX.thenNo hE13
        have ne11 : ∀ x, OwnB _ x → x ≠ b11 := fun x hx => Nat.ne_of_lt (Nat.lt_of_lt_of_le (hq0.lt hx) hn11)
        have hb11o := hb11
        refine wl (st_stW (l' := heldC (heldB ((refT (rows.take i))[j]))) I_ok hb11 rfl rfl (heldB_in _) (by rw [heldB_in]; rfl) OneC.h fun w14 hb11 hE14 hs14 => ?_)
        have hb1 := hb1.ext1 hE14 ne1_11
        have hb4 := hb4.ext1 hE14 ne4_11
        have hb6 := hb6.ext1 hE14 ne6_11
        have hb7 := hb7.ext1 hE14 ne7_11
        have hb8 := hb8.ext1 hE14 ne8_11
        have hq := hq.ext hE14 (fun x hx => ne11 x hx)
        have hlf := hlf.extTy hE14 hb11o (by decide)
        have hX := hX.thenNew hE14 fr11
        refine wl_nil (f_then (c_region (wl_p I_ok rfl (wl_caseD 32 rfl (fun hg => ?_) (fun hg => ?_)))))
        · refine wl_pk I_ok 12 rfl ?_
          refine wl_nil ?_
          exact f_blockN (f_cut (true) rfl ⟨⟨(decide_eq_true ((mem_step hj).2 (.inl hg))).symm, hq, hlf⟩, hb1, hb4, hb6, hb7, hb8, hX⟩)
        · have hg1 := hg
          refine wl_pk I_ok 1 rfl (wl (st_ldN I_ok rfl (held_id hb11.seg) (by rw [bytesU_len]; exact idOf_len _) (wl (st_ldB I_ok hb8 rfl (by rw [bytesU_len, idOf_len]) ?_))))
          refine wl (st_eqK rfl gId 10 (by decide) kId (idForm (idOf_len _)) (idForm (idOf_len _)) (idKey (idOf_len _)) (idKey (idOf_len _)) idLits_inj ?_)
          simp only []
          refine wl_pk I_ok 1 rfl (wl_caseD 37 rfl (fun hg => ?_) (fun hg => ?_))
          · refine wl_pk I_ok 1 rfl ?_
            refine wl (st_ldN I_ok rfl (held_obj hb11.seg (idOf_len _)) (objC_len (blobO_in _)) (wl (st_ldB I_ok hb7 rfl rfl ?_)))
            refine wl (st_call Tryd.call15 rfl rfl rfl rfl rfl rfl (same6_calls w14 (blobO_in _) (blobO_in _) (blob_l _ _) (blob_l _ _) (blob_sh _)) fun v15 w15 hr15 => ?_)
            obtain ⟨rfl, hE15⟩ := hr15
            have hb1 := hb1.extNo hE15
            have hb4 := hb4.extNo hE15
            have hb6 := hb6.extNo hE15
            have hb7 := hb7.extNo hE15
            have hb8 := hb8.extNo hE15
            have hb11 := hb11.extNo hE15
            have hq := hq.ext hE15 fun _ _ => id
            have hlf := hlf.ext hE15 fun _ _ => id
            have hX := hX.thenNo hE15
            refine wl_pk I_ok 3 rfl (wl_nil ?_)
            exact f_blockN (f_cut (_) rfl ⟨⟨by rw [decide_eq_decide, mem_step hj]; exact ⟨fun h => .inr (congrArg ObjD.text h), fun h => h.elim (fun h => absurd h hg1) fun h => congrArg blobO h⟩, hq, hlf⟩, hb1, hb4, hb6, hb7, hb8, hX⟩)
          · refine wl_pk I_ok 7 rfl ?_
            refine wl_nil ?_
            exact f_blockN (f_cut (false) rfl ⟨⟨(decide_eq_false (fun h => ((mem_step hj).1 h).elim (fun h => hg1 h) fun h => hg (by rw [h]; rfl))).symm, hq, hlf⟩, hb1, hb4, hb6, hb7, hb8, hX⟩)
      rintro z w16 ⟨⟨rfl, hq, hlf⟩, hb1, hb4, hb6, hb7, hb8, hX⟩
      refine c_region (wl_p I_ok rfl ?_)
      rw [IntWalk.i64_in _ (by omega)]
      refine wl_nil ?_
      exact f_round (j + 1) rfl ⟨⟨hj, hq, hlf⟩, hb1, hb4, hb6, hb7, hb8, hX⟩ (by first | omega | (dsimp only; omega))
    · have hja : (refT (rows.take i)).take j = (refT (rows.take i)) := List.take_of_length_le (by omega)
      rw [hja]
      refine c_exit (f_thenE (f_thenE (f_blockE (f_then ?_))))
      refine c_cutK (α := Option Addr × Nat) [4, 6, 8, 14, 15, 16] rfl (fun z => [(3, .slice z.1 (refT (rows.take (i + 1))).length z.2)]) (fun z u => (Own u z.1 (refT (rows.take (i + 1))).length z.2 68 105 (((refT (rows.take (i + 1))).map heldB).flatMap heldC) ∧ (∀ x, OwnB z.1 x → w.heap.size ≤ x) ∧ Own u lp ((leavesOf rows).take i).length lc 76 33 (((leavesOf rows).take i).flatMap LeafD.cells)) ∧ Blk u b1 58 ([.slice (some ⟨qb, qoff, none⟩) rows.length c]) ∧ Blk u b4 33 (objC (treeO ((leavesOf rows).take i)) (lfP lp lc)) ∧ Blk u b6 78 ((rows[i]).cells) ∧ Blk u b8 26 (bytesU (idOf (blobO (rows[i]).text))) ∧ Ext No w u) ?_ ?_
      · refine c_seq ?_
        refine c_region (wl_p I_ok rfl (wl_nil (f_then (c_cond rfl (fun hc => ?_) (fun hc => ?_)))))
        · have hnm : ¬ (rows[i]).text ∈ (refT (rows.take i)) := by simpa using hc
          have eA : (refT (rows.take (i + 1))) = (refT (rows.take i)) ++ [(rows[i]).text] := by rw [refT_take hi, addT, if_neg hnm]
          refine c_region (wl_p I_ok rfl (wl (st_ldB I_ok hb8 rfl (by rw [bytesU_len, idOf_len]) (wl (st_ldB I_ok hb7 rfl rfl ?_)))))
          refine wl (st_bd I_ok rfl ⟨⟨by rw [cellsOf_agg, bytesU_len, idOf_len _], by decide⟩, ⟨by rw [cellsOf_agg]; exact objC_len (blobO_in _), by decide⟩, trivial⟩ (l' := heldC ⟨idOf (blobO (rows[i]).text), blobO (rows[i]).text, noP⟩) (by rw [heldZ_c]; exact held_build (idOf_len _) (blobO_in _)) ?_)
          refine wl (st_bs I_ok rfl 105 rfl heldZ_c (by rw [List.length_append, bytesU_len, objC_len objZ_in]; rfl) (by decide) (by decide) ⟨⟨by rw [cellsOf_agg]; exact heldB_in _, by decide⟩, trivial⟩ (l' := heldC (heldB (rows[i]).text)) (one_held (heldB_in _)) fun b51 w17 hn51 hb51 hE17 hs17 => ?_)
          have ne1_51 : b1 ≠ b51 := Nat.ne_of_lt (Nat.lt_of_lt_of_le hb1.lt hn51)
          have ne4_51 : b4 ≠ b51 := Nat.ne_of_lt (Nat.lt_of_lt_of_le hb4.lt hn51)
          have ne6_51 : b6 ≠ b51 := Nat.ne_of_lt (Nat.lt_of_lt_of_le hb6.lt hn51)
          have ne7_51 : b7 ≠ b51 := Nat.ne_of_lt (Nat.lt_of_lt_of_le hb7.lt hn51)
          have ne8_51 : b8 ≠ b51 := Nat.ne_of_lt (Nat.lt_of_lt_of_le hb8.lt hn51)
          have fr51 := Nat.le_trans hX.size hn51
          have hb1 := hb1.extNo hE17
          have hb4 := hb4.extNo hE17
          have hb6 := hb6.extNo hE17
          have hb7 := hb7.extNo hE17
          have hb8 := hb8.extNo hE17
          have hq := hq.ext hE17 fun _ _ => id
          have hlf := hlf.ext hE17 fun _ _ => id
          have hX := hX.thenNo hE17
          have hX1 := hX
          refine wl (st_app I_ok rfl 105 224 rfl rfl rfl (by decide) hq (Src.slice (m := 1) ⟨heldB_in _, .inr ⟨b51, 0, rfl, hb51.seg⟩⟩ OneC.h) (by dsimp only [maxLen]; omega) (by dsimp only; omega) fun p18 c18 w18 ho18 hE18 hB18 => ?_)
          dsimp only at ho18 hE18 hB18 ⊢
          have hX := hX1.trans hE18 fun y hy hF => by have := hqn y hF; omega
          have hb1 := hb1.extOwn hq hE18 (by decide)
          have hb4 := hb4.extOwn hq hE18 (by decide)
          have hb6 := hb6.extOwn hq hE18 (by decide)
          have hb7 := hb7.extOwn hq hE18 (by decide)
          have hb8 := hb8.extOwn hq hE18 (by decide)
          have hlf := hlf.ext hE18 (fun x hx hx2 => by obtain ⟨L1, h1⟩ := hlf.blkAt hx; obtain ⟨L2, h2⟩ := hq.blkAt hx2; exact absurd (h1.uniq h2).2 (by decide))
          have hsz1 := hX1.size
          obtain ⟨q2, k2, e1, e2, hq2⟩ : ∃ q2 k2, q2 = p18 ∧ k2 = c18 ∧ Own w18 q2 (refT (rows.take (i + 1))).length k2 68 105 (((refT (rows.take (i + 1))).map heldB).flatMap heldC) := ⟨_, _, rfl, rfl, by
            rw [eA, List.map_append, List.flatMap_append, List.length_append]
            simpa using ho18⟩
          rw [← e1] at hB18
          rw [← e1, ← e2, show (refT (rows.take i)).length + 1 = (refT (rows.take (i + 1))).length from by rw [eA, List.length_append]; rfl]
          have hqn2 : (∀ x, OwnB q2 x → w.heap.size ≤ x) := fun x hx => (hB18 x hx).elim (fun h => hqn x h) fun h => by omega
          refine wl_p I_ok rfl (wl_nil ?_)
          exact f_cut (q2, k2) rfl ⟨⟨hq2, hqn2, hlf⟩, hb1, hb4, hb6, hb8, hX⟩
        · have hnm : (rows[i]).text ∈ (refT (rows.take i)) := by simpa using hc
          have eA : (refT (rows.take (i + 1))) = (refT (rows.take i)) := by rw [refT_take hi, addT, if_pos hnm]
          rw [← eA] at hq ⊢
          refine c_skip ?_
          exact f_cut (q, k) rfl ⟨⟨hq, hqn, hlf⟩, hb1, hb4, hb6, hb8, hX⟩
      rintro ⟨q2, k2⟩ w19 ⟨⟨hq, hqn2, hlf⟩, hb1, hb4, hb6, hb8, hX⟩
      try dsimp only
      dsimp only at hq hqn2 hlf
      refine c_region (wl_p I_ok rfl (wl (st_ldb I_ok hb4 rfl rfl (wl_p I_ok rfl (wl (st_ldb I_ok hb6 rfl rfl (wl (st_ldB I_ok hb8 rfl (by rw [bytesU_len, idOf_len]) ?_))))))))
      refine wl (st_bd I_ok rfl ⟨⟨rfl, by decide⟩, ⟨by rw [cellsOf_agg, bytesU_len, idOf_len], by decide⟩, trivial⟩ (l' := (leafOf rows[i]).cells) (by rw [leafZ_c]; exact leaf_build (idOf_len _)) ?_)
      refine wl (st_bs I_ok rfl 33 rfl leafZ_c (LeafD.len rfl) (by decide) (by decide) ⟨⟨by rw [cellsOf_agg]; exact (LeafD.len (idOf_len _)), by decide⟩, trivial⟩ (l' := (leafOf rows[i]).cells) (one_leaf (idOf_len _)) fun b59 w20 hn59 hb59 hE20 hs20 => ?_)
      have ne1_59 : b1 ≠ b59 := Nat.ne_of_lt (Nat.lt_of_lt_of_le hb1.lt hn59)
      have ne4_59 : b4 ≠ b59 := Nat.ne_of_lt (Nat.lt_of_lt_of_le hb4.lt hn59)
      have ne6_59 : b6 ≠ b59 := Nat.ne_of_lt (Nat.lt_of_lt_of_le hb6.lt hn59)
      have ne8_59 : b8 ≠ b59 := Nat.ne_of_lt (Nat.lt_of_lt_of_le hb8.lt hn59)
      have fr59 := Nat.le_trans hX.size hn59
      have hb1 := hb1.extNo hE20
      have hb4 := hb4.extNo hE20
      have hb6 := hb6.extNo hE20
      have hb8 := hb8.extNo hE20
      have hq := hq.ext hE20 fun _ _ => id
      have hlf := hlf.ext hE20 fun _ _ => id
      have hX := hX.thenNo hE20
      have hX1 := hX
      refine wl (st_app I_ok rfl 33 48 rfl rfl rfl (by decide) hlf (Src.slice (m := 1) ⟨LeafD.len (idOf_len _), .inr ⟨b59, 0, rfl, hb59.seg⟩⟩ OneC.h) (by dsimp only [maxLen]; omega) (by dsimp only; omega) fun p21 c21 w21 ho21 hE21 hB21 => ?_)
      dsimp only at ho21 hE21 hB21 ⊢
      have hX := hX1.trans hE21 fun y hy hF => by have := hlfn y hF; omega
      have hb1 := hb1.extOwn hlf hE21 (by decide)
      have hb4 := hb4.extOwn hlf hE21 (by decide)
      have hb6 := hb6.extOwn hlf hE21 (by decide)
      have hb8 := hb8.extOwn hlf hE21 (by decide)
      have hq := hq.ext hE21 (fun x hx hx2 => by obtain ⟨L1, h1⟩ := hq.blkAt hx; obtain ⟨L2, h2⟩ := hlf.blkAt hx2; exact absurd (h1.uniq h2).2 (by decide))
      have e3 : ((leavesOf rows).take (i + 1)).length = ((leavesOf rows).take i).length + 1 := by rw [leavesOf_take hi, List.length_append]; rfl
      have hsz1 := hX1.size
      obtain ⟨lp2, lc2, e1, e2, hlf2⟩ : ∃ lp2 lc2, lp2 = p21 ∧ lc2 = c21 ∧ Own w21 lp2 ((leavesOf rows).take (i + 1)).length lc2 76 33 (((leavesOf rows).take (i + 1)).flatMap LeafD.cells) := ⟨_, _, rfl, rfl, by
        rw [e3, leavesOf_take hi, List.flatMap_append]
        simpa using ho21⟩
      rw [← e1] at hB21
      rw [← e1, ← e2]
      have hlfn2 : ∀ x, OwnB lp2 x → w.heap.size ≤ x := fun x hx => (hB21 x hx).elim (fun h => hlfn x h) fun h => by omega
      refine wl_p I_ok rfl ?_
      have hb4o := hb4
      refine wl (st_st I_ok hb4 rfl rfl rfl fun w22 hb4 hE22 hs22 => ?_)
      have hb1 := hb1.ext1 hE22 ne1_4
      have hb6 := hb6.ext1 hE22 ne4_6.symm
      have hb8 := hb8.ext1 hE22 ne4_8.symm
      have hq := hq.extTy hE22 hb4o (by decide)
      have hlf2 := hlf2.extTy hE22 hb4o (by decide)
      have hX := hX.thenNew hE22 fr4
      have hb4 : Blk w22 b4 33 (objC (treeO ((leavesOf rows).take (i + 1))) (lfP lp2 lc2)) := (by
        have e : objC (treeO ((leavesOf rows).take (i + 1))) (lfP lp2 lc2) = (objC (treeO ((leavesOf rows).take i)) (lfP lp lc)).set 2 (.slice lp2 (((leavesOf rows).take i).length + 1) lc2) := by simp only [objC, e3]; rfl
        rw [e]
        exact hb4)
      refine wl_nil (f_blockN (f_then (c_region (wl_p I_ok rfl ?_))))
      rw [IntWalk.i64_in _ (by omega)]
      refine wl_nil ?_
      exact f_round (i + 1, (q2, k2), (lp2, lc2)) rfl ⟨⟨hi, hq, hqn2, hlf2, hlfn2⟩, hb1, hb4, hX⟩ (by first | omega | (dsimp only; omega))
  · have h0 : i = rows.length := by omega
    subst h0
    have et : (leavesOf rows).take rows.length = leavesOf rows := List.take_of_length_le (by rw [hll]; exact Nat.le_refl _)
    rw [List.take_length] at hq
    rw [et] at hlf hb4
    rw [List.take_length]
    have hacl : (refT rows).length ≤ rows.length := refT_len _
    have hlin := leavesOf_in (l := rows) fun r hr => by have := (hr32.2 r hr).1; have := maxLen_big; omega
    have hsh : Short (treeOf rows) := tree_sh (by omega) (fun r hr => by obtain ⟨y, hy, rfl⟩ := List.mem_map.1 hr; have := (hr32.2 y hy).1; show y.path.length < _; omega)
    have htl : ObjL w4 (treeOf rows) (lfP lp lc) := ⟨hlf.sl, Sl.nil _ _ _, Sl.nil _ _ _⟩
    refine c_exit (f_thenE (f_thenE (f_blockE (f_then (c_seq (c_seq (c_region (wl (st_ldB I_ok hb4 rfl (objC_len (treeO_in hlin)) ?_)))))))))
    refine wl (st_call Tryd.call16 rfl rfl rfl rfl rfl rfl (right6_calls w4 (treeO_in hlin) htl hsh) fun v23 w23 hr23 => ?_)
    obtain ⟨rfl, hE23⟩ := hr23
    have hb1 := hb1.extNo hE23
    have hb4 := hb4.extNo hE23
    have hq := hq.ext hE23 fun _ _ => id
    have hlf := hlf.ext hE23 fun _ _ => id
    have hX := hX.thenNo hE23
    have htl := htl.extNo hE23
    refine wl_p I_ok rfl (wl_nil (f_then (c_cond rfl (fun hc => ?_) (fun hc => ?_))))
    · have hok : ¬ ObjOk (treeOf rows) := by simpa using hc
      refine c_seq (c_region (wl_p I_ok rfl (wl_nil (f_then (c_ret (f_thenR (f_ret1 rfl rfl ?_)))))))
      exact ⟨none, 0, lp, lc, fun h => absurd h hok, fun _ => rfl, noOwn, hlf, hlfn, hX⟩
    · have hok : ObjOk (treeOf rows) := by simpa using hc
      have hn4q : ¬ OwnB q b4 := fun h => hq.neTy h hb4 (by decide) rfl
      refine c_skip (f_then (c_seq (c_draw rfl 8 [(0, true), (1, true), (3, true), (2, false), (4, true), (5, false), (6, false), (7, true)] [] (OwnB q) (by kernel_rfl) fun w24 hE24 hs24 => ?_)))
      have hd1 := hb1
      have hd4 := hb4
      have hqd := hq
      have hlfd := hlf
      have hXd := hX
      have hb1 := hb1.extNo hE24
      have hb4 := hb4.extNo hE24
      have hq := hq.ext hE24 fun _ _ => id
      have hlf := hlf.ext hE24 fun _ _ => id
      have hX := hX.thenNo hE24
      have hC : Ext (OwnB q) _ w24 := hE24.no
      have htl := htl.extNo hE24
      refine wd_k I_ok 1 rfl (wd_ldN I_ok rfl rfl (fun w' hw' => ((hd4.ext hw' hn4q).seg)) (objC_len (treeO_in hlin)) ?_)
      refine wd_ldN I_ok rfl rfl (fun w' hw' => ((hd4.ext hw' hn4q).seg)) (objC_len (treeO_in hlin)) ?_
      refine wd_l rfl (st_call Tryd.call19 rfl rfl rfl rfl rfl rfl (id6_calls w24 (treeO_in hlin) htl hok.1) fun v25 w25 hr25 => ⟨(by obtain ⟨rfl, hE25⟩ := hr25; exact hC.thenNo hE25), ?_⟩)
      obtain ⟨rfl, hE25⟩ := hr25
      have hb1 := hb1.extNo hE25
      have hb4 := hb4.extNo hE25
      have hq := hq.ext hE25 fun _ _ => id
      have hlf := hlf.ext hE25 fun _ _ => id
      have hX := hX.thenNo hE25
      have hC := hC.thenNo hE25
      refine wd_bd I_ok rfl rfl ⟨⟨by rw [cellsOf_agg, bytesU_len, idOf_len _], by decide⟩, ⟨by rw [cellsOf_agg]; exact objC_len (treeO_in hlin), by decide⟩, trivial⟩ (l' := heldC ⟨idOf (treeOf rows), treeOf rows, lfP lp lc⟩) (by rw [heldZ_c]; exact held_build (idOf_len _) (treeO_in hlin)) ?_
      refine wd_l rfl (st_bs I_ok rfl 105 rfl heldZ_c (by rw [List.length_append, bytesU_len, objC_len objZ_in]; rfl) (by decide) (by decide) ⟨⟨by rw [cellsOf_agg]; exact (heldC_len (idOf_len _) (treeO_in hlin)), by decide⟩, trivial⟩ (l' := heldC ⟨idOf (treeOf rows), treeOf rows, lfP lp lc⟩) (one_held (heldC_len (idOf_len _) (treeO_in hlin))) fun b71 w26 hn71 hb71 hE26 hs26 => ⟨hC.thenNo hE26, ?_⟩)
      have ne1_71 : b1 ≠ b71 := Nat.ne_of_lt (Nat.lt_of_lt_of_le hb1.lt hn71)
      have ne4_71 : b4 ≠ b71 := Nat.ne_of_lt (Nat.lt_of_lt_of_le hb4.lt hn71)
      have fr71 := Nat.le_trans hX.size hn71
      have hb1 := hb1.extNo hE26
      have hb4 := hb4.extNo hE26
      have hq := hq.ext hE26 fun _ _ => id
      have hlf := hlf.ext hE26 fun _ _ => id
      have hX := hX.thenNo hE26
      have hC := hC.thenNo hE26
      have hX1 := hX
      refine wd_l rfl (st_app I_ok rfl 105 224 rfl rfl rfl (by decide) hq (Src.slice (m := 1) ⟨heldC_len (idOf_len _) (treeO_in hlin), .inr ⟨b71, 0, rfl, hb71.seg⟩⟩ OneC.h) (by dsimp only [maxLen]; omega) (by dsimp only; omega) fun p27 c27 w27 ho27 hE27 hB27 => ⟨hC.then hE27, ?_⟩)
      have hC := hC.then hE27
      dsimp only at ho27 hE27 hB27 ⊢
      have hX := hX1.trans hE27 fun y hy hF => by have := hqn y hF; omega
      have hlf := hlf.ext hE27 (fun x hx hx2 => by obtain ⟨L1, h1⟩ := hlf.blkAt hx; obtain ⟨L2, h2⟩ := hq.blkAt hx2; exact absurd (h1.uniq h2).2 (by decide))
      have hsz1 := hX1.size
      refine wd_k I_ok 1 rfl (wd_sw (wb_nil (f_then (c_ret (f_ret1 rfl rfl ?_)))))
      refine ⟨_, _, lp, lc, fun _ => ⟨by rw [show (refP rows (lfP lp lc)).length = (refT rows).length + 1 from by simp [refP]], ?_⟩, fun h => absurd hok h, fun x hx => (hB27 x hx).elim (fun h => hqn x h) fun h => by omega, hlf, hlfn, hX⟩
      rw [refP, List.flatMap_append, List.length_append, List.length_map]
      simpa using ho27
end Go.Proofs.YtjghckniloikgaaDoor
