/-
  UploadPutsSaid , walked
-/
import Derived.Test.YtpcdihkcenfgkaaGreatRows
import Derived.ProofKit
import Derived.Test.YtpcdihkcenfgkaaGreatLpG
namespace Go.Proofs.YtpcdihkcenfgkaaGreat
open Go.Vc
def cutLeaf8 (r : LeafD) : LeafD := ⟨r.path.take 60, r.id⟩
def cutChg8 (r : ChgD) : ChgD := ⟨r.path.take 60, r.is, r.text.take 257⟩
def cutL8 (o : ObjD) : ObjD := { cutN o with leaves := o.leaves.take 33 }
def cutP8 (o : ObjD) : ObjD := { cutL8 o with parents := o.parents.take 4 }
def cutO8 (o : ObjD) : ObjD := { cutP8 o with rows := o.rows.take 8 }
/-- an object cut short -/
def objO8 (o : ObjD) : ObjD := { cutO8 o with leaves := (o.leaves.take 33).map cutLeaf8, rows := (o.rows.take 8).map cutChg8 }
theorem cutL8_in {o : ObjD} (h : ObjIn o) : ObjIn (cutL8 o) := ⟨h.tree, h.base, h.parents, fun r hr => h.leaves r (List.mem_of_mem_take hr), h.rows, h.number, h.author⟩
theorem cutP8_in {o : ObjD} (h : ObjIn o) : ObjIn (cutP8 o) := ⟨h.tree, h.base, fun r hr => h.parents r (List.mem_of_mem_take hr), fun r hr => h.leaves r (List.mem_of_mem_take hr), h.rows, h.number, h.author⟩
theorem cutO8_in {o : ObjD} (h : ObjIn o) : ObjIn (cutO8 o) := ⟨h.tree, h.base, fun r hr => h.parents r (List.mem_of_mem_take hr), fun r hr => h.leaves r (List.mem_of_mem_take hr), fun r hr => h.rows r (List.mem_of_mem_take hr), h.number, h.author⟩
/-- its lists reach as far as they are long -/
structure ObjCap (x : ObjD) (a : ObjP) : Prop where
  leaves : x.leaves.length ≤ a.lc
  parents : x.parents.length ≤ a.pc
  rows : x.rows.length ≤ a.rc
theorem objC_cutN {x : ObjD} {a : ObjP} (h : ObjIn x) : (objC (cutT x) a).set (68 + 4) (strV (x.note.take 201)) = objC (cutN x) a := objC_set (cutT_in h) 4 _
theorem objC_cutP8 {x : ObjD} {a : ObjP} (h : ObjIn x) : (objC (cutL8 x) a).set (68 + 0) (.slice a.pp (x.parents.take 4).length a.pc) = objC (cutP8 x) a := objC_set (cutL8_in h) 0 _
theorem objC_cutO8 {x : ObjD} {a : ObjP} (h : ObjIn x) : (objC (cutP8 x) a).set (68 + 1) (.slice a.rp (x.rows.take 8).length a.rc) = objC (cutO8 x) a := objC_set (cutP8_in h) 1 _
theorem objC_objO8 (x : ObjD) (a : ObjP) : objC (objO8 x) a = objC (cutO8 x) a := by
  simp only [objC, objO8, cutO8, List.length_map]; rfl
theorem cutO8_l {w : World} {x : ObjD} {a : ObjP} (h : ObjL w x a) (hx : ObjIn x) : ObjL w (cutO8 x) a :=
  ⟨h.leaves.cut (fun r hr => LeafD.len (hx.leaves r hr).2) 33, h.parents.cut (fun r hr => (by rw [bytesU_len]; exact hx.parents r hr)) 4, h.rows.cut (fun r _ => r.len) 8⟩
theorem cutO8_leaves (x : ObjD) : (cutO8 x).leaves.length < 1000000000 := Nat.lt_of_le_of_lt (by show (x.leaves.take 33).length ≤ 33; rw [List.length_take]; omega) (by decide : 33 < 1000000000)
theorem cutO8_parents (x : ObjD) : (cutO8 x).parents.length < 1000000000 := Nat.lt_of_le_of_lt (by show (x.parents.take 4).length ≤ 8; rw [List.length_take]; omega) (by decide : 8 < 1000000000)
theorem cutO8_rows (x : ObjD) : (cutO8 x).rows.length < 1000000000 := Nat.lt_of_le_of_lt (by show (x.rows.take 8).length ≤ 8; rw [List.length_take]; omega) (by decide : 8 < 1000000000)
theorem leaf_cut8 {L : List LeafD} (hL : ∀ r ∈ L, r.id.length = 32) {i : Nat} (hi : i < L.length) :
    ((upto cutLeaf8 i L).flatMap LeafD.cells).set (i * 33 + 0) (strV ((L[i]).path.take 60)) = (upto cutLeaf8 (i + 1) L).flatMap LeafD.cells := by
  have h1 : i < (upto cutLeaf8 i L).length := by rw [upto_len]; exact hi
  have h2 : ∀ r ∈ upto cutLeaf8 i L, (LeafD.cells r).length = 33 := upto_mem (fun r hr => LeafD.len (hL r hr)) (fun r h => h)
  rw [flat_set h2 h1 (by decide) (y := cutLeaf8 L[i]) (by rw [upto_get hi]; rfl), upto_step hi]
theorem chg_cut8 {L : List ChgD} {i : Nat} (hi : i < L.length) :
    (((upto cutChg8 i L).flatMap ChgD.cells).set (i * 3 + 0) (strV ((L[i]).path.take 60))).set (i * 3 + 2) (strV ((L[i]).text.take 257)) = (upto cutChg8 (i + 1) L).flatMap ChgD.cells := by
  have h1 : i < (upto cutChg8 i L).length := by rw [upto_len]; exact hi
  rw [flat_set (fun r _ => r.len) h1 (by decide) (y := ⟨(L[i]).path.take 60, (L[i]).is, (L[i]).text⟩) (by rw [upto_get hi]; rfl),
    flat_set (fun r _ => r.len) (by rw [List.length_set]; exact h1) (by decide) (y := cutChg8 L[i]) (by rw [List.getElem_set_self]; rfl), List.set_set, upto_step hi]
theorem Own.row {α : Type} {w : World} {p : Option Addr} {c T sz : Nat} {g : α → α} {f : α → List Value} {i : Nat} {l : List α} (h : Own w p l.length c T sz ((upto g i l).flatMap f)) (hn : ∀ x ∈ upto g i l, (f x).length = sz) {b : Nat} (hp : p = some ⟨b, 0, none⟩) (hi : i < l.length) : Seg w b (i * sz) (f l[i]) := by
  have h1 := h.sl
  have h2 : Sl w p (upto g i l).length sz ((upto g i l).flatMap f) := by rw [upto_len]; exact h1
  have h3 : i < (upto g i l).length := by rw [upto_len]; exact hi
  obtain ⟨b', off, e, hs⟩ := h2.rowAll hn (by omega)
  rw [hp] at e
  cases e
  have := hs i h3
  rw [upto_get hi, Nat.zero_add] at this
  exact this
theorem short_calls (w : World) {x : ObjD} {a : ObjP} (hx : ObjIn x) (hxl : ObjL w x a) (hcap : ObjCap x a) :
    CallsV Tryz.prog 23 [.agg (objC x a).toArray] w fun v w' => ∃ a', v = .agg (objC (objO8 x) a').toArray ∧ ObjNew w w' (objO8 x) a' ∧ Ext No w w' := by
  refine calls_enter Tryz.func23 rfl rfl rfl rfl ?_
  have hX := Ext.refl No w
  refine c_seq (c_region (wl (st_al I_ok rfl fun b1 w1 hn1 hb1 hE1 => ?_)))
  have fr1 := Nat.le_trans hX.size hn1
  have hX := hX.thenNo hE1
  have hb1 : Blk w1 b1 48 (objC x a) := hb1
  refine wl (st_al I_ok rfl fun b2 w2 hn2 hb2 hE2 => ?_)
  have ne1_2 : b1 ≠ b2 := Nat.ne_of_lt (Nat.lt_of_lt_of_le hb1.lt hn2)
  have fr2 := Nat.le_trans hX.size hn2
  have hb1 := hb1.extNo hE2
  have hX := hX.thenNo hE2
  refine wl_nil (f_then (c_seq ?_))
  refine c_drawL I_ok rfl [] 15 [11, 12, 13] [(0, true), (1, true), (2, true), (3, true), (4, true), (5, true), (6, true), (7, true), (8, true), (9, true), (10, true), (14, true)] [29, 30, 31, 15, 16, 17] (No) (by kernel_rfl) rfl fun w3 hE3 hs3 => ?_
  have hd1 := hb1
  have hb1 := hb1.extNo hE3
  have hb2 := hb2.extNo hE3
  have hX := hX.thenNo hE3
  refine wd_k I_ok 1 rfl (wd_ld I_ok rfl rfl (fun w' hw' => ((hd1.extNo hw').seg.obj hx).text) ?_)
  refine wd_k I_ok 1 rfl (wd_ld I_ok rfl rfl (fun w' hw' => ((hd1.extNo hw').seg.obj hx).text) ?_)
  refine wd_k I_ok 2 rfl (wd_ss I_ok rfl rfl 0 (min _ 257) (cutBds _ _) ?_)
  rw [strU_cut]
  refine wd_k I_ok 1 rfl (wd_ld I_ok rfl rfl (fun w' hw' => ((hd1.extNo hw').seg.obj hx).note) ?_)
  refine wd_k I_ok 1 rfl (wd_ld I_ok rfl rfl (fun w' hw' => ((hd1.extNo hw').seg.obj hx).note) ?_)
  refine wd_k I_ok 1 rfl (wd_sw (wbf I_ok (i := 11) rfl rfl rfl rfl rfl (by kernel_rfl) (wbf I_ok (i := 12) rfl rfl rfl rfl rfl (by kernel_rfl) (wb_ss I_ok (i := 13) rfl rfl rfl 0 (min _ 201) (cutBds _ _) (by kernel_rfl) ?_))))
  rw [strU_cut]
  refine wb rfl (st_st I_ok hb1 rfl rfl rfl fun w4 hb1 hE4 hs4 => ?_)
  have hb2 := hb2.ext1 hE4 ne1_2.symm
  have hX := hX.thenNew hE4 fr1
  have hb1 : Blk w4 b1 48 (objC (cutT x) a) := hb1
  refine wb rfl (st_p I_ok rfl rfl rfl ?_)
  refine wb rfl (st_set I_ok hb1 rfl rfl (by rw [objC_len (cutT_in hx)]; decide) fun w5 hb1 hE5 hs5 => ?_)
  have hb2 := hb2.ext1 hE5 ne1_2.symm
  have hX := hX.thenNew hE5 fr1
  have hb1 : Blk w5 b1 48 (objC (cutN x) a) := (by have h : Blk _ b1 _ ((objC (cutT x) a).set (68 + 4) (strV (x.note.take 201))) := hb1; rw [objC_cutN hx] at h; exact h)
  refine wb_nil (f_then (c_seq ?_))
  refine c_drawL I_ok rfl [] 24 [11, 12, 13, 20, 21, 22] [(0, true), (1, true), (2, true), (3, true), (4, true), (5, true), (6, true), (7, true), (8, true), (9, true), (10, true), (14, true), (15, true), (16, true), (17, true), (18, true), (19, true), (23, true)] [41, 42, 43, 50, 51, 52, 24, 25, 26, 27, 28, 29] (No) (by kernel_rfl) rfl fun w6 hE6 hs6 => ?_
  have hd1 := hb1
  have hb1 := hb1.extNo hE6
  have hb2 := hb2.extNo hE6
  have hX := hX.thenNo hE6
  refine wd_k I_ok 1 rfl (wd_ld I_ok rfl rfl (fun w' hw' => ((hd1.extNo hw').seg.obj (cutN_in hx)).leaves) ?_)
  refine wd_k I_ok 1 rfl (wd_ld I_ok rfl rfl (fun w' hw' => ((hd1.extNo hw').seg.obj (cutN_in hx)).leaves) ?_)
  refine wd_k I_ok 2 rfl (wd_sl I_ok rfl rfl 0 (min x.leaves.length 33) a.lc 33 rfl (.inr ⟨rfl, rfl⟩) (.inl (congrArg some (minI _ _))) (.inr ⟨rfl, rfl⟩) (Nat.zero_le _) (by have := hcap.leaves; omega) (Nat.le_refl _) ?_)
  rw [slBase_zero, Nat.sub_zero, Nat.sub_zero, min_take]
  refine wd_k I_ok 1 rfl (wd_ld I_ok rfl rfl (fun w' hw' => ((hd1.extNo hw').seg.obj (cutN_in hx)).parents) ?_)
  refine wd_k I_ok 1 rfl (wd_ld I_ok rfl rfl (fun w' hw' => ((hd1.extNo hw').seg.obj (cutN_in hx)).parents) ?_)
  refine wd_k I_ok 2 rfl (wd_ld I_ok rfl rfl (fun w' hw' => ((hd1.extNo hw').seg.obj (cutN_in hx)).rows) ?_)
  refine wd_k I_ok 2 rfl (wd_ld I_ok rfl rfl (fun w' hw' => ((hd1.extNo hw').seg.obj (cutN_in hx)).rows) ?_)
  refine wd_k I_ok 1 rfl (wd_sw (wbf I_ok (i := 11) rfl rfl rfl rfl rfl (by kernel_rfl) (wbf I_ok (i := 12) rfl rfl rfl rfl rfl (by kernel_rfl) ?_)))
  refine wb_sl I_ok (i := 13) rfl rfl rfl 0 (min x.parents.length 4) a.pc 32 rfl (.inr ⟨rfl, rfl⟩) (.inl (congrArg some (minI _ _))) (.inr ⟨rfl, rfl⟩) (Nat.zero_le _) (by have := hcap.parents; omega) (Nat.le_refl _) (by kernel_rfl) ?_
  rw [slBase_zero, Nat.sub_zero, Nat.sub_zero, min_take]
  refine wbf I_ok (i := 20) rfl rfl rfl rfl rfl (by kernel_rfl) (wbf I_ok (i := 21) rfl rfl rfl rfl rfl (by kernel_rfl) ?_)
  refine wb_sl I_ok (i := 22) rfl rfl rfl 0 (min x.rows.length 8) a.rc 3 rfl (.inr ⟨rfl, rfl⟩) (.inl (congrArg some (minI _ _))) (.inr ⟨rfl, rfl⟩) (Nat.zero_le _) (by have := hcap.rows; omega) (Nat.le_refl _) (by kernel_rfl) ?_
  rw [slBase_zero, Nat.sub_zero, Nat.sub_zero, min_take]
  refine wb rfl (st_st I_ok hb1 rfl rfl rfl fun w7 hb1 hE7 hs7 => ?_)
  have hb2 := hb2.ext1 hE7 ne1_2.symm
  have hX := hX.thenNew hE7 fr1
  have hb1 : Blk w7 b1 48 (objC (cutL8 x) a) := hb1
  refine wb rfl (st_p I_ok rfl rfl rfl ?_)
  refine wb rfl (st_set I_ok hb1 rfl rfl (by rw [objC_len (cutL8_in hx)]; decide) fun w8 hb1 hE8 hs8 => ?_)
  have hb2 := hb2.ext1 hE8 ne1_2.symm
  have hX := hX.thenNew hE8 fr1
  have hb1 : Blk w8 b1 48 (objC (cutP8 x) a) := (by have h : Blk _ b1 _ ((objC (cutL8 x) a).set (68 + 0) (.slice a.pp (x.parents.take 4).length a.pc)) := hb1; rw [objC_cutP8 hx] at h; exact h)
  refine wb rfl (st_p I_ok rfl rfl rfl (wb rfl (st_p I_ok rfl rfl rfl ?_)))
  refine wb rfl (st_set I_ok hb1 rfl rfl (by rw [objC_len (cutP8_in hx)]; decide) fun w9 hb1 hE9 hs9 => ?_)
  have hb2 := hb2.ext1 hE9 ne1_2.symm
  have hX := hX.thenNew hE9 fr1
  have hb1 : Blk w9 b1 48 (objC (cutO8 x) a) := (by have h : Blk _ b1 _ ((objC (cutP8 x) a).set (68 + 1) (.slice a.rp (x.rows.take 8).length a.rc)) := hb1; rw [objC_cutO8 hx] at h; exact h)
  refine wb_nil (f_then (c_seq (c_region (wl (st_ldB I_ok hb1 rfl (objC_len (cutO8_in hx)) ?_)))))
  have hX0 := hX
  refine wl (st_call Tryz.call58 rfl rfl rfl rfl rfl rfl (copy6_calls w9 (cutO8_in hx) (cutO8_l (hxl.extNo hX) hx) (cutO8_leaves x) (cutO8_parents x) (cutO8_rows x)) fun v10 w10 hr10 => ?_)
  obtain ⟨⟨lp, lc, pp, pc, rp, rc⟩, rfl, hN, hE10⟩ := hr10
  have hb1 := hb1.extNo hE10
  have hb2 := hb2.extNo hE10
  have hX := hX.thenNo hE10
  have hnl := fun y hy => Nat.le_trans hX0.size (hN.nl y hy)
  have hnp := fun y hy => Nat.le_trans hX0.size (hN.np y hy)
  have hnr := fun y hy => Nat.le_trans hX0.size (hN.nr y hy)
  have hol : Own w10 lp (x.leaves.take 33).length lc 50 33 ((upto cutLeaf8 0 (x.leaves.take 33)).flatMap LeafD.cells) := (upto_zero cutLeaf8 _).symm ▸ hN.ol
  have hop : Own w10 pp (x.parents.take 4).length pc 31 32 ((x.parents.take 4).flatMap bytesU) := hN.op
  have hor : Own w10 rp (x.rows.take 8).length rc 102 3 ((upto cutChg8 0 (x.rows.take 8)).flatMap ChgD.cells) := (upto_zero cutChg8 _).symm ▸ hN.or
  have hb1o := hb1
  refine wl (st_stW (l' := objC (cutO8 x) ⟨lp, lc, pp, pc, rp, rc⟩) I_ok hb1 rfl rfl (objC_len (cutO8_in hx)) (by rw [objC_len (cutO8_in hx), objC_len (cutO8_in hx)]) OneC.h fun w11 hb1 hE11 hs11 => ?_)
  have hb2 := hb2.ext1 hE11 ne1_2.symm
  have hol := hol.extTy hE11 hb1o (by decide)
  have hop := hop.extTy hE11 hb1o (by decide)
  have hor := hor.extTy hE11 hb1o (by decide)
  have hX := hX.thenNew hE11 fr1
  refine wl_nil (f_then (c_seq (c_seq (c_region (wl_p I_ok rfl (wl (st_ldb I_ok hb1 rfl rfl (wl_p I_ok rfl (wl_nil (f_then (c_block ?_)))))))))))
  refine c_loopK (α := Nat) [1, 2, 53] rfl (fun z => [(54, .int .i64 (z : Int))]) (fun z u => (z ≤ (x.leaves.take 33).length ∧ Own u lp (x.leaves.take 33).length lc 50 33 ((upto cutLeaf8 z (x.leaves.take 33)).flatMap LeafD.cells) ∧ Own u pp (x.parents.take 4).length pc 31 32 ((x.parents.take 4).flatMap bytesU) ∧ Own u rp (x.rows.take 8).length rc 102 3 ((upto cutChg8 0 (x.rows.take 8)).flatMap ChgD.cells)) ∧ Blk u b1 48 (objC (cutO8 x) ⟨lp, lc, pp, pc, rp, rc⟩) ∧ Blk u b2 48 (cellsOf ti48.zero) ∧ Ext No w u) (fun z u => (x.leaves.take 33).length - z) (0) rfl ⟨⟨Nat.zero_le _, hol, hop, hor⟩, hb1, hb2, hX⟩ ?_
  rintro i w12 ⟨⟨hi, hol, hop, hor⟩, hb1, hb2, hX⟩
  refine c_seq (c_region (wl_p I_ok rfl (wl_nil (f_then (c_seq (c_if rfl (fun hc => ?_) (fun hc => ?_)))))))
  · have h33 : (x.leaves.take 33).length ≤ 33 := by rw [List.length_take]; omega
    have hi : i < (x.leaves.take 33).length := (by have h : i < (cutO8 x).leaves.length := (by omega); exact h)
    have hLid : ∀ r ∈ (x.leaves.take 33), r.id.length = 32 := fun r hr => (hx.leaves r (List.mem_of_mem_take hr)).2
    obtain ⟨bl, L, hp, hbl, hL, hnc, hcm, htk⟩ := hol.opened (by omega)
    have hrow := Own.row hol (upto_mem (fun r hr => LeafD.len (hLid r hr)) (fun r h => h)) hp hi
    subst hp
    refine c_skip (f_then (c_seq (c_block (c_seq (c_region (wl_p I_ok rfl (wl_nil (f_then ?_))))))))
    refine c_draw rfl 20 [(0, true), (1, true), (2, true), (3, true), (4, true), (5, true), (6, true), (7, true), (8, true), (9, true), (10, true), (11, true), (12, true), (13, true), (14, true), (15, true), (16, true), (17, true), (18, true), (19, true)] [20] (No) (by kernel_rfl) fun w13 hE13 hs13 => ?_
    have hd1 := hb1
    have hb1 := hb1.extNo hE13
    have hb2 := hb2.extNo hE13
    have hop := hop.ext hE13 fun _ _ => id
    have hor := hor.ext hE13 fun _ _ => id
    have hX := hX.thenNo hE13
    have hbl := hbl.extNo hE13
    skip
    refine wd_k I_ok 1 rfl (wd_ld I_ok rfl rfl (fun w' hw' => (hd1.extNo hw').cell rfl) ?_)
    refine wd_k I_ok 2 rfl (wd_ld I_ok rfl rfl (fun w' hw' => (hd1.extNo hw').cell rfl) ?_)
    refine wd_k I_ok 1 rfl (wd_ix I_ok rfl rfl 33 rfl i rfl hi (0 + i * 33) rfl ?_)
    rw [Nat.zero_add]
    refine wd_k I_ok 1 rfl (wd_ld I_ok rfl rfl (fun w' hw' => ((hrow.extNo hw') 0 _ rfl)) ?_)
    refine wd_k I_ok 1 rfl (wd_ld I_ok rfl rfl (fun w' hw' => (hd1.extNo hw').cell rfl) ?_)
    refine wd_k I_ok 1 rfl (wd_ix I_ok rfl rfl 33 rfl i rfl hi (0 + i * 33) rfl ?_)
    rw [Nat.zero_add]
    refine wd_k I_ok 1 rfl (wd_ld I_ok rfl rfl (fun w' hw' => ((hrow.extNo hw') 0 _ rfl)) ?_)
    refine wd_k I_ok 2 rfl (wd_ss I_ok rfl rfl 0 (min _ 60) (cutBds _ _) ?_)
    rw [strU_cut]
    refine wd_ix I_ok rfl rfl 33 rfl i rfl hi (0 + i * 33) rfl ?_
    rw [Nat.zero_add]
    refine wd_k I_ok 1 rfl (wd_sw ?_)
    have hblo := hbl
    have hXo := hX
    refine wb rfl (st_set I_ok hbl rfl rfl (by rw [hL]; have := Nat.mul_le_mul_right 33 hnc; omega) fun w14 hbl hE14 hs14 => ?_)
    have ne1 : b1 ≠ bl := hb1.ne hblo (by decide)
    have ne2 : b2 ≠ bl := hb2.ne hblo (by decide)
    have hb1 := hb1.ext1 hE14 ne1
    have hb2 := hb2.ext1 hE14 ne2
    have hX := hXo.thenNew hE14 (hnl bl rfl)
    have hop := hop.extTy hE14 hblo (by decide)
    have hor := hor.extTy hE14 hblo (by decide)
    have hol : Own w14 (some ⟨bl, 0, none⟩) (x.leaves.take 33).length lc 50 33 ((upto cutLeaf8 (i + 1) (x.leaves.take 33)).flatMap LeafD.cells) := by
      rw [← leaf_cut8 hLid hi]; exact Own.setB hL hnc hcm htk hbl
    refine wb_nil (f_blockN (f_then (c_region (wl_p I_ok rfl ?_))))
    rw [IntWalk.i64_in _ (by omega)]
    refine wl_nil ?_
    exact f_round (i + 1) rfl ⟨⟨hi, hol, hop, hor⟩, hb1, hb2, hX⟩ (by first | omega | (dsimp only; omega))
  · have hend : (x.leaves.take 33).length ≤ i := (by have h : (cutO8 x).leaves.length ≤ i := (by omega); exact h)
    refine c_exit (f_thenE (f_thenE (f_blockE (f_then (c_seq (c_seq (c_region (wl_p I_ok rfl (wl (st_ld I_ok rfl (hb1.seg.obj (cutO8_in hx)).rows (wl_p I_ok rfl (wl_nil (f_then (c_block ?_))))))))))))))
    refine c_loopK (α := Nat) [1, 2, 81] rfl (fun z => [(82, .int .i64 (z : Int))]) (fun z u => (z ≤ (x.rows.take 8).length ∧ Own u lp (x.leaves.take 33).length lc 50 33 ((upto cutLeaf8 i (x.leaves.take 33)).flatMap LeafD.cells) ∧ Own u pp (x.parents.take 4).length pc 31 32 ((x.parents.take 4).flatMap bytesU) ∧ Own u rp (x.rows.take 8).length rc 102 3 ((upto cutChg8 z (x.rows.take 8)).flatMap ChgD.cells)) ∧ Blk u b1 48 (objC (cutO8 x) ⟨lp, lc, pp, pc, rp, rc⟩) ∧ Blk u b2 48 (cellsOf ti48.zero) ∧ Ext No w u) (fun z u => (x.rows.take 8).length - z) (0) rfl ⟨⟨Nat.zero_le _, hol, hop, hor⟩, hb1, hb2, hX⟩ ?_
    rintro j w15 ⟨⟨hj, hol, hop, hor⟩, hb1, hb2, hX⟩
    refine c_seq (c_region (wl_p I_ok rfl (wl_nil (f_then (c_seq (c_if rfl (fun hc => ?_) (fun hc => ?_)))))))
    · have h33 : (x.rows.take 8).length ≤ 8 := by rw [List.length_take]; omega
      have hj : j < (x.rows.take 8).length := (by have h : j < (cutO8 x).rows.length := (by omega); exact h)
      obtain ⟨bl, L, hp, hbl, hL, hnc, hcm, htk⟩ := hor.opened (by omega)
      have hrow := Own.row hor (fun r _ => r.len) hp hj
      subst hp
      refine c_skip (f_then (c_seq (c_block (c_seq (c_region (wl_p I_ok rfl (wl_nil (f_then (c_seq (c_region (wl_p I_ok rfl (wl (st_ld I_ok rfl (hb1.seg.obj (cutO8_in hx)).rows (wl_p I_ok rfl ?_))))))))))))))
      refine wl (st_ix I_ok rfl 3 rfl j rfl hj (0 + j * 3) rfl ?_)
      rw [Nat.zero_add]
      refine wl_p I_ok rfl (wl_nil (f_then ?_))
      refine c_drawL I_ok rfl [] 26 [1, 21, 22, 23] [(0, true), (2, true), (3, true), (4, true), (5, true), (6, true), (7, true), (8, true), (9, true), (10, true), (11, true), (12, true), (13, true), (14, true), (15, true), (16, true), (17, true), (18, true), (19, true), (20, true), (24, true), (25, true)] [31, 51, 52, 53, 26, 27, 28, 29] (No) (by kernel_rfl) rfl fun w16 hE16 hs16 => ?_
      have hb1 := hb1.extNo hE16
      have hb2 := hb2.extNo hE16
      have hol := hol.ext hE16 fun _ _ => id
      have hop := hop.ext hE16 fun _ _ => id
      have hX := hX.thenNo hE16
      have hbl := hbl.extNo hE16
      refine wd_k I_ok 4 rfl (wd_ld I_ok rfl rfl (fun w' hw' => ((hrow.extNo hw') 0 _ rfl)) ?_)
      refine wd_k I_ok 3 rfl (wd_ld I_ok rfl rfl (fun w' hw' => ((hrow.extNo hw') 0 _ rfl)) ?_)
      refine wd_k I_ok 2 rfl (wd_ss I_ok rfl rfl 0 (min _ 60) (cutBds _ _) ?_)
      rw [strU_cut]
      refine wd_k I_ok 3 rfl (wd_ld I_ok rfl rfl (fun w' hw' => ((hrow.extNo hw') 2 _ rfl)) ?_)
      refine wd_k I_ok 3 rfl (wd_ld I_ok rfl rfl (fun w' hw' => ((hrow.extNo hw') 2 _ rfl)) ?_)
      refine wd_k I_ok 2 rfl (wd_sw (wbf I_ok (i := 1) rfl rfl rfl rfl rfl (by kernel_rfl) (wbf I_ok (i := 21) rfl rfl rfl rfl rfl (by kernel_rfl) (wbf I_ok (i := 22) rfl rfl rfl rfl rfl (by kernel_rfl) ?_))))
      refine wb_ss I_ok (i := 23) rfl rfl rfl 0 (min _ 257) (cutBds _ _) (by kernel_rfl) ?_
      rw [strU_cut]
      have hblo := hbl
      have hXo := hX
      refine wb rfl (st_set I_ok hbl rfl rfl (by rw [hL]; have := Nat.mul_le_mul_right 3 hnc; omega) fun w17 hbl1 hE17 hs17 => ?_)
      have ne1 : b1 ≠ bl := hb1.ne hblo (by decide)
      have ne2 : b2 ≠ bl := hb2.ne hblo (by decide)
      have hb1 := hb1.ext1 hE17 ne1
      have hb2 := hb2.ext1 hE17 ne2
      have hX := hXo.thenNew hE17 (hnr bl rfl)
      have hop := hop.extTy hE17 hblo (by decide)
      have hol := hol.extTy hE17 hblo (by decide)
      refine wb rfl (st_p I_ok rfl rfl rfl (wb rfl (st_p I_ok rfl rfl rfl ?_)))
      have hXo := hX
      refine wb rfl (st_set I_ok hbl1 rfl rfl (by show j * 3 + 2 < _; rw [List.length_set, hL]; have := Nat.mul_le_mul_right 3 hnc; omega) fun w18 hbl2 hE18 hs18 => ?_)
      have hb1 := hb1.ext1 hE18 ne1
      have hb2 := hb2.ext1 hE18 ne2
      have hX := hXo.thenNew hE18 (hnr bl rfl)
      have hop := hop.extTy hE18 hbl1 (by decide)
      have hol := hol.extTy hE18 hbl1 (by decide)
      have hor : Own w18 (some ⟨bl, 0, none⟩) (x.rows.take 8).length rc 102 3 ((upto cutChg8 (j + 1) (x.rows.take 8)).flatMap ChgD.cells) := by
        rw [← chg_cut8 hj]; exact Own.setB (by rw [List.length_set, hL]) hnc hcm (by rw [List.take_set, htk]) hbl2
      refine wb_nil (f_blockN (f_then (c_region (wl_p I_ok rfl ?_))))
      rw [IntWalk.i64_in _ (by omega)]
      refine wl_nil ?_
      exact f_round (j + 1) rfl ⟨⟨hj, hol, hop, hor⟩, hb1, hb2, hX⟩ (by first | omega | (dsimp only; omega))
    · have hend2 : (x.rows.take 8).length ≤ j := (by have h : (cutO8 x).rows.length ≤ j := (by omega); exact h)
      refine c_exit (f_thenE (f_thenE (f_blockE (f_then (c_seq (c_region (wl (st_ldB I_ok hb1 rfl (objC_len (cutO8_in hx)) ?_))))))))
      have hb1o := hb2
      refine wl (st_stW (l' := objC (cutO8 x) ⟨lp, lc, pp, pc, rp, rc⟩) I_ok hb2 rfl rfl (objC_len (cutO8_in hx)) (by rw [objC_len (cutO8_in hx)]; rfl) OneC.h fun w19 hb2 hE19 hs19 => ?_)
      have hol := hol.extTy hE19 hb1o (by decide)
      have hop := hop.extTy hE19 hb1o (by decide)
      have hor := hor.extTy hE19 hb1o (by decide)
      have hX := hX.thenNew hE19 fr2
      refine wl_nil (f_then (c_ret (f_ret [_] ⟨⟨b2, 0, rfl, ld_all I_ok rfl rfl hb2.seg (objC_len (cutO8_in hx))⟩, trivial⟩ ?_)))
      rw [upto_all hend] at hol
      rw [upto_all hend2] at hor
      exact ⟨⟨lp, lc, pp, pc, rp, rc⟩, by rw [objC_objO8]; rfl, ⟨by rw [show (objO8 x).leaves.length = (x.leaves.take 33).length from List.length_map ..]; exact hol, hop, by rw [show (objO8 x).rows.length = (x.rows.take 8).length from List.length_map ..]; exact hor, hnl, hnp, hnr⟩, hX⟩
theorem objO8_in {o : ObjD} (h : ObjIn o) : ObjIn (objO8 o) := ⟨h.tree, h.base, fun r hr => h.parents r (List.mem_of_mem_take hr), fun r hr => by
    obtain ⟨y, hy, rfl⟩ := List.mem_map.1 hr
    have := h.leaves y (List.mem_of_mem_take hy)
    exact ⟨Nat.le_trans (List.length_take_le _ _) (by decide), this.2⟩, fun r hr => by
    obtain ⟨y, hy, rfl⟩ := List.mem_map.1 hr
    exact ⟨Nat.le_trans (List.length_take_le _ _) (by decide), Nat.le_trans (List.length_take_le _ _) (by decide)⟩, h.number, h.author⟩
end Go.Proofs.YtpcdihkcenfgkaaGreat
namespace Go.Proofs.YtpcdihkcenfgkaaGreat
open Go.Vc
/-- an object as it is given -/
structure ObjArg (w : World) (x : ObjD) (a : ObjP) : Prop where
  i : ObjIn x
  l : ObjL w x a
  c : ObjCap x a
theorem objO8_sh (x : ObjD) : Short (objO8 x) :=
  ⟨Nat.lt_of_le_of_lt (by show ((x.leaves.take 33).map cutLeaf8).length ≤ 33; rw [List.length_map, List.length_take]; omega) (by decide : 33 < 1000000000),
   Nat.lt_of_le_of_lt (by show (x.parents.take 4).length ≤ 8; rw [List.length_take]; omega) (by decide : 8 < 1000000000),
   Nat.lt_of_le_of_lt (by show ((x.rows.take 8).map cutChg8).length ≤ 8; rw [List.length_map, List.length_take]; omega) (by decide : 8 < 1000000000),
   fun r hr => by obtain ⟨y, _, rfl⟩ := List.mem_map.1 hr; exact Nat.lt_of_le_of_lt (by show (y.path.take 60).length ≤ 60; rw [List.length_take]; omega) (by decide : 60 < 1000000000),
   fun r hr => by obtain ⟨y, _, rfl⟩ := List.mem_map.1 hr; exact Nat.lt_of_le_of_lt (by show (y.path.take 60).length ≤ 60; rw [List.length_take]; omega) (by decide : 60 < 1000000000)⟩
theorem ObjNew.extOwn {W0 w w' : World} {x : ObjD} {a : ObjP} (k : ObjNew W0 w x a) {q : Option Addr} {n c T sz : Nat} {xs : List Value} (ho : Own w q n c T sz xs) (hE : Ext (OwnB q) w w') (h1 : T ≠ 50) (h2 : T ≠ 31) (h3 : T ≠ 102) : ObjNew W0 w' x a :=
  ⟨k.ol.extOwn ho hE h1, k.op.extOwn ho hE h2, k.or.extOwn ho hE h3, k.nl, k.np, k.nr⟩
/-- objects cut short, in a row -/
def cuts (os : List ObjX) (i : Nat) : List ObjD := (os.take (min i 8)).map fun x => objO8 x.1
structure InQ (W w : World) (N : Nat) (os : List ObjX) (i : Nat) (q : Option Addr) (k : Nat) (L : List ObjX) : Prop where
  e : L.map Prod.fst = cuts os i
  own : Own w q L.length k 48 73 (L.flatMap objX)
  nw : ∀ y, OwnB q y → N ≤ y
  new : ∀ x ∈ L, ObjNew W w x.1 x.2
theorem cuts_len (os : List ObjX) (i : Nat) : (cuts os i).length ≤ 8 := by
  unfold cuts
  rw [List.length_map, List.length_take]
  omega
section
variable {W w : World} {N i k : Nat} {os : List ObjX} {q : Option Addr} {L : List ObjX}
theorem InQ.len (h : InQ W w N os i q k L) : L.length ≤ 8 := by
  rw [← List.length_map (f := Prod.fst), h.e]
  exact cuts_len os i
theorem InQ.of (h : InQ W w N os i q k L) : ∀ x ∈ L, ∃ y ∈ os, x.1 = objO8 y.1 := fun x hx => by
  have : x.1 ∈ L.map Prod.fst := List.mem_map_of_mem hx
  rw [h.e] at this
  obtain ⟨y, hy, e⟩ := List.mem_map.1 this
  exact ⟨y, List.mem_of_mem_take hy, e.symm⟩
theorem InQ.ins (h : InQ W w N os i q k L) (ho : ∀ x ∈ os, ObjIn x.1) : ∀ x ∈ L, ObjIn x.1 := fun x hx => by
  obtain ⟨y, hy, e⟩ := h.of x hx
  rw [e]; exact objO8_in (ho y hy)
theorem InQ.shs (h : InQ W w N os i q k L) : ∀ x ∈ L, Short x.1 := fun x hx => by
  obtain ⟨y, _, e⟩ := h.of x hx
  rw [e]; exact objO8_sh _
theorem InQ.ls (h : InQ W w N os i q k L) : ∀ x ∈ L, ObjL w x.1 x.2 := fun x hx => (h.new x hx).l
theorem InQ.extNo {w' : World} (h : InQ W w N os i q k L) (hE : Ext No w w') : InQ W w' N os i q k L := ⟨h.e, h.own.ext hE fun _ _ => id, h.nw, fun x hx => (h.new x hx).extNo hE⟩
theorem InQ.start (W w : World) (N : Nat) (os : List ObjX) : InQ W w N os 0 none 0 [] := ⟨by simp [cuts], Own.nil _ _ _, noOwn, fun _ hx => (by cases hx)⟩
theorem InQ.app (h : InQ W w N os i q k L) (hi : i < os.length) (h8 : i < 8) {w1 w' : World} {a : ObjP} (hN : ObjNew w1 w (objO8 os[i].1) a) (hW : W.heap.size ≤ w1.heap.size) {q' : Option Addr} {k' : Nat} (hE : Ext (OwnB q) w w') (ho : Own w' q' (L.length + 1) k' 48 73 (L.flatMap objX ++ objC (objO8 os[i].1) a)) (hB : ∀ x, OwnB q' x → OwnB q x ∨ w.heap.size ≤ x) (hN2 : N ≤ w.heap.size) : InQ W w' N os (i + 1) q' k' (L ++ [(objO8 os[i].1, a)]) :=
  ⟨by
    rw [List.map_append, h.e]
    unfold cuts
    rw [show min i 8 = i from by omega, show min (i + 1) 8 = i + 1 from by omega, List.take_succ_eq_append_getElem hi, List.map_append]
    rfl,
   by rw [List.flatMap_append, List.length_append, List.flatMap_singleton]; exact ho,
   fun y hy => (hB y hy).elim (h.nw y) fun k => Nat.le_trans hN2 k,
   fun x hx => by
    rcases List.mem_append.1 hx with hx | hx
    · exact (h.new x hx).extOwn h.own hE (by decide) (by decide) (by decide)
    · rw [List.mem_singleton.1 hx]; exact (hN.older hW).extOwn h.own hE (by decide) (by decide) (by decide)⟩
end
section
variable {W w : World} {N i k : Nat} {os : List ObjX} {q : Option Addr} {L : List ObjX}
theorem InQ.extOwn (h : InQ W w N os i q k L) {w' : World} {p : Option Addr} {n c : Nat} {xs : List Value} (ho : Own w p n c 48 73 xs) (hE : Ext (OwnB p) w w') (hd : ∀ b, OwnB q b → ¬ OwnB p b) : InQ W w' N os i q k L :=
  ⟨h.e, h.own.ext hE hd, h.nw, fun x hx => (h.new x hx).extOwn ho hE (by decide) (by decide) (by decide)⟩
theorem InQ.lenE (h : InQ W w N os i q k L) (hi : i ≤ os.length) (h8 : i ≤ 8) : L.length = i := by
  rw [← List.length_map (f := Prod.fst), h.e]
  unfold cuts
  rw [List.length_map, List.length_take]
  omega
theorem cuts_done {os : List ObjX} {i : Nat} (hi : i = os.length ∧ i ≤ 8 ∨ i = 8) : cuts os i = cuts os 8 := by
  unfold cuts
  rcases hi with ⟨h, h2⟩ | h
  · subst h
    rw [List.take_of_length_le (by omega), List.take_of_length_le (by omega)]
  · rw [h]
theorem InQ.done (h : InQ W w N os i q k L) (hi : i = os.length ∧ i ≤ 8 ∨ i = 8) : InQ W w N os 8 q k L := ⟨h.e.trans (cuts_done hi), h.own, h.nw, h.new⟩
theorem InQ.same {q' : Option Addr} {k' : Nat} {L' : List ObjX} (h : InQ W w N os i q k L) (h' : InQ W w N os i q' k' L') : L'.map Prod.fst = L.map Prod.fst := h'.e.trans h.e.symm
end
theorem fst_get {L L' : List ObjX} (h : L'.map Prod.fst = L.map Prod.fst) {j : Nat} (h1 : j < L'.length) (h2 : j < L.length) : (L'[j]).1 = (L[j]).1 := by
  have e1 : (L'.map Prod.fst)[j]? = some (L'[j]).1 := by rw [List.getElem?_map, List.getElem?_eq_getElem h1]; rfl
  have e2 : (L.map Prod.fst)[j]? = some (L[j]).1 := by rw [List.getElem?_map, List.getElem?_eq_getElem h2]; rfl
  rw [h, e2] at e1
  exact (Option.some.inj e1).symm
end Go.Proofs.YtpcdihkcenfgkaaGreat
namespace Go.Proofs.YtpcdihkcenfgkaaGreat
open Go.Vc Go.WideShapes Go.ChangeShapes
section
variable {H : Type} {enc : TypeId × Value → H} {W : World} {sp : Nat → Bool} {held : Bool}
/-- an object that the statement reads -/
theorem open_obj {fuel : Nat} {cs : List Value} {x : DataW H × List MemPlace} (h : DataW.trod enc Tryz.prog W 0 sp held fuel 48 cs = some x) : ∃ (o : ObjD) (a : ObjP), cs = objC o a ∧ ObjArg W o a := by
  obtain ⟨xs, k, rfl, _, hlen, hxs, hf⟩ := DataW.trod_struct Tryz.underlying48 h
  have k33 : Tryz.prog.cellsOf 48 = 73 := by kernel_rfl
  have k3 : Tryz.prog.cellsOf 3 = 1 := by kernel_rfl
  have k9 : Tryz.prog.cellsOf 9 = 1 := by kernel_rfl
  have k24 : Tryz.prog.cellsOf 42 = 1 := by kernel_rfl
  have k27 : Tryz.prog.cellsOf 27 = 1 := by kernel_rfl
  have k26 : Tryz.prog.cellsOf 31 = 32 := by kernel_rfl
  have k30 : Tryz.prog.cellsOf 45 = 1 := by kernel_rfl
  have k28 : Tryz.prog.cellsOf 43 = 1 := by kernel_rfl
  have k31 : Tryz.prog.cellsOf 46 = 1 := by kernel_rfl
  have hxs : xs.length = 11 := hxs
  have g0 : DataW.trod enc Tryz.prog W 0 sp held k 3 ((cs.drop 0).take (Tryz.prog.cellsOf 3)) = _ := hf 0 _ rfl
  have g1 : DataW.trod enc Tryz.prog W 0 sp held k 9 ((cs.drop 1).take (Tryz.prog.cellsOf 9)) = _ := hf 1 _ rfl
  have g2 : DataW.trod enc Tryz.prog W 0 sp held k 42 ((cs.drop 2).take (Tryz.prog.cellsOf 42)) = _ := hf 2 _ rfl
  have g3 : DataW.trod enc Tryz.prog W 0 sp held k 3 ((cs.drop 3).take (Tryz.prog.cellsOf 3)) = _ := hf 3 _ rfl
  have g4 : DataW.trod enc Tryz.prog W 0 sp held k 31 ((cs.drop 4).take (Tryz.prog.cellsOf 31)) = _ := hf 4 _ rfl
  have g5 : DataW.trod enc Tryz.prog W 0 sp held k 31 ((cs.drop 36).take (Tryz.prog.cellsOf 31)) = _ := hf 5 _ rfl
  have g6 : DataW.trod enc Tryz.prog W 0 sp held k 27 ((cs.drop 68).take (Tryz.prog.cellsOf 27)) = _ := hf 6 _ rfl
  have g7 : DataW.trod enc Tryz.prog W 0 sp held k 45 ((cs.drop 69).take (Tryz.prog.cellsOf 45)) = _ := hf 7 _ rfl
  have g8 : DataW.trod enc Tryz.prog W 0 sp held k 46 ((cs.drop 70).take (Tryz.prog.cellsOf 46)) = _ := hf 8 _ rfl
  have g9 : DataW.trod enc Tryz.prog W 0 sp held k 46 ((cs.drop 71).take (Tryz.prog.cellsOf 46)) = _ := hf 9 _ rfl
  have g10 : DataW.trod enc Tryz.prog W 0 sp held k 9 ((cs.drop 72).take (Tryz.prog.cellsOf 9)) = _ := hf 10 _ rfl
  rw [k3, List.getElem?_eq_getElem (by omega)] at g0 g3
  rw [k9, List.getElem?_eq_getElem (by omega)] at g1 g10
  rw [k24, List.getElem?_eq_getElem (by omega)] at g2
  rw [k26, List.getElem?_eq_getElem (by omega)] at g4 g5
  rw [k27, List.getElem?_eq_getElem (by omega)] at g6
  rw [k30, List.getElem?_eq_getElem (by omega)] at g7
  rw [k31, List.getElem?_eq_getElem (by omega)] at g8 g9
  obtain ⟨kind, e0, _, _⟩ := DataW.trod_int Tryz.underlying3 g0
  obtain ⟨tx, e1, _⟩ := open_str g1
  obtain ⟨lp, ll, lc, e2, hlc, _, hls, hli, _⟩ := open_list (cells := LeafD.cells) (ok := fun r => r.path.length ≤ maxLen ∧ r.id.length = 32) Tryz.underlying42 (by kernel_rfl : Tryz.prog.cellsOf 50 = 33) (by decide) (fun h => open_leaf h) g2
  obtain ⟨st, e3, _, _⟩ := DataW.trod_int Tryz.underlying3 g3
  obtain ⟨tree, e4, ht⟩ := open_id g4
  obtain ⟨base, e5, hb⟩ := open_id g5
  obtain ⟨pp, pl, pc, e6, hpc, _, hps, hpi, _⟩ := open_list (cells := bytesU) (ok := fun r => r.length = 32) Tryz.underlying27 k26 (by decide) (fun h => open_id h) g6
  obtain ⟨xs2, k2, _, _, hlen2, hxs2, hf2⟩ := DataW.trod_struct Tryz.underlying45 g7
  have hxs2 : xs2.length = 1 := hxs2
  have g7' : DataW.trod enc Tryz.prog W 0 sp held k2 43 (((((cs.drop 69).take 1)).drop 0).take (Tryz.prog.cellsOf 43)) = _ := hf2 0 _ rfl
  rw [k28, List.getElem?_eq_getElem (by omega)] at g7'
  obtain ⟨rp, rl, rc, e7, hrc, _, hrs, hri, _⟩ := open_list (cells := ChgD.cells) (ok := fun r => r.path.length ≤ maxLen ∧ r.text.length ≤ maxLen) Tryz.underlying43 (by kernel_rfl : Tryz.prog.cellsOf 102 = 3) (by decide) (fun h => open_chg h) g7'
  have e7 : (cs.drop 69).take 1 = [.slice rp rl.length rc] := by rw [← e7, List.drop_zero, List.take_take]; rfl
  obtain ⟨nu, e8, h8⟩ := open_u32 g8
  obtain ⟨au, e9, h9⟩ := open_u32 g9
  obtain ⟨no, e10, _⟩ := open_str g10
  rw [k33] at hlen
  refine ⟨⟨kind, tx, ll, st, tree, base, pl, rl, nu, au, no⟩, ⟨lp, lc, pp, pc, rp, rc⟩, ?_, ⟨⟨ht, hb, hpi, hli, hri, h8, h9⟩, ⟨hls, hps, hrs⟩, ⟨hlc, hpc, hrc⟩⟩⟩
  have e : cs = cs.drop 0 := rfl
  rw [e, split_at cs 0 1, e0, split_at cs (0 + 1) 1, e1, split_at cs (0 + 1 + 1) 1, e2, split_at cs (0 + 1 + 1 + 1) 1, e3, split_at cs (0 + 1 + 1 + 1 + 1) 32, e4, split_at cs (0 + 1 + 1 + 1 + 1 + 32) 32, e5,
    split_at cs (0 + 1 + 1 + 1 + 1 + 32 + 32) 1, e6, split_at cs (0 + 1 + 1 + 1 + 1 + 32 + 32 + 1) 1, e7, split_at cs (0 + 1 + 1 + 1 + 1 + 32 + 32 + 1 + 1) 1, e8, split_at cs (0 + 1 + 1 + 1 + 1 + 32 + 32 + 1 + 1 + 1) 1, e9,
    split_at cs (0 + 1 + 1 + 1 + 1 + 32 + 32 + 1 + 1 + 1 + 1) 1, e10, List.drop_eq_nil_of_le (by omega), List.append_nil]
  rfl
end
end Go.Proofs.YtpcdihkcenfgkaaGreat
namespace Go.Proofs.YtpcdihkcenfgkaaGreat
open Go.Vc
/-- a put, and where its bytes lie -/
structure CmdX where
  c : CmdD
  p : Option Addr
  k : Nat
abbrev cmdX (x : CmdX) : List Value := cmdC x.c x.p x.k
theorem cmdX_len (x : CmdX) : (cmdX x).length = 69 := cmd_len _ _ _ _ _ _
/-- the first puts of objects -/
def cmds (L : List ObjD) (cl : Int) (sq i : Nat) : List CmdD := (List.range i).map fun j => putUC (L.getD j objZ) cl (sq + j)
/-- the first puts may be -/
def GoodTo (L : List ObjD) (cl : Int) (sq i : Nat) : Prop := ∀ j, j < i → putUE (L.getD j objZ) cl (sq + j) = 0
theorem cmds_step (L : List ObjD) (cl : Int) (sq i : Nat) : cmds L cl sq (i + 1) = cmds L cl sq i ++ [putUC (L.getD i objZ) cl (sq + i)] := by
  unfold cmds
  rw [List.range_succ, List.map_append]; rfl
theorem cmds_len (L : List ObjD) (cl : Int) (sq i : Nat) : (cmds L cl sq i).length = i := by unfold cmds; rw [List.length_map, List.length_range]
theorem GoodTo.step {L : List ObjD} {cl : Int} {sq i : Nat} (h : GoodTo L cl sq i) (he : putUE (L.getD i objZ) cl (sq + i) = 0) : GoodTo L cl sq (i + 1) := fun j hj => by
  rcases Nat.lt_or_ge j i with k | k
  · exact h j k
  · rw [show j = i from by omega]; exact he
/-- what Puts answers -/
inductive PutsR (L : List ObjD) (cl : Int) (sq : Nat) : Int → List CmdD → Prop
  | full (h : 4294967296 < sq + L.length) : PutsR L cl sq 6 []
  | bad (h : sq + L.length ≤ 4294967296) (i : Nat) (hi : i < L.length) (hg : GoodTo L cl sq i) (he : putUE (L.getD i objZ) cl (sq + i) ≠ 0) : PutsR L cl sq (putUE (L.getD i objZ) cl (sq + i)) []
  | ok (h : sq + L.length ≤ 4294967296) (hg : GoodTo L cl sq L.length) : PutsR L cl sq 0 (cmds L cl sq L.length)
/-- a row of puts, and their bytes -/
structure CmdsQ (W w : World) (q : Option Addr) (k : Nat) (L : List CmdX) : Prop where
  own : Own w q L.length k 67 69 (L.flatMap cmdX)
  nw : ∀ y, OwnB q y → W.heap.size ≤ y
  at_ : ∀ x ∈ L, CmdAt w x.c x.p x.k
theorem CmdsQ.nil (W w : World) : CmdsQ W w none 0 [] := ⟨Own.nil _ _ _, noOwn, fun _ h => (by cases h)⟩
theorem CmdsQ.no {W w w' : World} {q : Option Addr} {k : Nat} {L : List CmdX} (h : CmdsQ W w q k L) (hE : Ext No w w') : CmdsQ W w' q k L := ⟨h.own.ext hE fun _ _ => id, h.nw, fun x hx => (h.at_ x hx).no hE⟩
theorem CmdsQ.new {W w w1 w' : World} {q : Option Addr} {k b : Nat} {L : List CmdX} (h : CmdsQ W w q k L) (hE1 : Ext No w w1) (hE : Ext (One b) w1 w') (hb : w.heap.size ≤ b) : CmdsQ W w' q k L := h.no (hE1.trans hE fun y hy e => by have e : y = b := e; omega)
theorem CmdsQ.snoc {W w w' : World} {q q2 : Option Addr} {k k2 : Nat} {L : List CmdX} {x : CmdX} (h : CmdsQ W w q k L) (hA : CmdAt w x.c x.p x.k) (hE : Ext (OwnB q) w w') (ho : Own w' q2 (L.length + 1) k2 67 69 (L.flatMap cmdX ++ cmdX x)) (hB : ∀ b, OwnB q2 b → OwnB q b ∨ w.heap.size ≤ b) (hW : W.heap.size ≤ w.heap.size) : CmdsQ W w' q2 k2 (L ++ [x]) := by
  have key : ∀ y : CmdX, CmdAt w y.c y.p y.k → CmdAt w' y.c y.p y.k := fun y hy => own_app hy h.own hE (by decide)
  refine ⟨by rw [List.length_append, List.flatMap_append, List.flatMap_singleton]; exact ho, fun y hy => (hB y hy).elim (h.nw y) fun e => Nat.le_trans hW e, fun y hy => ?_⟩
  rcases List.mem_append.1 hy with hy | hy
  · exact key y (h.at_ y hy)
  · rw [List.mem_singleton.1 hy]; exact key x hA
theorem one_cmd {c : CmdD} {p : Option Addr} {k : Nat} : putAll (rep 1 (cmdV 0 0 0 none 0 0)) [(0 * (0 + 69), 0 + 69, .agg (cmdC c p k).toArray)] = cmdC c p k := by
  simp only [putAll, cellsOf_agg]
  rw [Nat.zero_mul, put_whole (by rw [rep_length, cmd_len, cmd_len])]
theorem getD_fst {L : List ObjX} {i : Nat} (h : i < L.length) : (L.map Prod.fst).getD i objZ = (L[i]).1 := by
  rw [List.getD_eq_getElem?_getD, List.getElem?_map, List.getElem?_eq_getElem h]; rfl
theorem add_u32 {a b : Nat} (h : a + b < 4294967296) : IntKind.u32.wrap ((a : Int) + IntKind.u32.wrap (b : Int)) = ((a + b : Nat) : Int) := by
  rw [IntWalk.u32_in (b : Int) (by omega), IntWalk.u32_in _ (by omega)]; omega
theorem puts_calls (w : World) {px : Option Addr} {cx : Nat} {xs : List ObjX} (hxs : Sl w px xs.length 73 (xs.flatMap objX)) (hxo : ∀ x ∈ xs, ObjIn x.1) (hxl : ∀ x ∈ xs, ObjL w x.1 x.2) (hxh : ∀ x ∈ xs, Short x.1) (hn : xs.length ≤ 1000) (cl : Int) (sq : Nat) (hsq : sq < 4294967296) :
    CallsV Tryz.prog 24 [.slice px xs.length cx, .int .i64 cl, .int .u32 (sq : Int)] w fun v w' => ∃ q k out e, v = .tuple #[.slice q out.length k, .int .i64 e] ∧ PutsR (xs.map Prod.fst) cl sq e (out.map CmdX.c) ∧ CmdsQ w w' q k out ∧ Ext No w w' := by
  have hlo : (xs.map Prod.fst).length = xs.length := List.length_map ..
  refine calls_enter Tryz.func24 rfl rfl rfl rfl ?_
  have hX := Ext.refl No w
  refine c_seq (c_region (wl_p I_ok rfl (wl_nil (f_then (c_seq (c_seq (c_region (wl_p I_ok rfl (wl_nil (f_then (c_if rfl (fun hc => ?_) (fun hc => ?_))))))))))))
  · rw [IntWalk.u64_in (sq : Int) (by omega), IntWalk.u64_in (xs.length : Int) (by omega), IntWalk.u64_in _ (by omega)] at hc
    have hfull : 4294967296 < sq + xs.length := by omega
    refine c_seq (c_region (wl_p I_ok rfl (wl_nil (f_then (c_ret (f_thenR (f_ret [_, _] ⟨rfl, rfl, trivial⟩ ?_)))))))
    exact ⟨none, 0, [], 6, rfl, .full (by rw [hlo]; exact hfull), CmdsQ.nil _ _, hX⟩
  · rw [IntWalk.u64_in (sq : Int) (by omega), IntWalk.u64_in (xs.length : Int) (by omega), IntWalk.u64_in _ (by omega)] at hc
    have hfit : sq + xs.length ≤ 4294967296 := by omega
    refine c_skip (f_then (c_seq (c_region (wl_p I_ok rfl (wl_nil (f_then (c_seq (c_seq (c_region (wl_p I_ok rfl (wl_nil (f_then (c_block ?_)))))))))))))
    refine c_loopK (α := Nat × List CmdX × Option Addr × Nat) [1, 2, 20, 21] rfl (fun z => [(8, .slice z.2.2.1 z.2.1.length z.2.2.2), (22, .int .i64 (z.1 : Int))]) (fun z u => ((z.1 ≤ xs.length ∧ GoodTo (xs.map Prod.fst) cl sq z.1 ∧ z.2.1.map CmdX.c = cmds (xs.map Prod.fst) cl sq z.1) ∧ CmdsQ w u z.2.2.1 z.2.2.2 z.2.1) ∧ Ext No w u) (fun z u => xs.length - z.1) (0, [], none, 0) rfl ⟨⟨⟨Nat.zero_le _, fun j hj => absurd hj (Nat.not_lt_zero _), rfl⟩, CmdsQ.nil _ _⟩, hX⟩ ?_
    rintro ⟨i, out, q, k⟩ w1 ⟨⟨⟨hi, hg, hoc⟩, hQ⟩, hX⟩
    try dsimp only
    dsimp only at hi hg hoc hQ
    refine c_seq (c_region (wl_p I_ok rfl (wl_nil (f_then (c_seq (c_if rfl (fun hc => ?_) (fun hc => ?_)))))))
    · have hi2 : i < xs.length := by omega
      obtain ⟨xb, xo, hpe, hxr⟩ := (hxs.extNo hX).rowAll (objX_len hxo) (by omega)
      have hoi := hxo _ (List.getElem_mem hi2)
      have hgd := getD_fst hi2
      have hol : out.length = i := by have := congrArg List.length hoc; rw [List.length_map, cmds_len] at this; exact this
      refine wc_put 20 rfl (v' := .slice (some ⟨xb, xo, none⟩) xs.length cx) (by rw [hpe]) (c_skip (f_then (c_seq (c_block (c_seq (c_region (wl_p I_ok rfl (wl (st_ix I_ok rfl 73 rfl i rfl hi2 (xo + i * 73) rfl ?_)))))))))
      refine wl (st_ldN I_ok rfl (hxr i hi2) (objC_len hoi) ?_)
      have hQ0 := hQ
      refine wl (st_al I_ok rfl fun b10 w2 hn10 hb10 hE2 => ?_)
      have fr10 := Nat.le_trans hX.size hn10
      have hX := hX.thenNo hE2
      have hEa10 := hE2
      have hn10o := hn10
      refine wl_p I_ok rfl (wl (st_stW (l' := objX xs[i]) I_ok hb10 rfl rfl (objC_len hoi) (by rw [objC_len hoi]; rfl) OneC.h fun w3 hb10 hE3 hs3 => ?_))
      have hQ := hQ0.new hEa10 hE3 hn10o
      have hX := hX.thenNew hE3 fr10
      refine wl_nil (f_then (c_seq (c_region (wl (st_ldB I_ok hb10 rfl (objC_len hoi) (wl_p I_ok rfl ?_))))))
      rw [add_u32 (by omega)]
      refine wl (st_call Tryz.call26 rfl rfl rfl rfl rfl rfl (put_calls w3 hoi ((hxl _ (List.getElem_mem hi2)).extNo hX) (hxh _ (List.getElem_mem hi2)) cl (sq + i)) fun v4 w4 hr4 => ?_)
      obtain ⟨qp, kp, rfl, hA, hAn, hE4⟩ := hr4
      have hQ := hQ.no hE4
      have hX := hX.thenNo hE4
      rw [← hgd] at hA ⊢
      refine wl_p I_ok rfl ?_
      have hQ0 := hQ
      have hA0 := hA
      refine wl (st_al I_ok rfl fun b11 w5 hn11 hb11 hE5 => ?_)
      have fr11 := Nat.le_trans hX.size hn11
      have hA := hA.no hE5
      have hX := hX.thenNo hE5
      have hEa11 := hE5
      have hn11o := hn11
      have hb11o := hb11
      refine wl (st_stW (l' := cmdC (putUC ((xs.map Prod.fst).getD i objZ) cl (sq + i)) qp kp) I_ok hb11 rfl rfl rfl rfl OneC.h fun w6 hb11 hE6 hs6 => ?_)
      have hQ := hQ0.new hEa11 hE6 hn11o
      have hA := hA.one hE6 hb11o (by decide)
      have hX := hX.thenNew hE6 fr11
      refine wl_p I_ok rfl (wl_nil (f_then (c_seq (c_seq (c_region (wl_p I_ok rfl (wl_nil (f_then (c_if rfl (fun hc => ?_) (fun hc => ?_))))))))))
      · have he : (putUE ((xs.map Prod.fst).getD i objZ) cl (sq + i)) ≠ 0 := hc
        refine c_seq (c_region (wl_p I_ok rfl (wl_nil (f_then (c_ret (f_thenR (f_blockR (f_thenR (f_thenR (f_blockR (f_thenR (f_ret [_, _] ⟨rfl, rfl, trivial⟩ ?_))))))))))))
        exact ⟨none, 0, [], (putUE ((xs.map Prod.fst).getD i objZ) cl (sq + i)), rfl, .bad (by rw [hlo]; exact hfit) i (by rw [hlo]; exact hi2) hg he, CmdsQ.nil _ _, hX⟩
      · have he : (putUE ((xs.map Prod.fst).getD i objZ) cl (sq + i)) = 0 := Decidable.not_not.1 hc
        refine c_skip (f_then (c_region (wl_p I_ok rfl (wl (st_ldB I_ok hb11 rfl rfl ?_)))))
        refine wl (st_bs I_ok rfl 69 rfl cmdZ_c rfl (by decide) (by decide) ⟨⟨by rw [cellsOf_agg]; rfl, by decide⟩, trivial⟩ (l' := cmdC (putUC ((xs.map Prod.fst).getD i objZ) cl (sq + i)) qp kp) one_cmd fun b42 w7 hn42 hb42 hE7 hs7 => ?_)
        have hQ := hQ.no hE7
        have hA := hA.no hE7
        have hX := hX.thenNo hE7
        have hX0 := hX
        have hs42 : Sl w7 (some ⟨b42, 0, none⟩) 1 69 (cmdC (putUC ((xs.map Prod.fst).getD i objZ) cl (sq + i)) qp kp) := ⟨rfl, .inr ⟨b42, 0, rfl, hb42.seg⟩⟩
        refine wl (st_app I_ok rfl 69 128 rfl rfl rfl (by decide) hQ.own (Src.slice (m := 1) hs42 OneC.h) (by dsimp only; dsimp only [maxLen]; omega) (by dsimp only; omega) fun p8 c8 w8 ho8 hE8 hB8 => ?_)
        dsimp only at ho8 hE8 hB8 ⊢
        have hX := hX0.trans hE8 fun z hz hF => by have := hQ.nw z hF; omega
        have hQ2 := hQ.snoc (x := ⟨(putUC ((xs.map Prod.fst).getD i objZ) cl (sq + i)), qp, kp⟩) hA hE8 ho8 hB8 hX0.size
        rw [show out.length + 1 = (out ++ [(⟨(putUC ((xs.map Prod.fst).getD i objZ) cl (sq + i)), qp, kp⟩ : CmdX)]).length from by rw [List.length_append]; rfl]
        refine wl_p I_ok rfl (wl_nil (f_blockN (f_then (c_region (wl_p I_ok rfl ?_)))))
        rw [IntWalk.i64_in _ (by omega)]
        refine wl_nil (fin_put 20 rfl (v' := .slice px xs.length cx) (by rw [hpe]) ?_)
        exact f_round (i + 1, out ++ [(⟨(putUC ((xs.map Prod.fst).getD i objZ) cl (sq + i)), qp, kp⟩ : CmdX)], p8, c8) rfl ⟨⟨⟨hi2, hg.step he, by rw [List.map_append, hoc, cmds_step]; rfl⟩, hQ2⟩, hX⟩ (by first | omega | (dsimp only; omega))
    · have h0 : i = xs.length := by omega
      subst h0
      refine c_exit (f_thenE (f_thenE (f_blockE (f_then (c_seq (c_region (wl_p I_ok rfl (wl_nil (f_then (c_ret (f_ret [_, _] ⟨rfl, rfl, trivial⟩ ?_)))))))))))
      exact ⟨q, k, out, 0, rfl, by rw [hoc, ← hlo]; exact .ok (by rw [hlo]; exact hfit) (by rw [hlo]; exact hg), hQ, hX⟩
end Go.Proofs.YtpcdihkcenfgkaaGreat
namespace Go.Proofs.YtpcdihkcenfgkaaGreat
open Go.Vc
theorem wrapU (x : Int) : IntKind.u32.wrap x = x % 4294967296 := rfl
theorem full_iff {sq n : Nat} (hs : sq < 4294967296) (h0 : 0 < n) (hn : n ≤ 8) : IntKind.u32.wrap ((sq : Int) + IntKind.u32.wrap ((n : Int) - 1)) < (sq : Int) ↔ 4294967296 < sq + n := by
  rw [wrapU, wrapU]
  omega
/-- on the way of the law's own puts -/
def WantI (L : List ObjD) (cl : Int) (sq i : Nat) (no : Int) (out : List CmdD) : Prop :=
  (4294967296 < sq + L.length ∧ no = 6) ∨ (sq + L.length ≤ 4294967296 ∧ ((no = 0 ∧ GoodTo L cl sq i ∧ out = cmds L cl sq i) ∨ ∃ j, j < L.length ∧ GoodTo L cl sq j ∧ no = putUE (L.getD j objZ) cl (sq + j) ∧ no ≠ 0))
theorem WantI.go {L : List ObjD} {cl : Int} {sq i : Nat} {out : List CmdD} (h : WantI L cl sq i 0 out) (hi : i < L.length) : WantI L cl sq (i + 1) (putUE (L.getD i objZ) cl (sq + i)) (out ++ [putUC (L.getD i objZ) cl (sq + i)]) := by
  rcases h with ⟨_, h⟩ | ⟨h1, ⟨_, h2, h3⟩ | ⟨j, _, _, _, h⟩⟩
  · cases h
  · by_cases he : putUE (L.getD i objZ) cl (sq + i) = 0
    · exact .inr ⟨h1, .inl ⟨he, h2.step he, by rw [h3, cmds_step]⟩⟩
    · exact .inr ⟨h1, .inr ⟨i, hi, h2, rfl, he⟩⟩
  · exact absurd rfl h
theorem WantI.stop {L : List ObjD} {cl : Int} {sq i n : Nat} {no : Int} {out : List CmdD} (h : WantI L cl sq i no out) (hn : no ≠ 0) : WantI L cl sq n no out := by
  rcases h with h | ⟨h1, ⟨h, _, _⟩ | h⟩
  · exact .inl h
  · exact absurd h hn
  · exact .inr ⟨h1, .inr h⟩
/-- what the law compares -/
theorem puts_no {L : List ObjD} {cl : Int} {sq : Nat} {e no : Int} {got out : List CmdD} (h : PutsR L cl sq e got) (hw : WantI L cl sq L.length no out) (hn : no ≠ 0) : e = no ∧ got = [] := by
  rcases hw with ⟨w1, w2⟩ | ⟨w1, ⟨w2, _, _⟩ | ⟨j, w2, w3, w4, w5⟩⟩
  · cases h with
    | full h => exact ⟨w2.symm, rfl⟩
    | bad h => omega
    | ok h => omega
  · exact absurd w2 hn
  · cases h with
    | full h => omega
    | bad h i hi hg he =>
      have e : i = j := by
        rcases Nat.lt_trichotomy i j with k | k | k
        · exact absurd (w3 i k) he
        · exact k
        · exact absurd (hg j k) (by rw [← w4]; exact w5)
      subst e
      exact ⟨w4.symm, rfl⟩
    | ok h hg => exact absurd (hg j w2) (by rw [← w4]; exact w5)
theorem puts_ok {L : List ObjD} {cl : Int} {sq : Nat} {e : Int} {got out : List CmdD} (h : PutsR L cl sq e got) (hw : WantI L cl sq L.length 0 out) : e = 0 ∧ got = out := by
  rcases hw with ⟨w1, w2⟩ | ⟨w1, ⟨_, w2, w3⟩ | ⟨j, w2, w3, w4, w5⟩⟩
  · cases w2
  · cases h with
    | full h => omega
    | bad h i hi hg he => exact absurd (w2 i hi) he
    | ok h hg => exact ⟨rfl, w3.symm⟩
  · exact absurd rfl w5
theorem InQ.newB {W w w1 w' : World} {N i k b : Nat} {os : List ObjX} {q : Option Addr} {L : List ObjX} (h : InQ W w N os i q k L) (hE1 : Ext No w w1) (hE : Ext (One b) w1 w') (hb : w.heap.size ≤ b) : InQ W w' N os i q k L := h.extNo (hE1.trans hE fun y hy e => by have e : y = b := e; omega)
theorem cmd_at {w : World} {q : Option Addr} {k : Nat} {W : World} {L : List CmdX} (h : CmdsQ W w q k L) {b o : Nat} (hq : q = some ⟨b, o, none⟩) {i : Nat} (hi : i < L.length) : Seg w b (o + i * 69) (cmdX L[i]) := by
  obtain ⟨b2, o2, e, h2⟩ := h.own.sl.rowAll (fun r _ => cmdX_len r) (by omega)
  rw [hq] at e
  cases e
  exact h2 i hi
theorem in_at {W w : World} {N i k : Nat} {os L : List ObjX} {q : Option Addr} (h : InQ W w N os i q k L) (hi : ∀ x ∈ L, ObjIn x.1) {b o : Nat} (hq : q = some ⟨b, o, none⟩) {j : Nat} (hj : j < L.length) : Seg w b (o + j * 73) (objX L[j]) := by
  obtain ⟨b2, o2, e, h2⟩ := h.own.sl.rowAll (objX_len hi) (by omega)
  rw [hq] at e
  cases e
  exact h2 j hj
theorem want_len {L : List ObjD} {cl : Int} {sq i : Nat} {out : List CmdD} (h : WantI L cl sq i 0 out) : ∀ c ∈ out, c.data.length ≤ 800 := fun c hc => by
  rcases h with ⟨_, h⟩ | ⟨_, ⟨_, _, h3⟩ | ⟨j, _, _, _, h⟩⟩
  · cases h
  · rw [h3] at hc
    obtain ⟨j, _, e⟩ := List.mem_map.1 hc
    rw [← e]; exact putU_len
  · exact absurd rfl h
theorem want_count {L : List ObjD} {cl : Int} {sq i : Nat} {out : List CmdD} (h : WantI L cl sq i 0 out) : out.length = i := by
  rcases h with ⟨_, h⟩ | ⟨_, ⟨_, _, h3⟩ | ⟨j, _, _, _, h⟩⟩
  · cases h
  · rw [h3, cmds_len]
  · exact absurd rfl h
theorem map_at {L : List CmdX} {M : List CmdX} (h : L.map CmdX.c = M.map CmdX.c) {i : Nat} (h1 : i < L.length) (h2 : i < M.length) : (L[i]).c = (M[i]).c := by
  have e1 : (L.map CmdX.c)[i]? = some (L[i]).c := by rw [List.getElem?_map, List.getElem?_eq_getElem h1]; rfl
  have e2 : (M.map CmdX.c)[i]? = some (M[i]).c := by rw [List.getElem?_map, List.getElem?_eq_getElem h2]; rfl
  rw [h, e2] at e1
  exact (Option.some.inj e1).symm
theorem uploadPuts_calls (w : World) {po : Option Addr} {co : Nat} {os : List ObjX} (ho : Sl w po os.length 73 (os.flatMap objX)) (hoi : ∀ x ∈ os, ObjArg w x.1 x.2) (hol : os.length < 9223372036854775808) (cl : Int) (sq : Nat) (hsq : sq < 4294967296) :
    CallsV Tryz.prog 6 [.slice po os.length co, .int .i64 cl, .int .u32 (sq : Int)] w fun v w' => v = .bool true ∧ Ext No w w' := by
  have hoI : ∀ x ∈ os, ObjIn x.1 := fun x hx => (hoi x hx).i
  refine calls_enter Tryz.func6 rfl rfl rfl rfl ?_
  have hX := Ext.refl No w
  refine c_seq (c_region (wl_p I_ok rfl (wl_nil (f_then (c_seq (c_seq (c_region (wl (st_call Tryz.call7 rfl rfl rfl rfl rfl rfl (wakes_calls w) fun v1 w1 hr1 => ?_)))))))))
  obtain ⟨rfl, hE1⟩ := hr1
  have hX := hX.thenNo hE1
  refine wl_p I_ok rfl (wl_nil (f_then (c_condF rfl (c_skip (f_then (c_seq (c_region (wl_p I_ok rfl (wl_nil (f_then ?_))))))))))
  refine c_cutK (α := (List ObjX × Option Addr × Nat) × (List ObjX × Option Addr × Nat)) [1, 2] rfl (fun z => [(7, .slice z.1.2.1 z.1.1.length z.1.2.2), (8, .slice z.2.2.1 z.2.1.length z.2.2.2)]) (fun z u => (InQ w u w.heap.size os (8) z.1.2.1 z.1.2.2 z.1.1 ∧ InQ w u w.heap.size os (8) z.2.2.1 z.2.2.2 z.2.1) ∧ Ext No w u) ?_ ?_
  · refine c_seq ?_
    refine c_region (wl_p I_ok rfl (wl_nil (f_then (c_block ?_))))
    refine c_loopK (α := Nat × (List ObjX × Option Addr × Nat) × (List ObjX × Option Addr × Nat)) [1, 2, 29, 30] rfl (fun z => [(7, .slice z.2.1.2.1 z.2.1.1.length z.2.1.2.2), (8, .slice z.2.2.2.1 z.2.2.1.length z.2.2.2.2), (31, .int .i64 (z.1 : Int))]) (fun z u => ((z.1 ≤ os.length ∧ z.1 ≤ 8) ∧ InQ w u w.heap.size os (z.1) z.2.1.2.1 z.2.1.2.2 z.2.1.1 ∧ InQ w u w.heap.size os (z.1) z.2.2.2.1 z.2.2.2.2 z.2.2.1 ∧ (∀ b, OwnB z.2.1.2.1 b → ¬ OwnB z.2.2.2.1 b)) ∧ Ext No w u) (fun z u => os.length - z.1) (0, ⟨[], none, 0⟩, ⟨[], none, 0⟩) rfl ⟨⟨⟨Nat.zero_le _, Nat.zero_le _⟩, InQ.start _ _ _ _, InQ.start _ _ _ _, (fun b k _ => Nat.lt_irrefl b (noOwn b k))⟩, hX⟩ ?_
    rintro ⟨i, ⟨L8, q8, k8⟩, ⟨L9, q9, k9⟩⟩ w2 ⟨⟨⟨hi, hi8⟩, hI8, hI9, hdj⟩, hX⟩
    try dsimp only
    dsimp only at hi hi8 hI8 hI9 hdj
    refine c_seq (c_region (wl_p I_ok rfl (wl_nil (f_then (c_seq (c_if rfl (fun hc => ?_) (fun hc => ?_)))))))
    · have hi2 : i < os.length := by omega
      obtain ⟨ob, oo, hp1, hos⟩ := ho.rowAll (objX_len hoI) (by omega)
      have hoi1 := hoi _ (List.getElem_mem hi2)
      have hl8e := hI8.lenE hi hi8
      have hl9e := hI9.lenE hi hi8
      have hq8L : ∀ b, OwnB q8 b → b < w2.heap.size := fun b h => hI8.own.lt h
      have hq9L : ∀ b, OwnB q9 b → b < w2.heap.size := fun b h => hI9.own.lt h
      refine wc_put 29 rfl (v' := .slice (some ⟨ob, oo, none⟩) os.length co) (by rw [hp1]) (c_skip (f_then (c_seq (c_block (c_seq (c_region (wl_p I_ok rfl (wl (st_ix I_ok rfl 73 rfl i rfl (by omega) (oo + i * 73) rfl ?_)))))))))
      refine wl (st_ldN I_ok rfl ((hos i hi2).extNo hX) (objC_len hoi1.i) ?_)
      have hI80 := hI8
      have hI90 := hI9
      refine wl (st_al I_ok rfl fun b10 w3 hn10 hb10 hE3 => ?_)
      have fr10 := Nat.le_trans hX.size hn10
      have hX := hX.thenNo hE3
      have hEa10 := hE3
      have hn10o := hn10
      refine wl_p I_ok rfl (wl (st_stW (l' := objX os[i]) I_ok hb10 rfl rfl (objC_len hoi1.i) (by rw [objC_len hoi1.i]; rfl) OneC.h fun w4 hb10 hE4 hs4 => ?_))
      have hI8 := hI80.newB hEa10 hE4 hn10o
      have hI9 := hI90.newB hEa10 hE4 hn10o
      have hX := hX.thenNew hE4 fr10
      refine wl_nil (f_then (c_seq (c_seq (c_region (wl_p I_ok rfl (wl_nil (f_then (c_if rfl (fun hc => ?_) (fun hc => ?_)))))))))
      · have h8 : i = 8 := by omega
        refine c_exit ?_
        exact f_thenE (f_blockE' rfl (f_thenE (f_thenE (f_blockE (f_cut (⟨L8, q8, k8⟩, ⟨L9, q9, k9⟩) rfl ⟨⟨hI8.done (.inr h8), hI9.done (.inr h8)⟩, hX⟩)))))
      · have h8 : i < 8 := by omega
        have hq8 := hI8.own
        have hq9 := hI9.own
        have nq8 : ¬ OwnB q8 b10 := fun e => by have := hq8L b10 e; omega
        have nq9 : ¬ OwnB q9 b10 := fun e => by have := hq9L b10 e; omega
        refine c_skip (f_then ?_)
        refine c_draw rfl 12 [(0, true), (1, true), (5, true), (6, true), (2, false), (3, false), (4, false), (7, false), (8, false), (9, false), (10, true), (11, true)] [] ((fun y => OwnB q8 y ∨ OwnB q9 y)) (by kernel_rfl) fun w5 hE5 hs5 => ?_
        have hd10 := hb10
        have hI8 := hI8.extNo hE5
        have hI9 := hI9.extNo hE5
        have hq8 := hq8.ext hE5 fun _ _ => id
        have hX := hX.thenNo hE5
        have hC : Ext ((fun y => OwnB q8 y ∨ OwnB q9 y)) _ w5 := hE5.no
        refine wd_k I_ok 1 rfl (wd_ldN I_ok rfl rfl (fun w' hw' => ((hd10.ext hw' (fun e => e.elim nq8 nq9)).seg)) (objC_len hoi1.i) ?_)
        refine wd_k I_ok 1 rfl (wd_ldN I_ok rfl rfl (fun w' hw' => ((hd10.ext hw' (fun e => e.elim nq8 nq9)).seg)) (objC_len hoi1.i) ?_)
        have hXc1 := hX.size
        refine wd_l rfl (st_call Tryz.call23 rfl rfl rfl rfl rfl rfl (short_calls w5 hoi1.i (hoi1.l.extNo hX) hoi1.c) fun v6 w6 hr6 => ⟨(by obtain ⟨a1, rfl, hN1, hE6⟩ := hr6; exact hC.thenNo hE6), ?_⟩)
        obtain ⟨a1, rfl, hN1, hE6⟩ := hr6
        have hI8 := hI8.extNo hE6
        have hI9 := hI9.extNo hE6
        have hq8 := hq8.ext hE6 fun _ _ => id
        have hX := hX.thenNo hE6
        have hC := hC.thenNo hE6
        refine wd_l rfl (st_bs I_ok rfl 73 rfl objZ_c.symm (by rw [objC_len objZ_in]) (by decide) (by decide) ⟨⟨by rw [cellsOf_agg]; exact objC_len (objO8_in hoi1.i), by decide⟩, trivial⟩ (l' := objC (objO8 os[i].1) a1) (one_obj (objO8_in hoi1.i)) fun b41 w7 hn41 hb41 hE7 hs7 => ⟨hC.thenNo hE7, ?_⟩)
        have hI8 := hI8.extNo hE7
        have hI9 := hI9.extNo hE7
        have hq8 := hq8.ext hE7 fun _ _ => id
        have hN1 := hN1.extNo hE7
        have hX := hX.thenNo hE7
        have hC := hC.thenNo hE7
        have hX1 := hX
        have hKn := hX.size
        have hs41 : Sl w7 (some ⟨b41, 0, none⟩) 1 73 (objC (objO8 os[i].1) a1) := ⟨objC_len (objO8_in hoi1.i), .inr ⟨b41, 0, rfl, hb41.seg⟩⟩
        have hq9o := hI9.own
        refine wd_l rfl (st_app I_ok rfl 73 192 rfl rfl rfl (by decide) hq8 (Src.slice (m := 1) hs41 OneC.h) (by dsimp only [maxLen]; omega) (by dsimp only; omega) fun p8 c8 w8 ho8 hE8 hB8 => ⟨hC.then (hE8.mono fun _ _ e => .inl e), ?_⟩)
        have hC := hC.then (hE8.mono fun _ _ e => .inl e)
        dsimp only at ho8 hE8 hB8 ⊢
        have hX := hX1.trans hE8 fun y hy hF => by have := hI8.nw y hF; omega
        obtain ⟨qa, ka, e1, e2, hoa⟩ : ∃ q2 k2, q2 = p8 ∧ k2 = c8 ∧ Own w8 q2 (L8.length + 1) k2 48 73 (L8.flatMap objX ++ objC (objO8 os[i].1) a1) := ⟨_, _, rfl, rfl, ho8⟩
        rw [← e1] at hB8
        rw [← e1, ← e2]
        have hIa := hI8.app hi2 h8 hN1 hXc1 hE8 hoa hB8 hKn
        have hI9 := hI9.extOwn hq8 hE8 (fun b k k2 => hdj b k2 k)
        have hq9 := hI9.own
        have hdj2 : ∀ b, OwnB qa b → ¬ OwnB q9 b := fun b k k2 => (hB8 b k).elim (fun h => hdj b h k2) fun h => by have := hq9o.lt k2; omega
        have hXc2 := hX.size
        refine wd_l rfl (st_call Tryz.call23 rfl rfl rfl rfl rfl rfl (short_calls w8 hoi1.i (hoi1.l.extNo hX) hoi1.c) fun v9 w9 hr9 => ⟨(by obtain ⟨a2, rfl, hN2, hE9⟩ := hr9; exact hC.thenNo hE9), ?_⟩)
        obtain ⟨a2, rfl, hN2, hE9⟩ := hr9
        have hI9 := hI9.extNo hE9
        have hq9 := hq9.ext hE9 fun _ _ => id
        have hIa := hIa.extNo hE9
        have hX := hX.thenNo hE9
        have hC := hC.thenNo hE9
        refine wd_l rfl (st_bs I_ok rfl 73 rfl objZ_c.symm (by rw [objC_len objZ_in]) (by decide) (by decide) ⟨⟨by rw [cellsOf_agg]; exact objC_len (objO8_in hoi1.i), by decide⟩, trivial⟩ (l' := objC (objO8 os[i].1) a2) (one_obj (objO8_in hoi1.i)) fun b46 w10 hn46 hb46 hE10 hs10 => ⟨hC.thenNo hE10, ?_⟩)
        have hI9 := hI9.extNo hE10
        have hq9 := hq9.ext hE10 fun _ _ => id
        have hIa := hIa.extNo hE10
        have hN2 := hN2.extNo hE10
        have hX := hX.thenNo hE10
        have hC := hC.thenNo hE10
        have hX1 := hX
        have hKn := hX.size
        have hs46 : Sl w10 (some ⟨b46, 0, none⟩) 1 73 (objC (objO8 os[i].1) a2) := ⟨objC_len (objO8_in hoi1.i), .inr ⟨b46, 0, rfl, hb46.seg⟩⟩
        have hIa0 := hIa
        refine wd_l rfl (st_app I_ok rfl 73 192 rfl rfl rfl (by decide) hq9 (Src.slice (m := 1) hs46 OneC.h) (by dsimp only [maxLen]; omega) (by dsimp only; omega) fun p11 c11 w11 ho11 hE11 hB11 => ⟨hC.then (hE11.mono fun _ _ e => .inr e), ?_⟩)
        dsimp only at ho11 hE11 hB11 ⊢
        have hX := hX1.trans hE11 fun y hy hF => by have := hI9.nw y hF; omega
        obtain ⟨qb, kb, e1, e2, hob⟩ : ∃ q2 k2, q2 = p11 ∧ k2 = c11 ∧ Own w11 q2 (L9.length + 1) k2 48 73 (L9.flatMap objX ++ objC (objO8 os[i].1) a2) := ⟨_, _, rfl, rfl, ho11⟩
        rw [← e1] at hB11
        rw [← e1, ← e2]
        have hIb := hI9.app hi2 h8 hN2 hXc2 hE11 hob hB11 hKn
        have hdj3 : ∀ b, OwnB qa b → ¬ OwnB qb b := fun b k k2 => (hB11 b k2).elim (fun h => hdj2 b k h) fun h => by have := hIa0.own.lt k; omega
        have hIa := hIa.extOwn hq9 hE11 hdj2
        rw [show L8.length + 1 = (L8 ++ [((objO8 os[i].1, a1) : ObjX)]).length from by rw [List.length_append]; rfl, show L9.length + 1 = (L9 ++ [((objO8 os[i].1, a2) : ObjX)]).length from by rw [List.length_append]; rfl]
        refine wd_k I_ok 2 rfl (wd_sw (wb_nil (f_blockN (f_then (c_region (wl_p I_ok rfl ?_))))))
        rw [IntWalk.i64_in _ (by omega)]
        refine wl_nil (fin_put 29 rfl (v' := .slice po os.length co) (by rw [hp1]) ?_)
        exact f_round (i + 1, ⟨L8 ++ [(objO8 os[i].1, a1)], qa, ka⟩, ⟨L9 ++ [(objO8 os[i].1, a2)], qb, kb⟩) rfl ⟨⟨⟨hi2, h8⟩, hIa, hIb, hdj3⟩, hX⟩ (by first | omega | (dsimp only; omega))
    · have hend : i = os.length := by omega
      refine c_exit ?_
      exact f_thenE (f_thenE (f_blockE (f_cut (⟨L8, q8, k8⟩, ⟨L9, q9, k9⟩) rfl ⟨⟨hI8.done (.inl ⟨hend, hi8⟩), hI9.done (.inl ⟨hend, hi8⟩)⟩, hX⟩)))
  rintro ⟨⟨L8, q8, k8⟩, ⟨L9, q9, k9⟩⟩ w12 ⟨⟨hI8, hI9⟩, hX⟩
  try dsimp only
  dsimp only at hI8 hI9
  have hsm := hI8.same hI9
  have hIns8 := hI8.ins hoI
  have hIns9 := hI9.ins hoI
  have hl8 := hI8.len
  have hl9 := hI9.len
  have hsh8 := hI8.shs
  have hsh9 := hI9.shs
  have hl89 : L9.length = L8.length := by have := congrArg List.length hsm; rw [List.length_map, List.length_map] at this; exact this
  have hn9 : (L9.map Prod.fst).length = L9.length := List.length_map ..
  have hIK : KS w12.heap.size w12 (fun u => InQ w u w.heap.size os (8) q8 k8 L8 ∧ InQ w u w.heap.size os (8) q9 k9 L9) := KS.mk0 fun u hE => ⟨hI8.extNo hE, hI9.extNo hE⟩
  obtain ⟨M0, hM0⟩ : ∃ N, N = w12.heap.size := ⟨_, rfl⟩
  rw [← hM0] at hIK
  refine c_seq (c_region (wl_p I_ok rfl ?_))
  obtain ⟨Wg, hWg⟩ : ∃ Wg, Wg = w12 := ⟨_, rfl⟩
  have hXg := hX.size
  refine wl (st_call Tryz.call24 rfl rfl rfl rfl rfl rfl (puts_calls w12 hIK.now.1.own.sl hIns8 (fun x hx => (hIK.now.1.new x hx).l) hsh8 (by omega) cl sq hsq) fun v13 w13 hr13 => ?_)
  obtain ⟨q4, k4, got, e, rfl, hR, hG, hE13⟩ := hr13
  have hIK := hIK.no hE13
  have hX := hX.thenNo hE13
  have hWgE := hE13.size
  have hG : CmdsQ Wg w13 q4 k4 got := by rw [hWg]; exact hG
  rw [← hsm] at hR
  have hwg : w.heap.size ≤ Wg.heap.size := by rw [hWg]; exact hXg
  have hIK := hIK.add (fun u hE => hG.no hE)
  obtain ⟨M, hM⟩ : ∃ N, N = w13.heap.size := ⟨_, rfl⟩
  rw [← hM] at hIK
  have hMg : Wg.heap.size ≤ M := by rw [hWg, hM]; exact hWgE
  refine wl_p I_ok rfl (wl_nil (f_then (c_seq (c_region (wl_p I_ok rfl (wl_nil (f_then ?_)))))))
  refine c_cutK (α := Int) [1, 2, 7, 8, 11, 12] rfl (fun z => [(13, .int .i64 z)]) (fun z u => (z = (if 4294967296 < sq + L9.length then 6 else 0) ∧ KS M u (fun u => (InQ w u w.heap.size os (8) q8 k8 L8 ∧ InQ w u w.heap.size os (8) q9 k9 L9) ∧ CmdsQ Wg u q4 k4 got)) ∧ Ext No w u) ?_ ?_
  · refine c_seq ?_
    refine c_region (wl_p I_ok rfl ?_)
    rw [IntWalk.u32_in (L9.length : Int) (by omega)]
    refine wl_p I_ok rfl (wl_nil (f_then (c_cutK (α := Bool) [1, 2, 7, 8, 11, 12, 13] rfl (fun z => [(68, .bool z)]) (fun z u => u = w13 ∧ z = decide (4294967296 < sq + L9.length)) ?_ ?_)))
    · refine c_region ?_
      refine wl_p I_ok rfl (wl_caseD 61 rfl (fun hg => ?_) (fun hg => ?_))
      · have h0 : 0 < L9.length := by omega
        refine wl_pk I_ok 7 rfl (wl_nil ?_)
        exact f_cut (_) rfl ⟨rfl, by rw [decide_eq_decide]; exact full_iff hsq h0 hl9⟩
      · have h0 : L9.length = 0 := by omega
        refine wl_pk I_ok 7 rfl (wl_nil ?_)
        exact f_cut (false) rfl ⟨rfl, (decide_eq_false (by omega)).symm⟩
    rintro z w14 ⟨hu, rfl⟩
    have hu := hu.symm
    subst hu
    refine c_if rfl (fun hc => ?_) (fun hc => ?_)
    · refine c_region ?_
      refine wl_p I_ok rfl (wl_nil ?_)
      exact f_cut (6) rfl ⟨⟨(if_pos hc).symm, hIK⟩, hX⟩
    · refine c_skip ?_
      exact f_cut (0) rfl ⟨⟨(if_neg hc).symm, hIK⟩, hX⟩
  rintro z w15 ⟨⟨hz, hIK⟩, hX⟩
  refine c_seq (c_region (wl_p I_ok rfl (wl_nil (f_then ?_))))
  refine c_cutK (α := Int × List CmdX × Option Addr × Nat) [1, 2, 7, 8, 11, 12] rfl (fun z => [(13, .int .i64 z.1), (15, .slice z.2.2.1 z.2.1.length z.2.2.2)]) (fun z u => (WantI (L9.map Prod.fst) cl sq (L9.map Prod.fst).length z.1 (z.2.1.map CmdX.c) ∧ CmdsQ Wg u z.2.2.1 z.2.2.2 z.2.1 ∧ KS M u (fun u => (InQ w u w.heap.size os (8) q8 k8 L8 ∧ InQ w u w.heap.size os (8) q9 k9 L9) ∧ CmdsQ Wg u q4 k4 got)) ∧ Ext No w u) ?_ ?_
  · refine c_seq ?_
    refine c_region (wl_p I_ok rfl (wl_nil (f_then (c_block ?_))))
    refine c_loopK (α := Nat × Int × List CmdX × Option Addr × Nat) [1, 2, 7, 8, 11, 12, 69, 70] rfl (fun z => [(13, .int .i64 z.2.1), (15, .slice z.2.2.2.1 z.2.2.1.length z.2.2.2.2), (71, .int .i64 (z.1 : Int))]) (fun z u => ((z.1 ≤ L9.length ∧ WantI (L9.map Prod.fst) cl sq z.1 z.2.1 (z.2.2.1.map CmdX.c) ∧ z.2.2.1.length = z.1 ∧ ∀ y, OwnB z.2.2.2.1 y → M ≤ y) ∧ CmdsQ Wg u z.2.2.2.1 z.2.2.2.2 z.2.2.1 ∧ KS M u (fun u => (InQ w u w.heap.size os (8) q8 k8 L8 ∧ InQ w u w.heap.size os (8) q9 k9 L9) ∧ CmdsQ Wg u q4 k4 got)) ∧ Ext No w u) (fun z u => L9.length - z.1) (0, z, [], none, 0) rfl ⟨⟨⟨Nat.zero_le _, by dsimp only; rw [hz, ← hn9]; split; exact .inl ⟨by assumption, rfl⟩; exact .inr ⟨by omega, .inl ⟨rfl, fun _ h => absurd h (Nat.not_lt_zero _), rfl⟩⟩, rfl, noOwn⟩, CmdsQ.nil _ _, hIK⟩, hX⟩ ?_
    rintro ⟨j, no, want, q5, k5⟩ w16 ⟨⟨⟨hj, hWa, hwl, hwN⟩, hWt, hIK⟩, hX⟩
    try dsimp only
    dsimp only at hj hWa hwl hwN hWt
    refine c_seq (c_region (wl_p I_ok rfl (wl_nil (f_then (c_seq (c_if rfl (fun hc => ?_) (fun hc => ?_)))))))
    · have hj2 : j < L9.length := by omega
      obtain ⟨ob, oo, hp1, hos⟩ := hIK.now.1.2.own.sl.rowAll (objX_len hIns9) (by omega)
      have hoi1 := hIns9 _ (List.getElem_mem hj2)
      have hgd := getD_fst hj2
      refine wc_put 69 rfl (v' := .slice (some ⟨ob, oo, none⟩) L9.length k9) (by rw [hp1]) (c_skip (f_then (c_seq (c_block (c_seq (c_region (wl_p I_ok rfl (wl (st_ix I_ok rfl 73 rfl j rfl hj2 (oo + j * 73) rfl ?_)))))))))
      refine wl (st_ldN I_ok rfl (hos j hj2) (objC_len hoi1) ?_)
      have hRhIK := hIK.n
      have hW0 := hWt
      refine wl (st_al I_ok rfl fun b17 w17 hn17 hb17 hE17 => ?_)
      have fr17 := Nat.le_trans hX.size hn17
      have hIK := hIK.no hE17
      have hX := hX.thenNo hE17
      have fhIK17 := Nat.le_trans hRhIK hn17
      have hEa17 := hE17
      have hn17o := hn17
      refine wl_p I_ok rfl (wl (st_stW (l' := objX L9[j]) I_ok hb17 rfl rfl (objC_len hoi1) (by rw [objC_len hoi1]; rfl) OneC.h fun w18 hb17 hE18 hs18 => ?_))
      have hIK := hIK.one hE18 fhIK17
      have hWt := hW0.new hEa17 hE18 hn17o
      have hX := hX.thenNew hE18 fr17
      refine wl_nil (f_then (c_seq (c_seq (c_region (wl_p I_ok rfl (wl_nil (f_then (c_if rfl (fun hc => ?_) (fun hc => ?_)))))))))
      · have hno : no ≠ 0 := hc
        refine c_exit ?_
        exact f_thenE (f_blockE' rfl (f_thenE (f_thenE (f_blockE (f_cut (no, want, q5, k5) rfl ⟨⟨hWa.stop hno, hWt, hIK⟩, hX⟩)))))
      · have hno : no = 0 := Decidable.not_not.1 hc
        refine c_skip (f_then (c_seq (c_region (wl (st_ldB I_ok hb17 rfl (objC_len hoi1) (wl_p I_ok rfl ?_))))))
        have hfit : sq + L9.length ≤ 4294967296 := by
          rcases hWa with ⟨_, h⟩ | ⟨h, _⟩
          · rw [hno] at h; cases h
          · rw [← hn9]; exact h
        rw [add_u32 (by omega)]
        refine wl (st_call Tryz.call25 rfl rfl rfl rfl rfl rfl (put18_calls w18 hoi1 (hIK.now.1.2.new _ (List.getElem_mem hj2)).l (hsh9 _ (List.getElem_mem hj2)) cl (sq + j)) fun v19 w19 hr19 => ?_)
        obtain ⟨qp, kp, rfl, hA, hAn, hE19⟩ := hr19
        have hIK := hIK.no hE19
        have hWt := hWt.no hE19
        have hX := hX.thenNo hE19
        rw [← hgd] at hA ⊢
        refine wl_p I_ok rfl ?_
        have hRhIK := hIK.n
        have hW0 := hWt
        have hA0 := hA
        refine wl (st_al I_ok rfl fun b18 w20 hn18 hb18 hE20 => ?_)
        have fr18 := Nat.le_trans hX.size hn18
        have hIK := hIK.no hE20
        have hA := hA.no hE20
        have hX := hX.thenNo hE20
        have fhIK18 := Nat.le_trans hRhIK hn18
        have hEa18 := hE20
        have hn18o := hn18
        have hb18o := hb18
        refine wl (st_stW (l' := cmdC (putUC ((L9.map Prod.fst).getD j objZ) cl (sq + j)) qp kp) I_ok hb18 rfl rfl rfl rfl OneC.h fun w21 hb18 hE21 hs21 => ?_)
        have hIK := hIK.one hE21 fhIK18
        have hWt := hW0.new hEa18 hE21 hn18o
        have hA := hA.one hE21 hb18o (by decide)
        have hX := hX.thenNew hE21 fr18
        refine wl_p I_ok rfl (wl_nil (f_then (c_region (wl_p I_ok rfl (wl (st_ldB I_ok hb18 rfl rfl ?_))))))
        refine wl (st_bs I_ok rfl 69 rfl cmdZ_c rfl (by decide) (by decide) ⟨⟨by rw [cellsOf_agg]; rfl, by decide⟩, trivial⟩ (l' := cmdC (putUC ((L9.map Prod.fst).getD j objZ) cl (sq + j)) qp kp) one_cmd fun b90 w22 hn90 hb90 hE22 hs22 => ?_)
        have hIK := hIK.no hE22
        have hWt := hWt.no hE22
        have hA := hA.no hE22
        have hX := hX.thenNo hE22
        have hX0 := hX
        have hKr := hIK.n
        have hs90 : Sl w22 (some ⟨b90, 0, none⟩) 1 69 (cmdC (putUC ((L9.map Prod.fst).getD j objZ) cl (sq + j)) qp kp) := ⟨rfl, .inr ⟨b90, 0, rfl, hb90.seg⟩⟩
        have hWgs : Wg.heap.size ≤ w22.heap.size   := Nat.le_trans hMg hIK.n
        refine wl (st_app I_ok rfl 69 128 rfl rfl rfl (by decide) hWt.own (Src.slice (m := 1) hs90 OneC.h) (by dsimp only; dsimp only [maxLen]; omega) (by dsimp only; omega) fun p23 c23 w23 ho23 hE23 hB23 => ?_)
        dsimp only at ho23 hE23 hB23 ⊢
        have hX := hX0.trans hE23 fun z hz hF => by have := hWt.nw z hF; omega
        have hIK := hIK.ext hE23 fun x _ e => hwN x e
        have hwN2 : ∀ y, OwnB p23 y → M ≤ y := fun y hy => (hB23 y hy).elim (hwN y) fun e => Nat.le_trans hKr e
        have hW2 := hWt.snoc (x := ⟨(putUC ((L9.map Prod.fst).getD j objZ) cl (sq + j)), qp, kp⟩) hA hE23 ho23 hB23 hWgs
        rw [show want.length + 1 = (want ++ [(⟨(putUC ((L9.map Prod.fst).getD j objZ) cl (sq + j)), qp, kp⟩ : CmdX)]).length from by rw [List.length_append]; rfl]
        refine wl_p I_ok rfl (wl_nil (f_blockN (f_then (c_region (wl_p I_ok rfl ?_)))))
        rw [IntWalk.i64_in _ (by omega)]
        refine wl_nil (fin_put 69 rfl (v' := .slice q9 L9.length k9) (by rw [hp1]) ?_)
        exact f_round (j + 1, (putUE ((L9.map Prod.fst).getD j objZ) cl (sq + j)), want ++ [(⟨(putUC ((L9.map Prod.fst).getD j objZ) cl (sq + j)), qp, kp⟩ : CmdX)], p23, c23) rfl ⟨⟨⟨hj2, (by rw [List.map_append]; rw [hno] at hWa; exact hWa.go (by rw [hn9]; exact hj2)), (by rw [List.length_append, hwl]; rfl), hwN2⟩, hW2, hIK⟩, hX⟩ (by first | omega | (dsimp only; omega))
    · have hjn : j = L9.length := by omega
      refine c_exit ?_
      exact f_thenE (f_thenE (f_blockE (f_cut (no, want, q5, k5) rfl ⟨⟨(by rw [hn9, ← hjn]; exact hWa), hWt, hIK⟩, hX⟩)))
  rintro ⟨no, want, q5, k5⟩ w24 ⟨⟨hWa, hWt, hIK⟩, hX⟩
  try dsimp only
  dsimp only at hWa hWt
  have hIK := hIK.add (fun u hE => hWt.no hE)
  obtain ⟨M2, hM2⟩ : ∃ N, N = w24.heap.size := ⟨_, rfl⟩
  rw [← hM2] at hIK
  refine c_seq (c_seq (c_region (wl_p I_ok rfl (wl_nil (f_then (c_block ?_))))))
  refine c_loopK (α := Nat) [1, 2, 7, 11, 12, 13, 15, 94, 95] rfl (fun z => [(96, .int .i64 (z : Int))]) (fun z u => (z ≤ L9.length ∧ KS M2 u (fun u => ((InQ w u w.heap.size os (8) q8 k8 L8 ∧ InQ w u w.heap.size os (8) q9 k9 L9) ∧ CmdsQ Wg u q4 k4 got) ∧ CmdsQ Wg u q5 k5 want)) ∧ Ext No w u) (fun z u => L9.length - z) (0) rfl ⟨⟨Nat.zero_le _, hIK⟩, hX⟩ ?_
  rintro j w25 ⟨⟨hj, hIK⟩, hX⟩
  refine c_seq (c_region (wl_p I_ok rfl (wl_nil (f_then (c_seq (c_if rfl (fun hc => ?_) (fun hc => ?_)))))))
  · have hj2 : j < L9.length := by omega
    have hj8 : j < L8.length := by omega
    obtain ⟨ob, oo, hp1, hos⟩ := hIK.now.1.1.2.own.sl.rowAll (objX_len hIns9) (by omega)
    obtain ⟨ib, io, hp2, _⟩ := hIK.now.1.1.1.own.sl.rowAll (objX_len hIns8) (by omega)
    have hoi1 := hIns9 _ (List.getElem_mem hj2)
    have hoi8 := hIns8 _ (List.getElem_mem hj8)
    have hfe := fst_get hsm hj2 hj8
    refine wc_put 94 rfl (v' := .slice (some ⟨ob, oo, none⟩) L9.length k9) (by rw [hp1]) (wc_put 7 rfl (v' := .slice (some ⟨ib, io, none⟩) L8.length k8) (by rw [hp2]) (c_skip (f_then (c_seq (c_block (c_seq (c_region (wl_p I_ok rfl ?_))))))))
    refine wl (st_ix I_ok rfl 73 rfl j rfl hj2 (oo + j * 73) rfl (wl (st_ldN I_ok rfl (hos j hj2) (objC_len hoi1) ?_)))
    have hRhIK := hIK.n
    refine wl (st_al I_ok rfl fun b21 w26 hn21 hb21 hE26 => ?_)
    have fr21 := Nat.le_trans hX.size hn21
    have hIK := hIK.no hE26
    have hX := hX.thenNo hE26
    have fhIK21 := Nat.le_trans hRhIK hn21
    refine wl_p I_ok rfl (wl (st_stW (l' := objX L9[j]) I_ok hb21 rfl rfl (objC_len hoi1) (by rw [objC_len hoi1]; rfl) OneC.h fun w27 hb21 hE27 hs27 => ?_))
    have hIK := hIK.one hE27 fhIK21
    have hX := hX.thenNew hE27 fr21
    refine wl_nil (f_then (c_seq (c_region (wl_p I_ok rfl (wl (st_ix I_ok rfl 73 rfl j rfl hj8 (io + j * 73) rfl (wl (st_ldN I_ok rfl (in_at hIK.now.1.1.1 hIns8 hp2 hj8) (objC_len hoi8) (wl_p I_ok rfl ?_)))))))))
    refine wl (st_call Tryz.call26 rfl rfl rfl rfl rfl rfl (put_calls w27 hoi8 (hIK.now.1.1.1.ls _ (List.getElem_mem hj8)) (hsh8 _ (List.getElem_mem hj8)) cl sq) fun v28 w28 hr28 => ?_)
    obtain ⟨qp, kp, rfl, hA, hAn, hE28⟩ := hr28
    have hb21 := hb21.extNo hE28
    have hIK := hIK.no hE28
    have hX := hX.thenNo hE28
    rw [← hfe] at hA ⊢
    refine wl_p I_ok rfl ?_
    have hRhIK := hIK.n
    have hA0 := hA
    refine wl (st_al I_ok rfl fun b22 w29 hn22 hb22 hE29 => ?_)
    have ne21_22 : b21 ≠ b22 := Nat.ne_of_lt (Nat.lt_of_lt_of_le hb21.lt hn22)
    have fr22 := Nat.le_trans hX.size hn22
    have hb21 := hb21.extNo hE29
    have hIK := hIK.no hE29
    have hA := hA.no hE29
    have hX := hX.thenNo hE29
    have fhIK22 := Nat.le_trans hRhIK hn22
    have hb22o := hb22
    refine wl (st_stW (l' := cmdC (putUC L9[j].1 cl sq) qp kp) I_ok hb22 rfl rfl rfl rfl OneC.h fun w30 hb22 hE30 hs30 => ?_)
    have hb21 := hb21.ext1 hE30 ne21_22
    have hIK := hIK.one hE30 fhIK22
    have hA := hA.one hE30 hb22o (by decide)
    have hX := hX.thenNew hE30 fr22
    refine wl_p I_ok rfl (wl_nil (f_then (c_seq (c_region (wl (st_ldB I_ok hb21 rfl (objC_len hoi1) (wl_p I_ok rfl ?_)))))))
    refine wl (st_call Tryz.call25 rfl rfl rfl rfl rfl rfl (put18_calls w30 hoi1 (hIK.now.1.1.2.ls _ (List.getElem_mem hj2)) (hsh9 _ (List.getElem_mem hj2)) cl sq) fun v31 w31 hr31 => ?_)
    obtain ⟨qr, kr, rfl, hA2, hAn2, hE31⟩ := hr31
    have hb21 := hb21.extNo hE31
    have hb22 := hb22.extNo hE31
    have hIK := hIK.no hE31
    have hA := hA.no hE31
    have hX := hX.thenNo hE31
    refine wl_p I_ok rfl ?_
    have hRhIK := hIK.n
    refine wl (st_al I_ok rfl fun b24 w32 hn24 hb24 hE32 => ?_)
    have ne21_24 : b21 ≠ b24 := Nat.ne_of_lt (Nat.lt_of_lt_of_le hb21.lt hn24)
    have ne22_24 : b22 ≠ b24 := Nat.ne_of_lt (Nat.lt_of_lt_of_le hb22.lt hn24)
    have fr24 := Nat.le_trans hX.size hn24
    have hb21 := hb21.extNo hE32
    have hb22 := hb22.extNo hE32
    have hIK := hIK.no hE32
    have hA := hA.no hE32
    have hA2 := hA2.no hE32
    have hX := hX.thenNo hE32
    have fhIK24 := Nat.le_trans hRhIK hn24
    have hb24o := hb24
    refine wl (st_stW (l' := cmdC (putUC L9[j].1 cl sq) qr kr) I_ok hb24 rfl rfl rfl rfl OneC.h fun w33 hb24 hE33 hs33 => ?_)
    have hb21 := hb21.ext1 hE33 ne21_24
    have hb22 := hb22.ext1 hE33 ne22_24
    have hIK := hIK.one hE33 fhIK24
    have hA := hA.one hE33 hb24o (by decide)
    have hA2 := hA2.one hE33 hb24o (by decide)
    have hX := hX.thenNew hE33 fr24
    refine wl_p I_ok rfl (wl_nil (f_then ?_))
    refine c_cutK (α := Bool) [1, 2, 7, 11, 12, 13, 15, 94, 95, 96] rfl (fun z => [(135, .bool z)]) (fun z u => (z = false ∧ KS M2 u (fun u => ((InQ w u w.heap.size os (8) q8 k8 L8 ∧ InQ w u w.heap.size os (8) q9 k9 L9) ∧ CmdsQ Wg u q4 k4 got) ∧ CmdsQ Wg u q5 k5 want)) ∧ Ext No w u) ?_ ?_
    · refine c_draw rfl 18 [(0, true), (1, true), (2, true), (3, true), (4, true), (5, true), (6, false), (7, true), (8, true), (9, true), (10, true), (11, true), (12, true), (13, true), (14, true), (15, false), (16, true), (17, true)] [] (No) (by kernel_rfl) fun w34 hE34 hs34 => ?_
      have hd21 := hb21
      have hd22 := hb22
      have hd24 := hb24
      have hIKd := hIK
      have hIK := hIK.no hE34
      have hA := hA.no hE34
      have hA2 := hA2.no hE34
      have hX := hX.thenNo hE34
      have hC : Ext (No) _ w34 := hE34.no
      have hs8 := in_at hIKd.now.1.1.1 hIns8 hp2 hj8
      refine wd_k I_ok 4 rfl (wd_caseD 121 rfl (fun hg => ?_) (fun hg => ?_))
      · exact absurd rfl hg
      · refine wd_ldN I_ok rfl rfl (fun w' hw' => ((hd22.extNo hw').seg)) rfl ?_
        refine wd_ldN I_ok rfl rfl (fun w' hw' => ((hd24.extNo hw').seg)) rfl ?_
        refine wd_l rfl (st_call Tryz.call27 rfl rfl rfl rfl rfl rfl (sameCmd_calls w34 hA.sl hA2.sl (by have := putU_len (x := L9[j].1) (cl := cl) (sq := sq); omega)) fun v35 w35 hr35 => ⟨(by obtain ⟨rfl, hE35⟩ := hr35; exact hC.thenNo hE35), ?_⟩)
        obtain ⟨rfl, hE35⟩ := hr35
        have hIK := hIK.no hE35
        have hX := hX.thenNo hE35
        have hC := hC.thenNo hE35
        rw [show decide ((putUC L9[j].1 cl sq) = (putUC L9[j].1 cl sq)) = true from decide_eq_true rfl]
        refine wd_k I_ok 3 rfl (wd_case 127 rfl (fun hg => ?_) (fun hg => ?_))
        · exact absurd hg (by decide)
        · refine wd_k I_ok 2 rfl ?_
          refine wd_ix I_ok rfl rfl 73 rfl j rfl hj8 (io + j * 73) rfl (wd_ldN I_ok rfl rfl (fun w' hw' => (hs8.extNo hw')) (objC_len hoi8) ?_)
          refine wd_ldN I_ok rfl rfl (fun w' hw' => ((hd21.extNo hw').seg)) (objC_len hoi1) ?_
          refine wd_l rfl (st_call Tryz.call15 rfl rfl rfl rfl rfl rfl (same6_calls w35 hoi8 hoi1 (hIK.now.1.1.1.ls _ (List.getElem_mem hj8)) (hIK.now.1.1.2.ls _ (List.getElem_mem hj2)) (hsh8 _ (List.getElem_mem hj8))) fun v36 w36 hr36 => ⟨(by obtain ⟨rfl, hE36⟩ := hr36; exact hC.thenNo hE36), ?_⟩)
          obtain ⟨rfl, hE36⟩ := hr36
          have hIK := hIK.no hE36
          have hX := hX.thenNo hE36
          rw [show decide (L8[j].1 = L9[j].1) = true from decide_eq_true hfe.symm]
          refine wd_k I_ok 2 rfl (wd_sw (wb_nil ?_))
          exact f_cut (false) rfl ⟨⟨rfl, hIK⟩, hX⟩
    rintro z w37 ⟨⟨rfl, hIK⟩, hX⟩
    refine c_condF rfl (c_skip (f_blockN (f_then (c_region (wl_p I_ok rfl ?_)))))
    rw [IntWalk.i64_in _ (by omega)]
    refine wl_nil (fin_put 94 rfl (v' := .slice q9 L9.length k9) (by rw [hp1]) (fin_put 7 rfl (v' := .slice q8 L8.length k8) (by rw [hp2]) ?_))
    exact f_round (j + 1) rfl ⟨⟨hj2, hIK⟩, hX⟩ (by first | omega | (dsimp only; omega))
  · have hjn : j = L9.length := by omega
    refine c_exit (f_thenE (f_thenE (f_blockE (f_then (c_seq (c_seq (c_region (wl_p I_ok rfl (wl_nil (f_then (c_if rfl (fun hc => ?_) (fun hc => ?_))))))))))))
    · have hno : no ≠ 0 := hc
      refine c_cutK (α := Bool) [] rfl (fun z => [(6, .bool z)]) (fun z u => u = w25 ∧ z = true) ?_ ?_
      · refine c_region ?_
        refine wl_p I_ok rfl (wl_caseD 142 rfl (fun hg => ?_) (fun hg => ?_))
        · refine wl_pk I_ok 5 rfl ?_
          refine wl_nil ?_
          exact f_cut (_) rfl ⟨rfl, decide_eq_true (by have e := (puts_no hR hWa hno).2; rw [List.map_eq_nil_iff] at e; rw [e]; rfl)⟩
        · exact absurd (puts_no hR hWa hno).1 hg
      rintro z w38 ⟨hu, rfl⟩
      have hu := hu.symm
      subst hu
      refine c_ret (f_thenR (f_ret1 rfl rfl ?_))
      exact ⟨rfl, hX⟩
    · have hno : no = 0 := Decidable.not_not.1 hc
      subst hno
      have hpk := puts_ok hR hWa
      have hgl : got.length = want.length := by have := congrArg List.length hpk.2; rw [List.length_map, List.length_map] at this; exact this
      have hwl8 : want.length ≤ 8 := by have := want_count hWa; rw [List.length_map, hn9] at this; omega
      refine c_skip (f_then (c_seq (c_cutK (α := Bool) [11, 15] rfl (fun z => [(155, .bool z)]) (fun z u => u = w25 ∧ z = false) ?_ ?_)))
      · refine c_region ?_
        refine wl_p I_ok rfl (wl_caseD 149 rfl (fun hg => ?_) (fun hg => ?_))
        · exact absurd hpk.1 hg
        · refine wl_pk I_ok 6 rfl ?_
          refine wl_nil ?_
          exact f_cut (_) rfl ⟨rfl, decide_eq_false (fun e => e (by rw [hgl]))⟩
      rintro z w39 ⟨hu, rfl⟩
      have hu := hu.symm
      subst hu
      refine c_condF rfl (c_skip (f_then (c_seq (c_seq (c_region (wl_p I_ok rfl (wl_nil (f_then (c_block ?_)))))))))
      refine c_loopK (α := Nat) [11, 15, 157] rfl (fun z => [(158, .int .i64 (z : Int))]) (fun z u => (z ≤ got.length ∧ KS M2 u (fun u => ((InQ w u w.heap.size os (8) q8 k8 L8 ∧ InQ w u w.heap.size os (8) q9 k9 L9) ∧ CmdsQ Wg u q4 k4 got) ∧ CmdsQ Wg u q5 k5 want)) ∧ Ext No w u) (fun z u => got.length - z) (0) rfl ⟨⟨Nat.zero_le _, hIK⟩, hX⟩ ?_
      rintro v w40 ⟨⟨hv, hIK⟩, hX⟩
      refine c_seq (c_region (wl_p I_ok rfl (wl_nil (f_then (c_seq (c_if rfl (fun hc => ?_) (fun hc => ?_)))))))
      · have hv2 : v < got.length := by omega
        have hv3 : v < want.length := by omega
        obtain ⟨gb, go, hp1, _⟩ := hIK.now.1.2.own.sl.rowAll (fun r _ => cmdX_len r) (by omega)
        obtain ⟨nb, no, hp2, _⟩ := hIK.now.2.own.sl.rowAll (fun r _ => cmdX_len r) (by omega)
        have hce := map_at hpk.2 hv2 hv3
        have hcl := want_len hWa _ (List.mem_map_of_mem (f := CmdX.c) (List.getElem_mem hv3))
        rw [← hce] at hcl
        refine wc_put 11 rfl (v' := .slice (some ⟨gb, go, none⟩) got.length k4) (by rw [hp1]) (wc_put 15 rfl (v' := .slice (some ⟨nb, no, none⟩) want.length k5) (by rw [hp2]) (c_skip (f_then (c_seq (c_block (c_seq (c_region (wl_p I_ok rfl ?_))))))))
        refine wl_nil (f_then (c_seq (c_draw rfl 10 [(0, true), (1, true), (2, true), (3, true), (4, true), (5, true), (6, true), (7, true), (8, false), (9, true)] [] (No) (by kernel_rfl) fun w41 hE41 hs41 => ?_)))
        have hIKd := hIK
        have hIK := hIK.no hE41
        have hX := hX.thenNo hE41
        have hC : Ext (No) _ w41 := hE41.no
        have hsg := cmd_at hIKd.now.1.2 hp1 hv2
        have hsw := cmd_at hIKd.now.2 hp2 hv3
        refine wd_k I_ok 2 rfl (wd_ix I_ok rfl rfl 69 rfl v rfl hv2 (go + v * 69) rfl (wd_ldN I_ok rfl rfl (fun w' hw' => (hsg.extNo hw')) (cmdX_len _) ?_))
        refine wd_k I_ok 2 rfl (wd_ix I_ok rfl rfl 69 rfl v rfl hv3 (no + v * 69) rfl (wd_ldN I_ok rfl rfl (fun w' hw' => (hsw.extNo hw')) (cmdX_len _) ?_))
        refine wd_l rfl (st_call Tryz.call27 rfl rfl rfl rfl rfl rfl (sameCmd_calls w41 (hIK.now.1.2.at_ _ (List.getElem_mem hv2)).sl (hIK.now.2.at_ _ (List.getElem_mem hv3)).sl (by omega)) fun v42 w42 hr42 => ⟨(by obtain ⟨rfl, hE42⟩ := hr42; exact hC.thenNo hE42), ?_⟩)
        obtain ⟨rfl, hE42⟩ := hr42
        have hIK := hIK.no hE42
        have hX := hX.thenNo hE42
        rw [show decide ((got[v]).c = (want[v]).c) = true from decide_eq_true hce]
        refine wd_k I_ok 1 rfl (wd_sw (wb_nil (f_then (c_condF rfl (c_skip (f_blockN (f_then (c_region (wl_p I_ok rfl ?_)))))))))
        rw [IntWalk.i64_in _ (by omega)]
        refine wl_nil (fin_put 11 rfl (v' := .slice q4 got.length k4) (by rw [hp1]) (fin_put 15 rfl (v' := .slice q5 want.length k5) (by rw [hp2]) ?_))
        exact f_round (v + 1) rfl ⟨⟨hv2, hIK⟩, hX⟩ (by first | omega | (dsimp only; omega))
      · refine c_exit ?_
        refine f_thenE (f_thenE (f_blockE (f_then (c_seq (c_region (wl_p I_ok rfl (wl_nil (f_then (c_ret (f_ret1 rfl rfl ?_))))))))))
        exact ⟨rfl, hX⟩
end Go.Proofs.YtpcdihkcenfgkaaGreat
namespace Go.Proofs.YtpcdihkcenfgkaaGreat
open Go.Vc Go.ChangeShapes Go.WideShapes Go.ChangeAt Go.RowKit
theorem own : ownKnob Tryz.prog.godebug = none := by kernel_rfl

set_option maxRecDepth 100000 in
theorem puts_lifted (os : Os) (started : os.Started) (H : Type) (enc : TypeId × Value → H) :
    ReturnsInHanded {} Tryz.checked os 6 .any (Rows.uploadPutsSpec.pre6 enc Tryz.prog Tryz.f6 Rows.uploadPutsRow.domain false) (Rows.uploadPutsSpec.post enc Tryz.prog Tryz.f6 false true false false) := by
  refine returnsInHanded_of_change (C := Tryz.checked) own started (by kernel_rfl) Tryz.func6
    (ChangeSpec.witness6 (enc := enc) (C := Tryz.checked) false ⟨#[], #[.slice none 0 0, .int .i64 0, .int .u32 0], []⟩ 40 (by kernel_rfl) (by kernel_rfl) (by kernel_rfl) (by kernel_rfl)) ?_
  intro W base args ds gs before hval0 hW hcnd _
  have hval : ∀ (j : Nat) t v, Tryz.f6.params[j]? = some t → args[j]? = some v → Value.okWide Tryz.prog W .any base t v := hval0
  have hW' := hW
  obtain ⟨p, q, hA0, hV, rfl, hfz, hnd⟩ := hW
  have hA : DataW.TrodAll enc Tryz.prog W 0 (fun _ => true) true Tryz.f6.params.toList args.toList ds p := hA0
  rw [Tryz.params6] at hA hval
  obtain ⟨v0, vs0, d0, ds0, p0, q0, hargs, rfl, rfl, h0, r0⟩ := trodAll_cons hA
  obtain ⟨v1, vs1, d1, ds1, p1, q1, rfl, rfl, rfl, h1, r1⟩ := trodAll_cons r0
  obtain ⟨v2, vs2, d2, ds2, p2, q2, rfl, rfl, rfl, h2, r2⟩ := trodAll_cons r1
  obtain ⟨rfl, rfl, rfl⟩ := trodAll_nil r2
  obtain rfl : args = #[v0, v1, v2] := by cases args; simp_all
  obtain ⟨rfl, rfl⟩ := trodVars_none hV
  have w0 := hval 0 38 v0 rfl rfl
  have w1 := hval 1 3 v1 rfl rfl
  have w2 := hval 2 46 v2 rfl rfl
  obtain ⟨k0, h0⟩ := h0
  obtain ⟨k1, h1⟩ := h1
  obtain ⟨k2, h2⟩ := h2
  obtain ⟨a0, len0, cap0, rfl⟩ := okWide_slice Tryz.underlying38 w0
  obtain ⟨po, os, co, e0, g1, g2, hs, hsi, _⟩ := open_list (cells := objX) (ok := fun x : ObjX => ObjArg W x.1 x.2) Tryz.underlying38 (by kernel_rfl : Tryz.prog.cellsOf 48 = 73) (by decide) (fun h => by obtain ⟨o, a, e, h⟩ := open_obj h; exact ⟨(o, a), e, h⟩) h0
  obtain ⟨cl, e1, hcl⟩ := open_int h1
  obtain ⟨sq, e2, hsq⟩ := open_u32 h2
  obtain ⟨n1, rfl⟩ := okWide_int Tryz.underlying3 w1
  obtain ⟨n2, rfl⟩ := okWide_int Tryz.underlying46 w2
  simp only [Value.cells, intC, List.cons.injEq, and_true, Value.slice.injEq, Value.int.injEq, true_and] at e0 e1 e2
  obtain ⟨rfl, rfl, rfl⟩ := e0
  subst e1
  subst e2
  clear hA0 hval0
  simp only [List.append_nil] at hW'
  refine Calls.mono (uploadPuts_calls W hs hsi (ml_lt (Nat.le_trans g1 g2)) n1 sq hsq) fun e W' he => ?_
  cases e with
  | returned v =>
    obtain ⟨rfl, hE⟩ : v = .bool true ∧ Ext No W W' := he
    refine ⟨_, rfl, post_true (by kernel_rfl) (by kernel_rfl) (by kernel_rfl) hW' rfl (by kernel_rfl) (by kernel_rfl) Tryz.underlying4 rfl rfl rfl hE⟩
  | panicked _ => exact he.elim
  | outgrown => exact he.elim
theorem puts_holds : Rows.UploadPutsSaid :=
  OpenClaim.holds_of_wide 6 Tryz.f6 rfl rfl rfl rfl rfl rfl rfl ⟨rfl, rfl, rfl, rfl, rfl⟩ rfl rfl rfl rfl rfl (by kernel_rfl) Tryz.func6 (by kernel_rfl)
    (of_decide_eq_true (by kernel_rfl)) (by unfold Func.isWrapper; first | (rw [if_pos (by decide +kernel)]; kernel_rfl) | (rw [if_neg (by decide +kernel)]; exact ⟨rfl, rfl⟩))
    (fun os started H enc _ => puts_lifted os started H enc)

end Go.Proofs.YtpcdihkcenfgkaaGreat
