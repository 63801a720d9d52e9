/-
  Walks and laws towards: DagPutsCardSaid of package dag, walked
-/
import Derived.Shelf.GgSortFunc.InsertionK
import Derived.Shelf.SlSortCmp.WholeK
import Derived.Shelf.SlSortCmp.NoneTotal
import Derived.Test.YtoapldhadeoeiaaGreatDoorSpE
namespace Go.Proofs.YtoapldhadeoeiaaGreatDoor
open Go.Vc
def heldB (t : Str) : zx8 := ⟨idOf (blobO t), blobO t, noP⟩
def addT (acc : List Str) (r : RowD) : List Str := if r.text ∈ acc then acc else acc ++ [r.text]
/-- a map's texts, each once -/
def refT (l : List RowD) : List Str := l.foldl addT []
theorem refT_take {l : List RowD} {i : Nat} (h : i < l.length) : refT (l.take (i + 1)) = addT (refT (l.take i)) l[i] := by
 rw [List.take_succ_eq_append_getElem h, refT, List.foldl_append]; rfl
theorem refT_len (l : List RowD) : (refT l).length ≤ l.length := by
 have : ∀ (l : List RowD) (acc : List Str), (l.foldl addT acc).length ≤ acc.length + l.length := by
  intro l
  induction l with
  | nil => intro acc; simp
  | cons r l ih =>
   intro acc
   have h1 := ih (addT acc r)
   have h2 : (addT acc r).length ≤ acc.length + 1 := by unfold addT; split <;> simp
   rw [List.foldl_cons, List.length_cons]
   omega
 simpa [refT] using this l []
theorem heldB_in (t : Str) : (zv0 (heldB t)).length = 105 := heldC_len (zj9 _) (blobO_in _)
theorem heldBs {l : List Str} : ∀ h ∈ l.map heldB, (zv0 h).length = 105 := fun h hh => by obtain ⟨t, _, rfl⟩ := List.mem_map.1 hh; exact heldB_in t
/-- a map's parts, as the document has them -/
def refP (l : List RowD) (a : ObjP) : List zx8 := (refT l).map heldB ++ [⟨idOf (treeOf l), treeOf l, a⟩]
theorem mem_step {α : Type} [DecidableEq α] {l : List α} {j : Nat} (h : j < l.length) {x : α} : x ∈ l.take (j + 1) ↔ x ∈ l.take j ∨ l[j] = x := by
 rw [List.take_succ_eq_append_getElem h, List.mem_append, List.mem_singleton]
 exact ⟨fun h => h.imp id Eq.symm, fun h => h.imp id Eq.symm⟩
theorem parts6_calls (w : World) {p : Option Addr} {c : Nat} {rows : List RowD} (hrows : RowsOk rows) (hs : Sl w p rows.length 2 (rows.flatMap RowD.cells)) :
  zz1 Tryz.prog 23 [.agg #[.slice p rows.length c]] w fun v w' => ∃ q k lp lc, (ObjOk (treeOf rows) → v = .slice q (refP rows (lfP lp lc)).length k ∧ Own w' q (refP rows (lfP lp lc)).length k 52 105 ((refP rows (lfP lp lc)).flatMap zv0)) ∧ (¬ ObjOk (treeOf rows) → v = .slice none 0 0) ∧
   (∀ x, OwnB q x → w.heap.size ≤ x) ∧ Own w' lp (leavesOf rows).length lc 84 33 ((leavesOf rows).flatMap zj6.cells) ∧ (∀ x, OwnB lp x → w.heap.size ≤ x) ∧ Ext No w w' := by
 have hr32 := rows_at hrows
 have hll : (leavesOf rows).length = rows.length := by rw [leavesOf, List.length_map]
 refine zq9 Tryz.func23 rfl rfl rfl rfl ?_
 have hX := Ext.refl No w
 refine zq5 (zq0 (wl (zj0 I_ok rfl fun b1 w1 hn1 hb1 hE1 => ?_)))
 have hX := hX.zq4 hE1
 have hb1 : Blk w1 b1 64 ([.slice p rows.length c]) := hb1
 refine wl_p I_ok rfl (zq2 (zq1 (zq5 (zq0 (wl_p I_ok rfl (zq2 (zq1 (zq5 (zq0 (wl (st_bd I_ok rfl ⟨⟨rfl, by decide⟩, trivial⟩ (l' := objC (treeO []) noP) (by rw [← objZ_c]; rfl) ?_)))))))))))
 refine wl (zj0 I_ok rfl fun b4 w2 hn4 hb4 hE2 => ?_)
 have ne1_4 : b1 ≠ b4 := Nat.ne_of_lt (Nat.lt_of_lt_of_le hb1.lt hn4)
 have fr4 := Nat.le_trans hX.size hn4
 have hb1 := hb1.zq3 hE2
 have hX := hX.zq4 hE2
 have hb4o := hb4
 refine wl (zj5 (l' := objC (treeO []) noP) I_ok hb4 rfl rfl rfl rfl OneC.h fun w3 hb4 hE3 hs3 => ?_)
 have hb1 := hb1.ext1 hE3 ne1_4
 have hX := hX.zx1 hE3 fr4
 refine zq2 (zq1 (zq5 (zq5 (zq0 (wl_p I_ok rfl (wl (st_ldb I_ok hb1 rfl rfl (wl_p I_ok rfl (zq2 (zq1 (zx4 ?_)))))))))))
 refine zv1 (α := Nat × (Option Addr × Nat) × (Option Addr × Nat)) [4, 14, 15] rfl (fun z => [(3, .slice z.2.1.1 (refT (rows.take z.1)).length z.2.1.2), (16, .int .i64 (z.1 : Int))]) (fun z u => (z.1 ≤ rows.length ∧ Own u z.2.1.1 (refT (rows.take z.1)).length z.2.1.2 52 105 (((refT (rows.take z.1)).map heldB).flatMap zv0) ∧ (∀ x, OwnB z.2.1.1 x → w.heap.size ≤ x) ∧ Own u z.2.2.1 ((leavesOf rows).take z.1).length z.2.2.2 84 33 (((leavesOf rows).take z.1).flatMap zj6.cells) ∧ (∀ x, OwnB z.2.2.1 x → w.heap.size ≤ x)) ∧ Blk u b1 64 ([.slice p rows.length c]) ∧ Blk u b4 43 (objC (treeO ((leavesOf rows).take z.1)) (lfP z.2.2.1 z.2.2.2)) ∧ Ext No w u) (fun z u => rows.length - z.1) (0, (none, 0), (none, 0)) rfl ⟨⟨Nat.zero_le _, Own.nil _ _ _, noOwn, Own.nil _ _ _, noOwn⟩, hb1, hb4, hX⟩ ?_
 rintro ⟨i, ⟨q, k⟩, ⟨lp, lc⟩⟩ w4 ⟨⟨hi, hq, hqn, hlf, hlfn⟩, hb1, hb4, hX⟩
 try dsimp only
 dsimp only at hi hq hqn hlf hlfn
 refine zq5 (zq0 (wl_p I_ok rfl (zq2 (zq1 (zq5 (c_if rfl (fun hc => ?_) (fun hc => ?_)))))))
 ·have hi : i < rows.length := by omega
  obtain ⟨qb, qoff, hp, hsq⟩ := hs.rowAll (fun r _ => r.len) (by omega)
  rw [hp] at hb1 ⊢
  have hri := hr32.2 _ (List.getElem_mem hi)
  have htl : ((leavesOf rows).take i).length = i := by rw [List.length_take, hll]; omega
  have hacl : (refT (rows.take i)).length ≤ i := Nat.le_trans (refT_len _) (by rw [List.length_take]; omega)
  refine zx7 (zq1 (zq5 (zx4 (zq5 (zq0 (wl (st_ix I_ok rfl 2 rfl i rfl (by omega) (qoff + i * 2) rfl (wl (st_ldN I_ok rfl ((hsq i hi).zq3 hX) rfl (wl (zj0 I_ok rfl fun b6 w5 hn6 hb6 hE5 => ?_)))))))))))
  have ne1_6 : b1 ≠ b6 := Nat.ne_of_lt (Nat.lt_of_lt_of_le hb1.lt hn6)
  have ne4_6 : b4 ≠ b6 := Nat.ne_of_lt (Nat.lt_of_lt_of_le hb4.lt hn6)
  have fr6 := Nat.le_trans hX.size hn6
  have hb1 := hb1.zq3 hE5
  have hb4 := hb4.zq3 hE5
  have hq := hq.ext hE5 fun _ _ => id
  have hlf := hlf.ext hE5 fun _ _ => id
  have hX := hX.zq4 hE5
  skip
  have hb6o := hb6
  refine wl (zj5 (l' := (rows[i]).cells) I_ok hb6 rfl rfl rfl rfl OneC.h fun w6 hb6 hE6 hs6 => ?_)
  have hb1 := hb1.ext1 hE6 ne1_6
  have hb4 := hb4.ext1 hE6 ne4_6
  have hq := hq.zx9 hE6 hb6o (by decide)
  have hlf := hlf.zx9 hE6 hb6o (by decide)
  have hX := hX.zx1 hE6 fr6
  refine zq2 (zq1 (zq5 (zq0 (wl_p I_ok rfl (wl (st_ldb I_ok hb6 rfl rfl (wl (st_bd I_ok rfl ⟨⟨rfl, by decide⟩, ⟨rfl, by decide⟩, trivial⟩ (l' := objC (blobO (rows[i]).text) noP) (by rw [← objZ_c]; rfl) ?_))))))))
  refine wl (zj0 I_ok rfl fun b7 w7 hn7 hb7 hE7 => ?_)
  have ne1_7 : b1 ≠ b7 := Nat.ne_of_lt (Nat.lt_of_lt_of_le hb1.lt hn7)
  have ne4_7 : b4 ≠ b7 := Nat.ne_of_lt (Nat.lt_of_lt_of_le hb4.lt hn7)
  have ne6_7 : b6 ≠ b7 := Nat.ne_of_lt (Nat.lt_of_lt_of_le hb6.lt hn7)
  have fr7 := Nat.le_trans hX.size hn7
  have hb1 := hb1.zq3 hE7
  have hb4 := hb4.zq3 hE7
  have hb6 := hb6.zq3 hE7
  have hq := hq.ext hE7 fun _ _ => id
  have hlf := hlf.ext hE7 fun _ _ => id
  have hX := hX.zq4 hE7
  have hb7o := hb7
  refine wl (zj5 (l' := objC (blobO (rows[i]).text) noP) I_ok hb7 rfl rfl rfl rfl OneC.h fun w8 hb7 hE8 hs8 => ?_)
  have hb1 := hb1.ext1 hE8 ne1_7
  have hb4 := hb4.ext1 hE8 ne4_7
  have hb6 := hb6.ext1 hE8 ne6_7
  have hq := hq.zx9 hE8 hb7o (by decide)
  have hlf := hlf.zx9 hE8 hb7o (by decide)
  have hX := hX.zx1 hE8 fr7
  refine zq2 (zq1 (zq5 (zq0 (wl (zj4 I_ok hb7 rfl rfl (wl (zx2 Tryz.call25 rfl rfl rfl rfl rfl rfl (id6_calls w8 (blobO_in _) (blob_l _ _) (bytes_of (blob_ok hri.2).1)) fun v9 w9 hr9 => ?_)))))))
  obtain ⟨rfl, hE9⟩ := hr9
  have hb1 := hb1.zq3 hE9
  have hb4 := hb4.zq3 hE9
  have hb6 := hb6.zq3 hE9
  have hb7 := hb7.zq3 hE9
  have hq := hq.ext hE9 fun _ _ => id
  have hlf := hlf.ext hE9 fun _ _ => id
  have hX := hX.zq4 hE9
  refine wl (zj0 I_ok rfl fun b8 w10 hn8 hb8 hE10 => ?_)
  have ne1_8 : b1 ≠ b8 := Nat.ne_of_lt (Nat.lt_of_lt_of_le hb1.lt hn8)
  have ne4_8 : b4 ≠ b8 := Nat.ne_of_lt (Nat.lt_of_lt_of_le hb4.lt hn8)
  have ne6_8 : b6 ≠ b8 := Nat.ne_of_lt (Nat.lt_of_lt_of_le hb6.lt hn8)
  have ne7_8 : b7 ≠ b8 := Nat.ne_of_lt (Nat.lt_of_lt_of_le hb7.lt hn8)
  have fr8 := Nat.le_trans hX.size hn8
  have hb1 := hb1.zq3 hE10
  have hb4 := hb4.zq3 hE10
  have hb6 := hb6.zq3 hE10
  have hb7 := hb7.zq3 hE10
  have hq := hq.ext hE10 fun _ _ => id
  have hlf := hlf.ext hE10 fun _ _ => id
  have hX := hX.zq4 hE10
  have hb8o := hb8
  refine wl (zj5 (l' := zq6 (idOf (blobO (rows[i]).text))) I_ok hb8 rfl rfl (by rw [zq7, zj9]) (by rw [zq7, zj9]; rfl) OneC.h fun w11 hb8 hE11 hs11 => ?_)
  have hb1 := hb1.ext1 hE11 ne1_8
  have hb4 := hb4.ext1 hE11 ne4_8
  have hb6 := hb6.ext1 hE11 ne6_8
  have hb7 := hb7.ext1 hE11 ne7_8
  have hq := hq.zx9 hE11 hb8o (by decide)
  have hlf := hlf.zx9 hE11 hb8o (by decide)
  have hX := hX.zx1 hE11 fr8
  refine zq2 (zq1 (zq5 (zq0 (wl_p I_ok rfl (zq2 (zq1 (zq5 (zq5 (zq0 (wl_p I_ok rfl (zq2 (zq1 (zx4 ?_)))))))))))))
  refine zv1 (α := Nat) [3, 4, 6, 7, 8, 14, 15, 16, 25, 26] rfl (fun z => [(9, .bool (decide ((rows[i]).text ∈ (refT (rows.take i)).take z))), (27, .int .i64 (z : Int))]) (fun z u => (z ≤ (refT (rows.take i)).length ∧ Own u q (refT (rows.take i)).length k 52 105 (((refT (rows.take i)).map heldB).flatMap zv0) ∧ Own u lp ((leavesOf rows).take i).length lc 84 33 (((leavesOf rows).take i).flatMap zj6.cells)) ∧ Blk u b1 64 ([.slice (some ⟨qb, qoff, none⟩) rows.length c]) ∧ Blk u b4 43 (objC (treeO ((leavesOf rows).take i)) (lfP lp lc)) ∧ Blk u b6 61 ((rows[i]).cells) ∧ Blk u b7 43 (objC (blobO (rows[i]).text) noP) ∧ Blk u b8 37 (zq6 (idOf (blobO (rows[i]).text))) ∧ Ext No w u) (fun z u => (refT (rows.take i)).length - z) (0) rfl ⟨⟨Nat.zero_le _, hq, hlf⟩, hb1, hb4, hb6, hb7, hb8, hX⟩ ?_
  rintro j w12 ⟨⟨hj, hq, hlf⟩, hb1, hb4, hb6, hb7, hb8, hX⟩
  refine zq5 (zq0 (wl_p I_ok rfl (zq2 (zq1 (zq5 (c_if rfl (fun hc => ?_) (fun hc => ?_)))))))
  ·have hj : j < (refT (rows.take i)).length := by omega
   have hjm : j < ((refT (rows.take i)).map heldB).length := by rw [List.length_map]; exact hj
   have hqs : Sl w12 q ((refT (rows.take i)).map heldB).length 105 (((refT (rows.take i)).map heldB).flatMap zv0) := by rw [List.length_map]; exact hq.sl
   obtain ⟨hb, hoff, hqe, hsh⟩ := hqs.rowAll heldBs (by omega)
   have hrow := hsh j hjm
   rw [List.getElem_map] at hrow
   rw [hqe] at hq ⊢
   have hq0 := hq
   refine zx7 (zq1 ?_)
   refine c_cutK (α := Bool) [3, 4, 6, 7, 8, 14, 15, 16, 25, 26, 27] rfl (fun z => [(9, .bool z)]) (fun z u => (z = decide ((rows[i]).text ∈ (refT (rows.take i)).take (j + 1)) ∧ Own u (some ⟨hb, hoff, none⟩) (refT (rows.take i)).length k 52 105 (((refT (rows.take i)).map heldB).flatMap zv0) ∧ Own u lp ((leavesOf rows).take i).length lc 84 33 (((leavesOf rows).take i).flatMap zj6.cells)) ∧ Blk u b1 64 ([.slice (some ⟨qb, qoff, none⟩) rows.length c]) ∧ Blk u b4 43 (objC (treeO ((leavesOf rows).take i)) (lfP lp lc)) ∧ Blk u b6 61 ((rows[i]).cells) ∧ Blk u b7 43 (objC (blobO (rows[i]).text) noP) ∧ Blk u b8 37 (zq6 (idOf (blobO (rows[i]).text))) ∧ Ext No w u) ?_ ?_
   ·refine zx4 ?_
    refine zq5 (zq0 (wl (st_ix I_ok rfl 105 rfl j rfl hj (hoff + j * 105) rfl (wl (st_ldN I_ok rfl hrow (heldB_in _) (wl (zj0 I_ok rfl fun b11 w13 hn11 hb11 hE13 => ?_)))))))
    have ne1_11 : b1 ≠ b11 := Nat.ne_of_lt (Nat.lt_of_lt_of_le hb1.lt hn11)
    have ne4_11 : b4 ≠ b11 := Nat.ne_of_lt (Nat.lt_of_lt_of_le hb4.lt hn11)
    have ne6_11 : b6 ≠ b11 := Nat.ne_of_lt (Nat.lt_of_lt_of_le hb6.lt hn11)
    have ne7_11 : b7 ≠ b11 := Nat.ne_of_lt (Nat.lt_of_lt_of_le hb7.lt hn11)
    have ne8_11 : b8 ≠ b11 := Nat.ne_of_lt (Nat.lt_of_lt_of_le hb8.lt hn11)
    have fr11 := Nat.le_trans hX.size hn11
    have hb1 := hb1.zq3 hE13
    have hb4 := hb4.zq3 hE13
    have hb6 := hb6.zq3 hE13
    have hb7 := hb7.zq3 hE13
    have hb8 := hb8.zq3 hE13
    have hq := hq.ext hE13 fun _ _ => id
    have hlf := hlf.ext hE13 fun _ _ => id
    have hX := hX.zq4 hE13
    have ne11 : ∀ x, OwnB _ x → x ≠ b11 := fun x hx => Nat.ne_of_lt (Nat.lt_of_lt_of_le (hq0.lt hx) hn11)
    have hb11o := hb11
    refine wl (zj5 (l' := zv0 (heldB ((refT (rows.take i))[j]))) I_ok hb11 rfl rfl (heldB_in _) (by rw [heldB_in]; rfl) OneC.h fun w14 hb11 hE14 hs14 => ?_)
    have hb1 := hb1.ext1 hE14 ne1_11
    have hb4 := hb4.ext1 hE14 ne4_11
    have hb6 := hb6.ext1 hE14 ne6_11
    have hb7 := hb7.ext1 hE14 ne7_11
    have hb8 := hb8.ext1 hE14 ne8_11
    have hq := hq.ext hE14 (fun x hx => ne11 x hx)
    have hlf := hlf.zx9 hE14 hb11o (by decide)
    have hX := hX.zx1 hE14 fr11
    refine zq2 (zq1 (zq0 (wl_p I_ok rfl (zj3 32 rfl (fun hg => ?_) (fun hg => ?_)))))
    ·refine zz6 I_ok 12 rfl ?_
     refine zq2 ?_
     exact zx6 (zz5 (true) rfl ⟨⟨(decide_eq_true ((mem_step hj).2 (.inl hg))).symm, hq, hlf⟩, hb1, hb4, hb6, hb7, hb8, hX⟩)
    ·have hg1 := hg
     refine zz6 I_ok 1 rfl (wl (st_ldN I_ok rfl (held_id hb11.seg) (by rw [zq7]; exact zj9 _) (wl (zj4 I_ok hb8 rfl (by rw [zq7, zj9]) ?_))))
     refine wl (st_eqK rfl gId 10 (by decide) kId (idForm (zj9 _)) (idForm (zj9 _)) (idKey (zj9 _)) (idKey (zj9 _)) idLits_inj ?_)
     simp only []
     refine zz6 I_ok 1 rfl (zj3 37 rfl (fun hg => ?_) (fun hg => ?_))
     ·refine zz6 I_ok 1 rfl ?_
      refine wl (st_ldN I_ok rfl (held_obj hb11.seg (zj9 _)) (zq8 (blobO_in _)) (wl (zj4 I_ok hb7 rfl rfl ?_)))
      refine wl (zx2 Tryz.call14 rfl rfl rfl rfl rfl rfl (same6_calls w14 (blobO_in _) (blobO_in _) (blob_l _ _) (blob_l _ _) (blob_sh _)) fun v15 w15 hr15 => ?_)
      obtain ⟨rfl, hE15⟩ := hr15
      have hb1 := hb1.zq3 hE15
      have hb4 := hb4.zq3 hE15
      have hb6 := hb6.zq3 hE15
      have hb7 := hb7.zq3 hE15
      have hb8 := hb8.zq3 hE15
      have hq := hq.ext hE15 fun _ _ => id
      have hlf := hlf.ext hE15 fun _ _ => id
      have hX := hX.zq4 hE15
      refine zz6 I_ok 3 rfl (zq2 ?_)
      exact zx6 (zz5 (_) rfl ⟨⟨by rw [decide_eq_decide, mem_step hj]; exact ⟨fun h => .inr (congrArg ObjD.text h), fun h => h.elim (fun h => absurd h hg1) fun h => congrArg blobO h⟩, hq, hlf⟩, hb1, hb4, hb6, hb7, hb8, hX⟩)
     ·refine zz6 I_ok 7 rfl ?_
      refine zq2 ?_
      exact zx6 (zz5 (false) rfl ⟨⟨(decide_eq_false (fun h => ((mem_step hj).1 h).elim (fun h => hg1 h) fun h => hg (by rw [h]; rfl))).symm, hq, hlf⟩, hb1, hb4, hb6, hb7, hb8, hX⟩)
   rintro z w16 ⟨⟨rfl, hq, hlf⟩, hb1, hb4, hb6, hb7, hb8, hX⟩
   refine zq0 (wl_p I_ok rfl ?_)
   rw [IntWalk.i64_in _ (by omega)]
   refine zq2 ?_
   exact zj7 (j + 1) rfl ⟨⟨hj, hq, hlf⟩, hb1, hb4, hb6, hb7, hb8, hX⟩ (by first | omega | (dsimp only; omega))
  ·have hja : (refT (rows.take i)).take j = (refT (rows.take i)) := List.take_of_length_le (by omega)
   rw [hja]
   refine c_exit (zx3 (zx3 (zz2 (zq1 ?_))))
   refine c_cutK (α := Option Addr × Nat) [4, 6, 8, 14, 15, 16] rfl (fun z => [(3, .slice z.1 (refT (rows.take (i + 1))).length z.2)]) (fun z u => (Own u z.1 (refT (rows.take (i + 1))).length z.2 52 105 (((refT (rows.take (i + 1))).map heldB).flatMap zv0) ∧ (∀ x, OwnB z.1 x → w.heap.size ≤ x) ∧ Own u lp ((leavesOf rows).take i).length lc 84 33 (((leavesOf rows).take i).flatMap zj6.cells)) ∧ Blk u b1 64 ([.slice (some ⟨qb, qoff, none⟩) rows.length c]) ∧ Blk u b4 43 (objC (treeO ((leavesOf rows).take i)) (lfP lp lc)) ∧ Blk u b6 61 ((rows[i]).cells) ∧ Blk u b8 37 (zq6 (idOf (blobO (rows[i]).text))) ∧ Ext No w u) ?_ ?_
   ·refine zq5 ?_
    refine zq0 (wl_p I_ok rfl (zq2 (zq1 (c_cond rfl (fun hc => ?_) (fun hc => ?_)))))
    ·have hnm : ¬ (rows[i]).text ∈ (refT (rows.take i)) := by simpa using hc
     have eA : (refT (rows.take (i + 1))) = (refT (rows.take i)) ++ [(rows[i]).text] := by rw [refT_take hi, addT, if_neg hnm]
     refine zq0 (wl_p I_ok rfl (wl (zj4 I_ok hb8 rfl (by rw [zq7, zj9]) (wl (zj4 I_ok hb7 rfl rfl ?_)))))
     refine wl (st_bd I_ok rfl ⟨⟨by rw [zz3, zq7, zj9 _], by decide⟩, ⟨by rw [zz3]; exact zq8 (blobO_in _), by decide⟩, trivial⟩ (l' := zv0 ⟨idOf (blobO (rows[i]).text), blobO (rows[i]).text, noP⟩) (by rw [heldZ_c]; exact held_build (zj9 _) (blobO_in _)) ?_)
     refine wl (st_bs I_ok rfl 105 rfl heldZ_c (by rw [List.length_append, zq7, zq8 objZ_in]; rfl) (by decide) (by decide) ⟨⟨by rw [zz3]; exact heldB_in _, by decide⟩, trivial⟩ (l' := zv0 (heldB (rows[i]).text)) (one_held (heldB_in _)) fun b51 w17 hn51 hb51 hE17 hs17 => ?_)
     have hb1 := hb1.zq3 hE17
     have hb4 := hb4.zq3 hE17
     have hb6 := hb6.zq3 hE17
     have hb8 := hb8.zq3 hE17
     have hq := hq.ext hE17 fun _ _ => id
     have hlf := hlf.ext hE17 fun _ _ => id
     have hX := hX.zq4 hE17
     have hX1 := hX
     refine wl (zj8 I_ok rfl 105 224 rfl rfl rfl (by decide) hq (Src.slice (m := 1) ⟨heldB_in _, .inr ⟨b51, 0, rfl, hb51.seg⟩⟩ OneC.h) (by dsimp only [maxLen]; omega) (by dsimp only; omega) fun p18 c18 w18 ho18 hE18 hB18 => ?_)
     dsimp only at ho18 hE18 hB18 ⊢
     have hX := hX1.trans hE18 fun y hy hF => by have := hqn y hF; omega
     have hb1 := hb1.zx0 hq hE18 (by decide)
     have hb4 := hb4.zx0 hq hE18 (by decide)
     have hb6 := hb6.zx0 hq hE18 (by decide)
     have hb8 := hb8.zx0 hq hE18 (by decide)
     have hlf := hlf.ext hE18 (fun x hx hx2 => by obtain ⟨L1, h1⟩ := hlf.blkAt hx; obtain ⟨L2, h2⟩ := hq.blkAt hx2; exact absurd (h1.uniq h2).2 (by decide))
     have hsz1 := hX1.size
     obtain ⟨q2, k2, e1, e2, hq2⟩ : ∃ q2 k2, q2 = p18 ∧ k2 = c18 ∧ Own w18 q2 (refT (rows.take (i + 1))).length k2 52 105 (((refT (rows.take (i + 1))).map heldB).flatMap zv0) := ⟨_, _, rfl, rfl, by
      rw [eA, List.map_append, List.flatMap_append, List.length_append]
      simpa using ho18⟩
     rw [← e1] at hB18
     rw [← e1, ← e2, show (refT (rows.take i)).length + 1 = (refT (rows.take (i + 1))).length from by rw [eA, List.length_append]; rfl]
     have hqn2 : (∀ x, OwnB q2 x → w.heap.size ≤ x) := fun x hx => (hB18 x hx).elim (fun h => hqn x h) fun h => by omega
     refine wl_p I_ok rfl (zq2 ?_)
     exact zz5 (q2, k2) rfl ⟨⟨hq2, hqn2, hlf⟩, hb1, hb4, hb6, hb8, hX⟩
    ·have hnm : (rows[i]).text ∈ (refT (rows.take i)) := by simpa using hc
     have eA : (refT (rows.take (i + 1))) = (refT (rows.take i)) := by rw [refT_take hi, addT, if_pos hnm]
     rw [← eA] at hq ⊢
     refine zx7 ?_
     exact zz5 (q, k) rfl ⟨⟨hq, hqn, hlf⟩, hb1, hb4, hb6, hb8, hX⟩
   rintro ⟨q2, k2⟩ w19 ⟨⟨hq, hqn2, hlf⟩, hb1, hb4, hb6, hb8, hX⟩
   try dsimp only
   dsimp only at hq hqn2 hlf
   refine zq0 (wl_p I_ok rfl (wl (st_ldb I_ok hb4 rfl rfl (wl_p I_ok rfl (wl (st_ldb I_ok hb6 rfl rfl (wl (zj4 I_ok hb8 rfl (by rw [zq7, zj9]) ?_))))))))
   refine wl (st_bd I_ok rfl ⟨⟨rfl, by decide⟩, ⟨by rw [zz3, zq7, zj9], by decide⟩, trivial⟩ (l' := (leafOf rows[i]).cells) (by rw [leafZ_c]; exact leaf_build (zj9 _)) ?_)
   refine wl (st_bs I_ok rfl 33 rfl leafZ_c (zj6.len rfl) (by decide) (by decide) ⟨⟨by rw [zz3]; exact (zj6.len (zj9 _)), by decide⟩, trivial⟩ (l' := (leafOf rows[i]).cells) (one_leaf (zj9 _)) fun b59 w20 hn59 hb59 hE20 hs20 => ?_)
   have hb1 := hb1.zq3 hE20
   have hb4 := hb4.zq3 hE20
   have hq := hq.ext hE20 fun _ _ => id
   have hlf := hlf.ext hE20 fun _ _ => id
   have hX := hX.zq4 hE20
   have hX1 := hX
   refine wl (zj8 I_ok rfl 33 48 rfl rfl rfl (by decide) hlf (Src.slice (m := 1) ⟨zj6.len (zj9 _), .inr ⟨b59, 0, rfl, hb59.seg⟩⟩ OneC.h) (by dsimp only [maxLen]; omega) (by dsimp only; omega) fun p21 c21 w21 ho21 hE21 hB21 => ?_)
   dsimp only at ho21 hE21 hB21 ⊢
   have hX := hX1.trans hE21 fun y hy hF => by have := hlfn y hF; omega
   have hb1 := hb1.zx0 hlf hE21 (by decide)
   have hb4 := hb4.zx0 hlf hE21 (by decide)
   have hq := hq.ext hE21 (fun x hx hx2 => by obtain ⟨L1, h1⟩ := hq.blkAt hx; obtain ⟨L2, h2⟩ := hlf.blkAt hx2; exact absurd (h1.uniq h2).2 (by decide))
   have e3 : ((leavesOf rows).take (i + 1)).length = ((leavesOf rows).take i).length + 1 := by rw [leavesOf_take hi, List.length_append]; rfl
   have hsz1 := hX1.size
   obtain ⟨lp2, lc2, e1, e2, hlf2⟩ : ∃ lp2 lc2, lp2 = p21 ∧ lc2 = c21 ∧ Own w21 lp2 ((leavesOf rows).take (i + 1)).length lc2 84 33 (((leavesOf rows).take (i + 1)).flatMap zj6.cells) := ⟨_, _, rfl, rfl, by
    rw [e3, leavesOf_take hi, List.flatMap_append]
    simpa using ho21⟩
   rw [← e1] at hB21
   rw [← e1, ← e2]
   have hlfn2 : ∀ x, OwnB lp2 x → w.heap.size ≤ x := fun x hx => (hB21 x hx).elim (fun h => hlfn x h) fun h => by omega
   refine wl_p I_ok rfl ?_
   have hb4o := hb4
   refine wl (st_st I_ok hb4 rfl rfl rfl fun w22 hb4 hE22 hs22 => ?_)
   have hb1 := hb1.ext1 hE22 ne1_4
   have hq := hq.zx9 hE22 hb4o (by decide)
   have hlf2 := hlf2.zx9 hE22 hb4o (by decide)
   have hX := hX.zx1 hE22 fr4
   have hb4 : Blk w22 b4 43 (objC (treeO ((leavesOf rows).take (i + 1))) (lfP lp2 lc2)) := (by
    have e : objC (treeO ((leavesOf rows).take (i + 1))) (lfP lp2 lc2) = (objC (treeO ((leavesOf rows).take i)) (lfP lp lc)).set 2 (.slice lp2 (((leavesOf rows).take i).length + 1) lc2) := by simp only [objC, e3]; rfl
    rw [e]
    exact hb4)
   refine zq2 (zx6 (zq1 (zq0 (wl_p I_ok rfl ?_))))
   rw [IntWalk.i64_in _ (by omega)]
   refine zq2 ?_
   exact zj7 (i + 1, (q2, k2), (lp2, lc2)) rfl ⟨⟨hi, hq, hqn2, hlf2, hlfn2⟩, hb1, hb4, hX⟩ (by first | omega | (dsimp only; omega))
 ·have h0 : i = rows.length := by omega
  subst h0
  have et : (leavesOf rows).take rows.length = leavesOf rows := List.take_of_length_le (by rw [hll]; exact Nat.le_refl _)
  rw [List.take_length] at hq
  rw [et] at hlf hb4
  rw [List.take_length]
  have hacl : (refT rows).length ≤ rows.length := refT_len _
  have hlin := leavesOf_in (l := rows) fun r hr => by have := (hr32.2 r hr).1; have := maxLen_big; omega
  have hsh : Short (treeOf rows) := tree_sh (by omega) (fun r hr => by obtain ⟨y, hy, rfl⟩ := List.mem_map.1 hr; have := (hr32.2 y hy).1; show y.path.length < _; omega)
  have htl : ObjL w4 (treeOf rows) (lfP lp lc) := ⟨hlf.sl, Sl.nil _ _ _, Sl.nil _ _ _⟩
  refine c_exit (zx3 (zx3 (zz2 (zq1 (zq5 (zq5 (zq0 (wl (zj4 I_ok hb4 rfl (zq8 (treeO_in hlin)) ?_)))))))))
  refine wl (zx2 Tryz.call9 rfl rfl rfl rfl rfl rfl (right6_calls w4 (treeO_in hlin) htl hsh) fun v23 w23 hr23 => ?_)
  obtain ⟨rfl, hE23⟩ := hr23
  have hb4 := hb4.zq3 hE23
  have hq := hq.ext hE23 fun _ _ => id
  have hlf := hlf.ext hE23 fun _ _ => id
  have hX := hX.zq4 hE23
  have htl := htl.zq3 hE23
  refine wl_p I_ok rfl (zq2 (zq1 (c_cond rfl (fun hc => ?_) (fun hc => ?_))))
  ·have hok : ¬ ObjOk (treeOf rows) := by simpa using hc
   refine zq5 (zq0 (wl_p I_ok rfl (zq2 (zq1 (zz8 (zx5 (zz0 rfl rfl ?_)))))))
   exact ⟨none, 0, lp, lc, fun h => absurd h hok, fun _ => rfl, noOwn, hlf, hlfn, hX⟩
  ·have hok : ObjOk (treeOf rows) := by simpa using hc
   have hn4q : ¬ OwnB q b4 := fun h => hq.neTy h hb4 (by decide) rfl
   refine zx7 (zq1 (zq5 (c_draw rfl 8 [(0, true), (1, true), (3, true), (2, false), (4, true), (5, false), (6, false), (7, true)] [] (OwnB q) (by kernel_rfl) fun w24 hE24 hs24 => ?_)))
   have hd4 := hb4
   have hq := hq.ext hE24 fun _ _ => id
   have hlf := hlf.ext hE24 fun _ _ => id
   have hX := hX.zq4 hE24
   have hC : Ext (OwnB q) _ w24 := hE24.no
   have htl := htl.zq3 hE24
   refine wd_k I_ok 1 rfl (wd_ldN I_ok rfl rfl (fun w' hw' => ((hd4.ext hw' hn4q).seg)) (zq8 (treeO_in hlin)) ?_)
   refine wd_ldN I_ok rfl rfl (fun w' hw' => ((hd4.ext hw' hn4q).seg)) (zq8 (treeO_in hlin)) ?_
   refine wd_l rfl (zx2 Tryz.call25 rfl rfl rfl rfl rfl rfl (id6_calls w24 (treeO_in hlin) htl (bytes_of hok.1)) fun v25 w25 hr25 => ⟨(by obtain ⟨rfl, hE25⟩ := hr25; exact hC.zq4 hE25), ?_⟩)
   obtain ⟨rfl, hE25⟩ := hr25
   have hq := hq.ext hE25 fun _ _ => id
   have hlf := hlf.ext hE25 fun _ _ => id
   have hX := hX.zq4 hE25
   have hC := hC.zq4 hE25
   refine wd_bd I_ok rfl rfl ⟨⟨by rw [zz3, zq7, zj9 _], by decide⟩, ⟨by rw [zz3]; exact zq8 (treeO_in hlin), by decide⟩, trivial⟩ (l' := zv0 ⟨idOf (treeOf rows), treeOf rows, lfP lp lc⟩) (by rw [heldZ_c]; exact held_build (zj9 _) (treeO_in hlin)) ?_
   refine wd_l rfl (st_bs I_ok rfl 105 rfl heldZ_c (by rw [List.length_append, zq7, zq8 objZ_in]; rfl) (by decide) (by decide) ⟨⟨by rw [zz3]; exact (heldC_len (zj9 _) (treeO_in hlin)), by decide⟩, trivial⟩ (l' := zv0 ⟨idOf (treeOf rows), treeOf rows, lfP lp lc⟩) (one_held (heldC_len (zj9 _) (treeO_in hlin))) fun b71 w26 hn71 hb71 hE26 hs26 => ⟨hC.zq4 hE26, ?_⟩)
   have hq := hq.ext hE26 fun _ _ => id
   have hlf := hlf.ext hE26 fun _ _ => id
   have hX := hX.zq4 hE26
   have hC := hC.zq4 hE26
   have hX1 := hX
   refine wd_l rfl (zj8 I_ok rfl 105 224 rfl rfl rfl (by decide) hq (Src.slice (m := 1) ⟨heldC_len (zj9 _) (treeO_in hlin), .inr ⟨b71, 0, rfl, hb71.seg⟩⟩ OneC.h) (by dsimp only [maxLen]; omega) (by dsimp only; omega) fun p27 c27 w27 ho27 hE27 hB27 => ⟨hC.then hE27, ?_⟩)
   dsimp only at ho27 hE27 hB27 ⊢
   have hX := hX1.trans hE27 fun y hy hF => by have := hqn y hF; omega
   have hlf := hlf.ext hE27 (fun x hx hx2 => by obtain ⟨L1, h1⟩ := hlf.blkAt hx; obtain ⟨L2, h2⟩ := hq.blkAt hx2; exact absurd (h1.uniq h2).2 (by decide))
   have hsz1 := hX1.size
   refine wd_k I_ok 1 rfl (wd_sw (zj2 (zq1 (zz8 (zz0 rfl rfl ?_)))))
   refine ⟨_, _, lp, lc, fun _ => ⟨by rw [show (refP rows (lfP lp lc)).length = (refT rows).length + 1 from by simp [refP]], ?_⟩, fun h => absurd hok h, fun x hx => (hB27 x hx).elim (fun h => hqn x h) fun h => by omega, hlf, hlfn, hX⟩
   rw [refP, List.flatMap_append, List.length_append, List.length_map]
   simpa using ho27
end Go.Proofs.YtoapldhadeoeiaaGreatDoor
namespace Go.Proofs.YtoapldhadeoeiaaGreatDoor
open Go.Vc
/-- a map cut short -/
def cut8 (r : RowD) : RowD := ⟨r.path.take 48, r.text.take 20⟩
def tex8 (l : List RowD) : List RowD := (l.take 4).map cut8
theorem cut_step {l : List RowD} {i : Nat} (h : i < l.length) : (l.take (i + 1)).map cut8 = (l.take i).map cut8 ++ [cut8 l[i]] := by
 rw [List.take_succ_eq_append_getElem h, List.map_append]; rfl
theorem tex8_calls (w : World) {p : Option Addr} {c : Nat} {rows : List RowD} (hs : Sl w p rows.length 2 (rows.flatMap RowD.cells)) (hl : rows.length < 9223372036854775808) :
  zz1 Tryz.prog 21 [.agg #[.slice p rows.length c]] w fun v w' => ∃ q k, v = .agg #[.slice q (tex8 rows).length k] ∧ Own w' q (tex8 rows).length k 61 2 ((tex8 rows).flatMap RowD.cells) ∧ (∀ x, OwnB q x → w.heap.size ≤ x) ∧ Ext No w w' := by
 refine zq9 Tryz.func21 rfl rfl rfl rfl ?_
 have hX := Ext.refl No w
 refine zq5 (zq0 (wl (zj0 I_ok rfl fun b1 w1 hn1 hb1 hE1 => ?_)))
 have hX := hX.zq4 hE1
 have hb1 : Blk w1 b1 64 ([.slice p rows.length c]) := hb1
 refine wl (zj0 I_ok rfl fun b2 w2 hn2 hb2 hE2 => ?_)
 have fr2 := Nat.le_trans hX.size hn2
 have hb1 := hb1.zq3 hE2
 have hX := hX.zq4 hE2
 refine zq2 (zq1 (zq5 (zq0 (wl (zj0 I_ok rfl fun b3 w3 hn3 hb3 hE3 => ?_)))))
 have ne1_3 : b1 ≠ b3 := Nat.ne_of_lt (Nat.lt_of_lt_of_le hb1.lt hn3)
 have ne2_3 : b2 ≠ b3 := Nat.ne_of_lt (Nat.lt_of_lt_of_le hb2.lt hn3)
 have fr3 := Nat.le_trans hX.size hn3
 have hb1 := hb1.zq3 hE3
 have hb2 := hb2.zq3 hE3
 have hX := hX.zq4 hE3
 have hb3 : Blk w3 b3 64 ([.slice none 0 0]) := hb3
 refine zq2 (zq1 ?_)
 refine c_cutK (α := Option Addr × Nat) [2, 3] rfl (fun z => []) (fun z u => (Own u z.1 (tex8 rows).length z.2 61 2 ((tex8 rows).flatMap RowD.cells) ∧ (∀ x, OwnB z.1 x → w.heap.size ≤ x)) ∧ Blk u b1 64 ([.slice p rows.length c]) ∧ Blk u b2 64 (cellsOf ti64.zero) ∧ Blk u b3 64 ([.slice z.1 (tex8 rows).length z.2]) ∧ Ext No w u) ?_ ?_
 ·refine zq5 ?_
  refine zq0 (wl_p I_ok rfl (wl (st_ldb I_ok hb1 rfl rfl (wl_p I_ok rfl (zq2 (zq1 (zx4 ?_)))))))
  refine zv1 (α := Nat × Option Addr × Nat) [2, 3, 7, 8] rfl (fun z => [(9, .int .i64 (z.1 : Int))]) (fun z u => (z.1 ≤ rows.length ∧ z.1 ≤ 4 ∧ Own u z.2.1 ((rows.take z.1).map cut8).length z.2.2 61 2 (((rows.take z.1).map cut8).flatMap RowD.cells) ∧ (∀ x, OwnB z.2.1 x → w.heap.size ≤ x)) ∧ Blk u b1 64 ([.slice p rows.length c]) ∧ Blk u b2 64 (cellsOf ti64.zero) ∧ Blk u b3 64 ([.slice z.2.1 ((rows.take z.1).map cut8).length z.2.2]) ∧ Ext No w u) (fun z u => rows.length - z.1) (0, none, 0) rfl ⟨⟨Nat.zero_le _, Nat.zero_le _, Own.nil _ _ _, noOwn⟩, hb1, hb2, hb3, hX⟩ ?_
  rintro ⟨i, q, k⟩ w4 ⟨⟨hi, hi4, hq, hqn⟩, hb1, hb2, hb3, hX⟩
  try dsimp only
  dsimp only at hi hi4 hq hqn
  refine zq5 (zq0 (wl_p I_ok rfl (zq2 (zq1 (zq5 (c_if rfl (fun hc => ?_) (fun hc => ?_)))))))
  ·have hi : i < rows.length := by omega
   obtain ⟨qb, qoff, hp, hsq⟩ := hs.rowAll (fun r _ => r.len) (by omega)
   rw [hp] at hb1 ⊢
   have hal : ((rows.take i).map cut8).length = i := by simp; omega
   refine zx7 (zq1 (zq5 (zx4 (zq5 (zq0 (wl_p I_ok rfl (wl (st_ix I_ok rfl 2 rfl i rfl (by omega) (qoff + i * 2) rfl (wl (st_ldN I_ok rfl ((hsq i hi).zq3 hX) rfl ?_))))))))))
   have hq0 := hq
   refine wl (zj0 I_ok rfl fun b5 w5 hn5 hb5 hE5 => ?_)
   have ne1_5 : b1 ≠ b5 := Nat.ne_of_lt (Nat.lt_of_lt_of_le hb1.lt hn5)
   have ne2_5 : b2 ≠ b5 := Nat.ne_of_lt (Nat.lt_of_lt_of_le hb2.lt hn5)
   have ne3_5 : b3 ≠ b5 := Nat.ne_of_lt (Nat.lt_of_lt_of_le hb3.lt hn5)
   have fr5 := Nat.le_trans hX.size hn5
   have hb1 := hb1.zq3 hE5
   have hb2 := hb2.zq3 hE5
   have hb3 := hb3.zq3 hE5
   have hq := hq.ext hE5 fun _ _ => id
   have hX := hX.zq4 hE5
   have ne5 : ∀ x, OwnB q x → x ≠ b5 := fun x hx => Nat.ne_of_lt (Nat.lt_of_lt_of_le (hq0.lt hx) hn5)
   refine wl_p I_ok rfl ?_
   refine wl (zj5 (l' := (rows[i]).cells) I_ok hb5 rfl rfl rfl rfl OneC.h fun w6 hb5 hE6 hs6 => ?_)
   have hb1 := hb1.ext1 hE6 ne1_5
   have hb2 := hb2.ext1 hE6 ne2_5
   have hb3 := hb3.ext1 hE6 ne3_5
   have hq := hq.ext hE6 (fun x hx => ne5 x hx)
   have hX := hX.zx1 hE6 fr5
   refine zq2 (zq1 (zq5 (zq5 (zq0 (wl_p I_ok rfl (zq2 (zq1 (c_if rfl (fun hc => ?_) (fun hc => ?_)))))))))
   ·have h4 : i = 4 := by omega
    have eT : (rows.take i).map cut8 = tex8 rows := by rw [h4]; rfl
    rw [eT] at hq hb3
    obtain ⟨qT, kT, hqT, hqnT, e1, e2⟩ : ∃ qT kT, Own w6 qT (tex8 rows).length kT 61 2 ((tex8 rows).flatMap RowD.cells) ∧ (∀ x, OwnB qT x → w.heap.size ≤ x) ∧ q = qT ∧ k = kT := ⟨q, k, hq, hqn, rfl, rfl⟩
    rw [e1, e2] at hb3
    refine c_exit ?_
    exact zx3 (f_blockE' rfl (zx3 (zx3 (zz2 (zz5 (qT, kT) rfl ⟨⟨hqT, hqnT⟩, hb1, hb2, hb3, hX⟩)))))
   ·have h4 : i < 4 := by omega
    refine zx7 (zq1 (zq5 ?_))
    refine c_drawL I_ok rfl [] 15 [11, 12, 13] [(0, true), (1, true), (2, true), (3, true), (4, true), (5, true), (6, true), (7, true), (8, true), (9, true), (10, true), (14, true)] [29, 30, 31, 15, 16, 17] (No) (by kernel_rfl) rfl fun w7 hE7 hs7 => ?_
    have hd5 := hb5
    have hb1 := hb1.zq3 hE7
    have hb2 := hb2.zq3 hE7
    have hb3 := hb3.zq3 hE7
    have hb5 := hb5.zq3 hE7
    have hq := hq.ext hE7 fun _ _ => id
    have hX := hX.zq4 hE7
    refine wd_k I_ok 1 rfl (zv2 I_ok rfl rfl (fun w' hw' => (hd5.zq3 hw').cell rfl) ?_)
    refine wd_k I_ok 1 rfl (zv2 I_ok rfl rfl (fun w' hw' => (hd5.zq3 hw').cell rfl) ?_)
    refine wd_k I_ok 2 rfl (wd_ss I_ok rfl rfl 0 (min _ 48) (cutBds _ _) ?_)
    rw [strU_cut]
    refine wd_k I_ok 1 rfl (zv2 I_ok rfl rfl (fun w' hw' => (hd5.zq3 hw').cell rfl) ?_)
    refine wd_k I_ok 1 rfl (zv2 I_ok rfl rfl (fun w' hw' => (hd5.zq3 hw').cell rfl) ?_)
    refine wd_k I_ok 1 rfl (wd_sw (wbf I_ok (i := 11) rfl rfl rfl rfl rfl (by kernel_rfl) (wbf I_ok (i := 12) rfl rfl rfl rfl rfl (by kernel_rfl) (wb_ss I_ok (i := 13) rfl rfl rfl 0 (min _ 20) (cutBds _ _) (by kernel_rfl) ?_))))
    rw [strU_cut]
    refine wb rfl (st_st I_ok hb5 rfl rfl rfl fun w8 hb5 hE8 hs8 => ?_)
    have hb1 := hb1.ext1 hE8 ne1_5
    have hb2 := hb2.ext1 hE8 ne2_5
    have hb3 := hb3.ext1 hE8 ne3_5
    have hq := hq.ext hE8 (fun x hx => ne5 x hx)
    have hX := hX.zx1 hE8 fr5
    have hb5 : Blk w8 b5 61 ([strV ((rows[i]).path.take 48), strV (rows[i]).text]) := hb5
    refine wb rfl (st_p I_ok rfl rfl rfl ?_)
    refine wb rfl (st_st I_ok hb5 rfl rfl rfl fun w9 hb5 hE9 hs9 => ?_)
    have hb1 := hb1.ext1 hE9 ne1_5
    have hb2 := hb2.ext1 hE9 ne2_5
    have hb3 := hb3.ext1 hE9 ne3_5
    have hq := hq.ext hE9 (fun x hx => ne5 x hx)
    have hX := hX.zx1 hE9 fr5
    have hb5 : Blk w9 b5 61 ((cut8 rows[i]).cells) := hb5
    refine zj2 (zq1 (zq0 (wl_p I_ok rfl (wl (st_ldb I_ok hb3 rfl rfl (wl (zj4 I_ok hb5 rfl rfl ?_)))))))
    refine wl (st_bs I_ok rfl 2 rfl rowZ_c rfl (by decide) (by decide) ⟨⟨rfl, by decide⟩, trivial⟩ (l' := (cut8 rows[i]).cells) rfl fun b35 w10 hn35 hb35 hE10 hs10 => ?_)
    have hb1 := hb1.zq3 hE10
    have hb2 := hb2.zq3 hE10
    have hb3 := hb3.zq3 hE10
    have hq := hq.ext hE10 fun _ _ => id
    have hX := hX.zq4 hE10
    have hX1 := hX
    refine wl (zj8 I_ok rfl 2 32 rfl rfl rfl (by decide) hq (Src.slice (m := 1) ⟨rfl, .inr ⟨b35, 0, rfl, hb35.seg⟩⟩ OneC.h) (by dsimp only [maxLen]; omega) (by dsimp only; omega) fun p11 c11 w11 ho11 hE11 hB11 => ?_)
    dsimp only at ho11 hE11 hB11 ⊢
    have hX := hX1.trans hE11 fun y hy hF => by have := hqn y hF; omega
    have hb1 := hb1.zx0 hq hE11 (by decide)
    have hb2 := hb2.zx0 hq hE11 (by decide)
    have hb3 := hb3.zx0 hq hE11 (by decide)
    have hsz1 := hX1.size
    obtain ⟨q2, k2, e1, e2, hq2⟩ : ∃ q2 k2, q2 = p11 ∧ k2 = c11 ∧ Own w11 q2 ((rows.take (i + 1)).map cut8).length k2 61 2 (((rows.take (i + 1)).map cut8).flatMap RowD.cells) := ⟨_, _, rfl, rfl, by
     rw [cut_step hi, List.flatMap_append, List.length_append]
     simpa using ho11⟩
    rw [← e1] at hB11
    rw [← e1, ← e2]
    have hqn2 : ∀ x, OwnB q2 x → w.heap.size ≤ x := fun x hx => (hB11 x hx).elim (fun h => hqn x h) fun h => by omega
    refine wl_p I_ok rfl ?_
    have hb3o := hb3
    refine wl (st_st I_ok hb3 rfl rfl rfl fun w12 hb3 hE12 hs12 => ?_)
    have hb1 := hb1.ext1 hE12 ne1_3
    have hb2 := hb2.ext1 hE12 ne2_3
    have hq2 := hq2.zx9 hE12 hb3o (by decide)
    have hX := hX.zx1 hE12 fr3
    have hb3 : Blk w12 b3 64 ([.slice q2 ((rows.take (i + 1)).map cut8).length k2]) := (by
     rw [cut_step hi, List.length_append]
     exact hb3)
    refine zq2 (zx6 (zq1 (zq0 (wl_p I_ok rfl ?_))))
    rw [IntWalk.i64_in _ (by omega)]
    refine zq2 ?_
    exact zj7 (i + 1, q2, k2) rfl ⟨⟨hi, h4, hq2, hqn2⟩, hb1, hb2, hb3, hX⟩ (by first | omega | (dsimp only; omega))
  ·have eT : (rows.take i).map cut8 = tex8 rows := by
    rw [tex8, List.take_of_length_le (by omega), List.take_of_length_le (by omega)]
   rw [eT] at hq hb3
   obtain ⟨qT, kT, hqT, hqnT, e1, e2⟩ : ∃ qT kT, Own w4 qT (tex8 rows).length kT 61 2 ((tex8 rows).flatMap RowD.cells) ∧ (∀ x, OwnB qT x → w.heap.size ≤ x) ∧ q = qT ∧ k = kT := ⟨q, k, hq, hqn, rfl, rfl⟩
   rw [e1, e2] at hb3
   refine c_exit ?_
   exact zx3 (zx3 (zz2 (zz5 (qT, kT) rfl ⟨⟨hqT, hqnT⟩, hb1, hb2, hb3, hX⟩)))
 rintro ⟨q, k⟩ w13 ⟨⟨hq, hqn⟩, hb1, hb2, hb3, hX⟩
 try dsimp only
 dsimp only at hq hqn
 refine zq5 (zq0 (wl (zj4 I_ok hb3 rfl rfl ?_)))
 have hb2o := hb2
 refine wl (zj5 (l' := [.slice q (tex8 rows).length k]) I_ok hb2 rfl rfl rfl rfl OneC.h fun w14 hb2 hE14 hs14 => ?_)
 have hq := hq.zx9 hE14 hb2o (by decide)
 have hX := hX.zx1 hE14 fr2
 refine zq2 (zq1 (zz8 (f_ret [_] ⟨⟨b2, 0, rfl, ld_all I_ok rfl rfl hb2.seg rfl⟩, trivial⟩ ?_)))
 exact ⟨q, k, rfl, hq, hqn, hX⟩
end Go.Proofs.YtoapldhadeoeiaaGreatDoor
namespace Go.Proofs.YtoapldhadeoeiaaGreatDoor
open Go.Vc
abbrev ObjX := ObjD × ObjP
abbrev objX (x : ObjX) : List Value := objC x.1 x.2
instance (x : ObjX) : OneC (objX x) := inferInstanceAs (OneC (objC _ _))
def heldO (x : ObjX) : zx8 := ⟨idOf x.1, x.1, x.2⟩
def putS (acc : List zx8) (x : ObjX) : List zx8 := if idOf x.1 ∈ acc.map zx8.id then acc else acc ++ [heldO x]
/-- a heap with objects behind it -/
def putW (l : List zx8) (xs : List ObjX) : List zx8 := xs.foldl putS l
theorem putW_take {l : List zx8} {xs : List ObjX} {i : Nat} (hi : i < xs.length) : putW l (xs.take (i + 1)) = putS (putW l (xs.take i)) xs[i] := by
 rw [List.take_succ_eq_append_getElem hi, putW, List.foldl_append]; rfl
structure ObjsIn (w : World) (p : Option Addr) (xs : List ObjX) : Prop where
  sl : Sl w p xs.length 73 (xs.flatMap objX)
  o : ∀ x ∈ xs, ObjIn x.1
  sh : ∀ x ∈ xs, Short x.1
  l : ∀ x ∈ xs, ObjL w x.1 x.2
  f : ∀ x ∈ xs, BytesIn x.1
theorem putS_mem {P : zx8 → Prop} {acc : List zx8} {x : ObjX} (h : ∀ y ∈ acc, P y) (hx : P (heldO x)) : ∀ y ∈ putS acc x, P y := fun y hy => by
 unfold putS at hy
 split at hy
 ·exact h y hy
 ·rcases List.mem_append.1 hy with hy | hy
  ·exact h y hy
  ·rw [List.mem_singleton.1 hy]; exact hx
theorem putW_mem {P : zx8 → Prop} : ∀ (xs : List ObjX) {l : List zx8}, (∀ y ∈ l, P y) → (∀ x ∈ xs, P (heldO x)) → ∀ y ∈ putW l xs, P y
 | [], _, h, _ => h
 | x :: xs, l, h, hx => putW_mem xs (l := putS l x) (putS_mem h (hx x List.mem_cons_self)) fun z hz => hx z (List.mem_cons_of_mem _ hz)
theorem putW_len : ∀ (xs : List ObjX) (l : List zx8), (putW l xs).length ≤ l.length + xs.length
 | [], l => Nat.le_refl _
 | x :: xs, l => by
  have := putW_len xs (putS l x)
  have h2 : (putS l x).length ≤ l.length + 1 := by unfold putS; split <;> simp
  rw [List.length_cons]
  show (putW (putS l x) xs).length ≤ _
  omega
theorem putW_lk : ∀ (xs : List ObjX) (l : List zx8), ((putW l xs).flatMap fun e => zz9 e.o).length ≤ (l.flatMap fun e => zz9 e.o).length + (xs.flatMap fun x => zz9 x.1).length
 | [], l => Nat.le_refl _
 | x :: xs, l => by
  have := putW_lk xs (putS l x)
  have h2 : ((putS l x).flatMap fun e => zz9 e.o).length ≤ (l.flatMap fun e => zz9 e.o).length + (zz9 x.1).length := by
   unfold putS
   split
   ·omega
   ·rw [List.flatMap_append, List.length_append, List.flatMap_singleton]; exact Nat.le_refl _
  rw [List.flatMap_cons, List.length_append]
  show ((putW (putS l x) xs).flatMap fun e => zz9 e.o).length ≤ _
  omega
theorem flat_take_le {α β : Type} {f : α → List β} : ∀ (L : List α) (i : Nat), ((L.take i).flatMap f).length ≤ (L.flatMap f).length
 | [], i => by simp
 | a :: L, 0 => by simp
 | a :: L, i + 1 => by
  rw [List.take_succ_cons, List.flatMap_cons, List.flatMap_cons, List.length_append, List.length_append]
  have := flat_take_le (f := f) L i
  omega
theorem HeldIn.objO {w : World} {x : ObjX} (h1 : ObjIn x.1) (h2 : Short x.1) (h3 : ObjL w x.1 x.2) : HeldIn w (heldO x) := ⟨zj9 _, h1, h2, h3⟩
theorem put8_calls (w : World) {p px : Option Addr} {c cx : Nat} {l : List zx8} {xs : List ObjX} (h : HpIn w p l) (hxs : ObjsIn w px xs) (hn : l.length + xs.length < 1000000) (hlk : (l.flatMap fun e => zz9 e.o).length + (xs.flatMap fun x => zz9 x.1).length < 100000) :
  zz1 Tryz.prog 12 [.agg #[.slice p l.length c], .slice px xs.length cx] w fun v w' => ∃ q k, v = .agg #[.slice q (putW l xs).length k] ∧ Own w' q (putW l xs).length k 52 105 ((putW l xs).flatMap zv0) ∧ (∀ y, OwnB q y → w.heap.size ≤ y) ∧ HpIn w' q (putW l xs) ∧ Ext No w w' := by
 have hlen := h.len
 have hins : ∀ i, ∀ y ∈ putW l (xs.take i), HeldIn w y := fun i => putW_mem _ h.ins fun x hx => HeldIn.objO (hxs.o x (List.mem_of_mem_take hx)) (hxs.sh x (List.mem_of_mem_take hx)) (hxs.l x (List.mem_of_mem_take hx))
 refine zq9 Tryz.func12 rfl rfl rfl rfl ?_
 have hX := Ext.refl No w
 refine zq5 (zq0 (wl (zj0 I_ok rfl fun b2 w1 hn2 hb2 hE1 => ?_)))
 have hX := hX.zq4 hE1
 have hb2 : Blk w1 b2 30 ([.slice p l.length c]) := hb2
 refine wl (zj0 I_ok rfl fun b4 w2 hn4 hb4 hE2 => ?_)
 have fr4 := Nat.le_trans hX.size hn4
 have hb2 := hb2.zq3 hE2
 have hX := hX.zq4 hE2
 have hb4 : Blk w2 b4 30 ([.slice none 0 0]) := hb4
 refine zq2 (zq1 (zq5 (zq0 (wl (st_bs I_ok rfl 105 rfl heldZ_c (by rw [List.length_append, zq7, zq8 objZ_in]; rfl) (by decide) (by decide) trivial (l' := []) rfl fun b9 w3 hn9 hb9 hE3 hs3 => ?_)))))
 have fr9 := Nat.le_trans hX.size hn9
 have hb2 := hb2.zq3 hE3
 have hb4 := hb4.zq3 hE3
 have hX := hX.zq4 hE3
 refine wl_p I_ok rfl (wl (st_ldb I_ok hb2 rfl rfl ?_))
 have hX0 := hX
 have hb9o := Own.blk (n := 0) (c := 0) hb9 105 rfl (Nat.le_refl _) (by decide)
 refine wl (zj8 I_ok rfl 105 224 rfl rfl rfl (by decide) (Own.blk (n := 0) (c := 0) hb9 105 rfl (Nat.le_refl _) (by decide)) (Src.slice (h.sl.zq3 hX) OneC.h) (by dsimp only [maxLen]; omega) (by dsimp only; omega) fun p4 c4 w4 ho4 hE4 hB4 => ?_)
 dsimp only at ho4 hE4 hB4 ⊢
 have e9 : ∀ y, OwnB (some ⟨b9, 0, none⟩) y → y = b9 := fun y hy => (congrArg Addr.block (Option.some.inj hy)).symm
 have hX := hX0.trans hE4 fun y hy hF => by have := e9 y hF; omega
 have hb4 := hb4.zx0 hb9o hE4 (by decide)
 obtain ⟨q, k, e1, e2, hq⟩ : ∃ q k, q = p4 ∧ k = c4 ∧ Own w4 q l.length k 52 105 (l.flatMap zv0) := ⟨_, _, rfl, rfl, by have h := ho4; rw [Nat.zero_add] at h; exact h⟩
 have hqn := newW hX0 (newB fr9) hB4
 rw [← e1] at hqn
 rw [← e1, ← e2, Nat.zero_add]
 refine wl (st_bd I_ok rfl ⟨⟨rfl, by decide⟩, trivial⟩ (l' := [.slice q l.length k]) rfl (wl (zj0 I_ok rfl fun b5 w5 hn5 hb5 hE5 => ?_)))
 have ne4_5 : b4 ≠ b5 := Nat.ne_of_lt (Nat.lt_of_lt_of_le hb4.lt hn5)
 have fr5 := Nat.le_trans hX.size hn5
 have hb4 := hb4.zq3 hE5
 have hq := hq.ext hE5 fun _ _ => id
 have hX := hX.zq4 hE5
 have hb5o := hb5
 refine wl (zj5 (l' := [.slice q l.length k]) I_ok hb5 rfl rfl rfl rfl OneC.h fun w6 hb5 hE6 hs6 => ?_)
 have hb4 := hb4.ext1 hE6 ne4_5
 have hq := hq.zx9 hE6 hb5o (by decide)
 have hX := hX.zx1 hE6 fr5
 refine zq2 (zq1 (zq5 (zq5 (zq0 (wl_p I_ok rfl (zq2 (zq1 (zx4 ?_))))))))
 refine zv1 (α := Nat × Option Addr × Nat) [4, 5, 14, 15] rfl (fun z => [(16, .int .i64 (z.1 : Int))]) (fun z u => (z.1 ≤ xs.length ∧ Own u z.2.1 (putW l (xs.take z.1)).length z.2.2 52 105 ((putW l (xs.take z.1)).flatMap zv0) ∧ (∀ y, OwnB z.2.1 y → w.heap.size ≤ y)) ∧ Blk u b4 30 ([.slice none 0 0]) ∧ Blk u b5 30 ([.slice z.2.1 (putW l (xs.take z.1)).length z.2.2]) ∧ Ext No w u) (fun z u => xs.length - z.1) (0, q, k) rfl ⟨⟨Nat.zero_le _, hq, hqn⟩, hb4, hb5, hX⟩ ?_
 rintro ⟨i, q, k⟩ w7 ⟨⟨hi, hq, hqn⟩, hb4, hb5, hX⟩
 try dsimp only
 dsimp only at hi hq hqn
 refine zq5 (zq0 (wl_p I_ok rfl (zq2 (zq1 (zq5 (c_if rfl (fun hc => ?_) (fun hc => ?_)))))))
 ·have hi : i < xs.length := by omega
  obtain ⟨xb, xo, hpx, hsx⟩ := hxs.sl.rowAll (fun r hr => zq8 (hxs.o r hr)) (by omega)
  have hxm := List.getElem_mem hi
  have hoi := hxs.o _ hxm
  have hfo := hxs.f _ hxm
  have hol := hxs.l _ hxm
  have hPl : (putW l (xs.take i)).length ≤ l.length + i := by have := putW_len (xs.take i) l; rw [List.length_take] at this; omega
  have hPn : (putW l (xs.take i)).length < 1000000 := by omega
  have hPk : ((putW l (xs.take i)).flatMap fun e => zz9 e.o).length < 100000 := by
   have k1 := putW_lk (xs.take i) l
   have k2 := flat_take_le (f := fun x : ObjX => zz9 x.1) xs i
   omega
  rw [hpx]
  refine zx7 (zq1 ?_)
  refine c_cutK (α := Option Addr × Nat) [4, 5, 14, 15, 16] rfl (fun z => []) (fun z u => (Own u z.1 (putW l (xs.take (i + 1))).length z.2 52 105 ((putW l (xs.take (i + 1))).flatMap zv0) ∧ (∀ y, OwnB z.1 y → w.heap.size ≤ y)) ∧ Blk u b4 30 ([.slice none 0 0]) ∧ Blk u b5 30 ([.slice z.1 (putW l (xs.take (i + 1))).length z.2]) ∧ Ext No w u) ?_ ?_
  ·refine zx4 ?_
   refine zq5 (zq0 (wl (st_ix I_ok rfl 73 rfl i rfl (by omega) (xo + i * 73) rfl (wl (st_ldN I_ok rfl ((hsx i hi).zq3 hX) (zq8 hoi) (wl (zj0 I_ok rfl fun b7 w8 hn7 hb7 hE8 => ?_)))))))
   have ne4_7 : b4 ≠ b7 := Nat.ne_of_lt (Nat.lt_of_lt_of_le hb4.lt hn7)
   have ne5_7 : b5 ≠ b7 := Nat.ne_of_lt (Nat.lt_of_lt_of_le hb5.lt hn7)
   have fr7 := Nat.le_trans hX.size hn7
   have hb4 := hb4.zq3 hE8
   have hb5 := hb5.zq3 hE8
   have hq := hq.ext hE8 fun _ _ => id
   have hX := hX.zq4 hE8
   have hb7o := hb7
   refine wl (zj5 (l' := objX xs[i]) I_ok hb7 rfl rfl (zq8 hoi) (by rw [zq8 hoi]; rfl) OneC.h fun w9 hb7 hE9 hs9 => ?_)
   have hb4 := hb4.ext1 hE9 ne4_7
   have hb5 := hb5.ext1 hE9 ne5_7
   have hq := hq.zx9 hE9 hb7o (by decide)
   have hX := hX.zx1 hE9 fr7
   refine zq2 (zq1 (zq5 (zq0 (wl (zj4 I_ok hb7 rfl (zq8 hoi) (wl (zx2 Tryz.call25 rfl rfl rfl rfl rfl rfl (id6_calls w9 hoi (hol.zq3 hX) hfo) fun v10 w10 hr10 => ?_)))))))
   obtain ⟨rfl, hE10⟩ := hr10
   have hb4 := hb4.zq3 hE10
   have hb5 := hb5.zq3 hE10
   have hb7 := hb7.zq3 hE10
   have hq := hq.ext hE10 fun _ _ => id
   have hX := hX.zq4 hE10
   refine wl (zj0 I_ok rfl fun b8 w11 hn8 hb8 hE11 => ?_)
   have ne4_8 : b4 ≠ b8 := Nat.ne_of_lt (Nat.lt_of_lt_of_le hb4.lt hn8)
   have ne5_8 : b5 ≠ b8 := Nat.ne_of_lt (Nat.lt_of_lt_of_le hb5.lt hn8)
   have ne7_8 : b7 ≠ b8 := Nat.ne_of_lt (Nat.lt_of_lt_of_le hb7.lt hn8)
   have fr8 := Nat.le_trans hX.size hn8
   have hb4 := hb4.zq3 hE11
   have hb5 := hb5.zq3 hE11
   have hb7 := hb7.zq3 hE11
   have hq := hq.ext hE11 fun _ _ => id
   have hX := hX.zq4 hE11
   have hb8o := hb8
   refine wl (zj5 (l' := zq6 (idOf xs[i].1)) I_ok hb8 rfl rfl (by rw [zq7, zj9]) (by rw [zq7, zj9]; rfl) OneC.h fun w12 hb8 hE12 hs12 => ?_)
   have hb4 := hb4.ext1 hE12 ne4_8
   have hb5 := hb5.ext1 hE12 ne5_8
   have hb7 := hb7.ext1 hE12 ne7_8
   have hq := hq.zx9 hE12 hb8o (by decide)
   have hX := hX.zx1 hE12 fr8
   refine zq2 (zq1 (zq5 (zq0 (wl (zj4 I_ok hb5 rfl rfl (wl (zj4 I_ok hb8 rfl (by rw [zq7, zj9]) ?_)))))))
   refine wl (zx2 Tryz.call33 rfl rfl rfl rfl rfl rfl (there8_calls w12 ⟨hq.sl, fun y hy => (hins i y hy).zq3 hX, hPn, hPk⟩ (zj9 _)) fun v13 w13 hr13 => ?_)
   obtain ⟨rfl, hE13⟩ := hr13
   have hb4 := hb4.zq3 hE13
   have hb5 := hb5.zq3 hE13
   have hb7 := hb7.zq3 hE13
   have hb8 := hb8.zq3 hE13
   have hq := hq.ext hE13 fun _ _ => id
   have hX := hX.zq4 hE13
   refine wl_p I_ok rfl (zq2 (zq1 (c_cond rfl (fun hc => ?_) (fun hc => ?_))))
   ·have hnm : ¬ idOf xs[i].1 ∈ (putW l (xs.take i)).map zx8.id := by simpa using hc
    have eA : (putW l (xs.take (i + 1))) = (putW l (xs.take i)) ++ [heldO xs[i]] := by rw [putW_take hi, putS, if_neg hnm]
    refine zq0 (wl_p I_ok rfl (wl (st_ldb I_ok hb5 rfl rfl (wl (zj4 I_ok hb8 rfl (by rw [zq7, zj9]) (wl (zj4 I_ok hb7 rfl (zq8 hoi) ?_)))))))
    refine wl (st_bd I_ok rfl ⟨⟨by rw [zz3, zq7, zj9 _], by decide⟩, ⟨by rw [zz3]; exact zq8 hoi, by decide⟩, trivial⟩ (l' := zv0 ⟨idOf xs[i].1, xs[i].1, xs[i].2⟩) (by rw [heldZ_c]; exact held_build (zj9 _) hoi) ?_)
    refine wl (st_bs I_ok rfl 105 rfl heldZ_c (by rw [List.length_append, zq7, zq8 objZ_in]; rfl) (by decide) (by decide) ⟨⟨by rw [zz3]; exact heldC_len (h := heldO xs[i]) (zj9 _) hoi, by decide⟩, trivial⟩ (l' := zv0 (heldO xs[i])) (one_held (h := heldO xs[i]) (heldC_len (h := heldO xs[i]) (zj9 _) hoi)) fun b31 w14 hn31 hb31 hE14 hs14 => ?_)
    have hb4 := hb4.zq3 hE14
    have hb5 := hb5.zq3 hE14
    have hq := hq.ext hE14 fun _ _ => id
    have hX := hX.zq4 hE14
    have hX1 := hX
    have hs31 : Sl w14 (some ⟨b31, 0, none⟩) 1 105 (zv0 (heldO xs[i])) := ⟨heldC_len (h := heldO xs[i]) (zj9 _) hoi, .inr ⟨b31, 0, rfl, hb31.seg⟩⟩
    have hr1 : (putW l (xs.take i)).length + 1 ≤ maxLen := room_ml (by omega)
    have hr2 : ((putW l (xs.take i)).length + 1) * 224 ≤ 140737488355328 := by have := hPl; omega
    refine wl (zj8 I_ok rfl 105 224 rfl rfl rfl (by decide) hq (Src.slice (m := 1) hs31 OneC.h) hr1 hr2 fun p15 c15 w15 ho15 hE15 hB15 => ?_)
    dsimp only at ho15 hE15 hB15 ⊢
    have hX := hX1.trans hE15 fun y hy hF => by have := hqn y hF; omega
    have hb4 := hb4.zx0 hq hE15 (by decide)
    have hb5 := hb5.zx0 hq hE15 (by decide)
    have hsz1 := hX1.size
    obtain ⟨q2, k2, e1, e2, hq2⟩ : ∃ q2 k2, q2 = p15 ∧ k2 = c15 ∧ Own w15 q2 (putW l (xs.take (i + 1))).length k2 52 105 ((putW l (xs.take (i + 1))).flatMap zv0) := ⟨_, _, rfl, rfl, by
     rw [eA, List.flatMap_append, List.length_append, List.flatMap_singleton]
     exact ho15⟩
    rw [← e1] at hB15
    rw [← e1, ← e2]
    have hqn2 : (∀ y, OwnB q2 y → w.heap.size ≤ y) := fun x hx => (hB15 x hx).elim (fun h => hqn x h) fun h => by omega
    refine wl_p I_ok rfl ?_
    have hb5o := hb5
    refine wl (st_st I_ok hb5 rfl rfl rfl fun w16 hb5 hE16 hs16 => ?_)
    have hb4 := hb4.ext1 hE16 ne4_5
    have hq2 := hq2.zx9 hE16 hb5o (by decide)
    have hX := hX.zx1 hE16 fr5
    have hb5 : Blk w16 b5 30 ([.slice q2 (putW l (xs.take (i + 1))).length k2]) := (by
     rw [eA, List.length_append]
     exact hb5)
    refine zq2 ?_
    exact zx6 (zz5 (q2, k2) rfl ⟨⟨hq2, hqn2⟩, hb4, hb5, hX⟩)
   ·have hnm : idOf xs[i].1 ∈ (putW l (xs.take i)).map zx8.id := by simpa using hc
    have eA : (putW l (xs.take (i + 1))) = (putW l (xs.take i)) := by rw [putW_take hi, putS, if_pos hnm]
    rw [← eA] at hq hb5
    refine zx7 ?_
    exact zx6 (zz5 (q, k) rfl ⟨⟨hq, hqn⟩, hb4, hb5, hX⟩)
  rintro ⟨q, k⟩ w17 ⟨⟨hq, hqn⟩, hb4, hb5, hX⟩
  try dsimp only
  dsimp only at hq hqn
  refine zq0 (wl_p I_ok rfl ?_)
  rw [IntWalk.i64_in _ (by omega)]
  refine zq2 ?_
  exact zj7 (i + 1, q, k) rfl ⟨⟨hi, hq, hqn⟩, hb4, hb5, hX⟩ (by first | omega | (dsimp only; omega))
 ·have h0 : i = xs.length := by omega
  subst h0
  have hPl := putW_len xs l
  have hPk : ((putW l xs).flatMap fun e => zz9 e.o).length < 100000 := Nat.lt_of_le_of_lt (putW_lk xs l) hlk
  have hii := hins xs.length
  rw [List.take_length] at hq hb5 hii
  refine c_exit (zx3 (zx3 (zz2 (zq1 (zq5 (zq0 (wl (zj4 I_ok hb5 rfl rfl ?_))))))))
  have hb4o := hb4
  refine wl (zj5 (l' := [.slice q (putW l xs).length k]) I_ok hb4 rfl rfl rfl rfl OneC.h fun w18 hb4 hE18 hs18 => ?_)
  have hq := hq.zx9 hE18 hb4o (by decide)
  have hX := hX.zx1 hE18 fr4
  refine zq2 (zq1 (zz8 (f_ret [_] ⟨⟨b4, 0, rfl, ld_all I_ok rfl rfl hb4.seg rfl⟩, trivial⟩ ?_)))
  exact ⟨q, k, rfl, hq, hqn, ⟨hq.sl, fun y hy => (hii y hy).zq3 hX, by omega, hPk⟩, hX⟩
end Go.Proofs.YtoapldhadeoeiaaGreatDoor
namespace Go.Proofs.YtoapldhadeoeiaaGreatDoor
open Go.Vc
theorem own1 {b x : Nat} (h : OwnB (some ⟨b, 0, none⟩) x) : x = b := (congrArg Addr.block (Option.some.inj h)).symm
theorem cloneL_nil (w : World) {c : Nat} :
  zz1 Tryz.prog 48 [.slice none 0 c] w fun v w' => ∃ q k, v = .slice q 0 k ∧ Own w' q 0 k 84 33 [] ∧ (∀ y, OwnB q y → w.heap.size ≤ y) ∧ Ext No w w' := by
 refine zq9 Tryz.func48 rfl rfl rfl rfl ?_
 have hX := Ext.refl No w
 refine zq5 (zq0 (wl_p I_ok rfl (zq2 (zq1 (zq5 (zq5 (zq0 (wl_p I_ok rfl (zq2 (zq1 (c_condT rfl (zq5 (zq0 (wl_p I_ok rfl (zq2 (zq1 (zz8 (zx5 (zz0 rfl rfl ?_)))))))))))))))))))
 exact ⟨none, 0, rfl, Own.nil _ _ _, fun y hy => (by cases hy), hX⟩

theorem cloneL_some (w : World) {a : Addr} {c : Nat} {l : List zj6} (h : Sl w (some a) l.length 33 (l.flatMap zj6.cells)) (hl : l.length < 1000000000) :
  zz1 Tryz.prog 48 [.slice (some a) l.length c] w fun v w' => ∃ q k, v = .slice q l.length k ∧ Own w' q l.length k 84 33 (l.flatMap zj6.cells) ∧ (∀ y, OwnB q y → w.heap.size ≤ y) ∧ Ext No w w' := by
 refine zq9 Tryz.func48 rfl rfl rfl rfl ?_
 have hX := Ext.refl No w
 refine zq5 (zq0 (wl_p I_ok rfl (zq2 (zq1 (zq5 (zq5 (zq0 (wl_p I_ok rfl (zq2 (zq1 (c_condF rfl (zx7 (zq1 (zq5 (zq0 ?_)))))))))))))))
 refine wl (st_bs I_ok rfl 33 rfl leafZ_c (zj6.len rfl) (by decide) (by decide) trivial (l' := []) rfl fun b5 w1 hn5 hb5 hE1 hs1 => ?_)
 have hX := hX.zq4 hE1
 refine wl_p I_ok rfl ?_
 refine wl (zj8 I_ok rfl 33 48 rfl rfl rfl (by decide) (Own.blk (n := 0) (c := 0) hb5 33 rfl (Nat.le_refl _) (by decide)) (Src.slice (h.zq3 hX) OneC.h) (by dsimp only [maxLen]; omega) (by dsimp only; omega) fun p2 c2 w2 ho2 hE2 hB2 => ?_)
 have hX := hX.trans hE2 fun y hy hF => by have := own1 hF; omega
 have hn1 : ∀ x, OwnB p2 x → w.heap.size ≤ x := fun x hx => (hB2 x hx).elim (fun hF => by have := own1 hF; omega) fun h => by have := hE1.size; omega
 have ho1 : Own w2 p2 (0 + l.length) c2 84 33 (l.flatMap zj6.cells) := ho2
 rw [Nat.zero_add] at ho1
 dsimp only
 rw [Nat.zero_add]
 refine wl_p I_ok rfl (zq2 (zq1 (zz8 (zz0 rfl rfl ?_))))
 exact ⟨_, _, rfl, ho1, hn1, hX⟩
theorem cloneL_calls (w : World) {p : Option Addr} {c : Nat} {l : List zj6} (h : Sl w p l.length 33 (l.flatMap zj6.cells)) (hl : l.length < 1000000000) :
  zz1 Tryz.prog 48 [.slice p l.length c] w fun v w' => ∃ q k, v = .slice q l.length k ∧ Own w' q l.length k 84 33 (l.flatMap zj6.cells) ∧ (∀ y, OwnB q y → w.heap.size ≤ y) ∧ Ext No w w' := by
 cases p with
 | none =>
  have hl0 : l = [] := by
   rcases h.2 with h0 | ⟨b, off, h1, _⟩
   ·exact List.eq_nil_of_length_eq_zero h0
   ·cases h1
  subst hl0
  exact cloneL_nil w
 | some a => exact cloneL_some w h hl
theorem cloneI_nil (w : World) {c : Nat} :
  zz1 Tryz.prog 49 [.slice none 0 c] w fun v w' => ∃ q k, v = .slice q 0 k ∧ Own w' q 0 k 37 32 [] ∧ (∀ y, OwnB q y → w.heap.size ≤ y) ∧ Ext No w w' := by
 refine zq9 Tryz.func49 rfl rfl rfl rfl ?_
 have hX := Ext.refl No w
 refine zq5 (zq0 (wl_p I_ok rfl (zq2 (zq1 (zq5 (zq5 (zq0 (wl_p I_ok rfl (zq2 (zq1 (c_condT rfl (zq5 (zq0 (wl_p I_ok rfl (zq2 (zq1 (zz8 (zx5 (zz0 rfl rfl ?_)))))))))))))))))))
 exact ⟨none, 0, rfl, Own.nil _ _ _, fun y hy => (by cases hy), hX⟩

theorem cloneI_some (w : World) {a : Addr} {c : Nat} {l : List IdB} (h : Sl w (some a) l.length 32 (l.flatMap zq6)) (hl : l.length < 1000000000) :
  zz1 Tryz.prog 49 [.slice (some a) l.length c] w fun v w' => ∃ q k, v = .slice q l.length k ∧ Own w' q l.length k 37 32 (l.flatMap zq6) ∧ (∀ y, OwnB q y → w.heap.size ≤ y) ∧ Ext No w w' := by
 refine zq9 Tryz.func49 rfl rfl rfl rfl ?_
 have hX := Ext.refl No w
 refine zq5 (zq0 (wl_p I_ok rfl (zq2 (zq1 (zq5 (zq5 (zq0 (wl_p I_ok rfl (zq2 (zq1 (c_condF rfl (zx7 (zq1 (zq5 (zq0 ?_)))))))))))))))
 refine wl (st_bs I_ok rfl 32 rfl idZ_c.symm (by rw [zq7]; rfl) (by decide) (by decide) trivial (l' := []) rfl fun b5 w1 hn5 hb5 hE1 hs1 => ?_)
 have hX := hX.zq4 hE1
 refine wl_p I_ok rfl ?_
 refine wl (zj8 I_ok rfl 32 32 rfl rfl rfl (by decide) (Own.blk (n := 0) (c := 0) hb5 32 rfl (Nat.le_refl _) (by decide)) (Src.slice (h.zq3 hX) OneC.h) (by dsimp only [maxLen]; omega) (by dsimp only; omega) fun p2 c2 w2 ho2 hE2 hB2 => ?_)
 have hX := hX.trans hE2 fun y hy hF => by have := own1 hF; omega
 have hn1 : ∀ x, OwnB p2 x → w.heap.size ≤ x := fun x hx => (hB2 x hx).elim (fun hF => by have := own1 hF; omega) fun h => by have := hE1.size; omega
 have ho1 : Own w2 p2 (0 + l.length) c2 37 32 (l.flatMap zq6) := ho2
 rw [Nat.zero_add] at ho1
 dsimp only
 rw [Nat.zero_add]
 refine wl_p I_ok rfl (zq2 (zq1 (zz8 (zz0 rfl rfl ?_))))
 exact ⟨_, _, rfl, ho1, hn1, hX⟩
theorem cloneI_calls (w : World) {p : Option Addr} {c : Nat} {l : List IdB} (h : Sl w p l.length 32 (l.flatMap zq6)) (hl : l.length < 1000000000) :
  zz1 Tryz.prog 49 [.slice p l.length c] w fun v w' => ∃ q k, v = .slice q l.length k ∧ Own w' q l.length k 37 32 (l.flatMap zq6) ∧ (∀ y, OwnB q y → w.heap.size ≤ y) ∧ Ext No w w' := by
 cases p with
 | none =>
  have hl0 : l = [] := by
   rcases h.2 with h0 | ⟨b, off, h1, _⟩
   ·exact List.eq_nil_of_length_eq_zero h0
   ·cases h1
  subst hl0
  exact cloneI_nil w
 | some a => exact cloneI_some w h hl
theorem cloneC_nil (w : World) {c : Nat} :
  zz1 Tryz.prog 50 [.slice none 0 c] w fun v w' => ∃ q k, v = .slice q 0 k ∧ Own w' q 0 k 87 3 [] ∧ (∀ y, OwnB q y → w.heap.size ≤ y) ∧ Ext No w w' := by
 refine zq9 Tryz.func50 rfl rfl rfl rfl ?_
 have hX := Ext.refl No w
 refine zq5 (zq0 (wl_p I_ok rfl (zq2 (zq1 (zq5 (zq5 (zq0 (wl_p I_ok rfl (zq2 (zq1 (c_condT rfl (zq5 (zq0 (wl_p I_ok rfl (zq2 (zq1 (zz8 (zx5 (zz0 rfl rfl ?_)))))))))))))))))))
 exact ⟨none, 0, rfl, Own.nil _ _ _, fun y hy => (by cases hy), hX⟩

theorem cloneC_some (w : World) {a : Addr} {c : Nat} {l : List ChgD} (h : Sl w (some a) l.length 3 (l.flatMap ChgD.cells)) (hl : l.length < 1000000000) :
  zz1 Tryz.prog 50 [.slice (some a) l.length c] w fun v w' => ∃ q k, v = .slice q l.length k ∧ Own w' q l.length k 87 3 (l.flatMap ChgD.cells) ∧ (∀ y, OwnB q y → w.heap.size ≤ y) ∧ Ext No w w' := by
 refine zq9 Tryz.func50 rfl rfl rfl rfl ?_
 have hX := Ext.refl No w
 refine zq5 (zq0 (wl_p I_ok rfl (zq2 (zq1 (zq5 (zq5 (zq0 (wl_p I_ok rfl (zq2 (zq1 (c_condF rfl (zx7 (zq1 (zq5 (zq0 ?_)))))))))))))))
 refine wl (st_bs I_ok rfl 3 rfl chgZ_c rfl (by decide) (by decide) trivial (l' := []) rfl fun b5 w1 hn5 hb5 hE1 hs1 => ?_)
 have hX := hX.zq4 hE1
 refine wl_p I_ok rfl ?_
 refine wl (zj8 I_ok rfl 3 40 rfl rfl rfl (by decide) (Own.blk (n := 0) (c := 0) hb5 3 rfl (Nat.le_refl _) (by decide)) (Src.slice (h.zq3 hX) OneC.h) (by dsimp only [maxLen]; omega) (by dsimp only; omega) fun p2 c2 w2 ho2 hE2 hB2 => ?_)
 have hX := hX.trans hE2 fun y hy hF => by have := own1 hF; omega
 have hn1 : ∀ x, OwnB p2 x → w.heap.size ≤ x := fun x hx => (hB2 x hx).elim (fun hF => by have := own1 hF; omega) fun h => by have := hE1.size; omega
 have ho1 : Own w2 p2 (0 + l.length) c2 87 3 (l.flatMap ChgD.cells) := ho2
 rw [Nat.zero_add] at ho1
 dsimp only
 rw [Nat.zero_add]
 refine wl_p I_ok rfl (zq2 (zq1 (zz8 (zz0 rfl rfl ?_))))
 exact ⟨_, _, rfl, ho1, hn1, hX⟩
theorem cloneC_calls (w : World) {p : Option Addr} {c : Nat} {l : List ChgD} (h : Sl w p l.length 3 (l.flatMap ChgD.cells)) (hl : l.length < 1000000000) :
  zz1 Tryz.prog 50 [.slice p l.length c] w fun v w' => ∃ q k, v = .slice q l.length k ∧ Own w' q l.length k 87 3 (l.flatMap ChgD.cells) ∧ (∀ y, OwnB q y → w.heap.size ≤ y) ∧ Ext No w w' := by
 cases p with
 | none =>
  have hl0 : l = [] := by
   rcases h.2 with h0 | ⟨b, off, h1, _⟩
   ·exact List.eq_nil_of_length_eq_zero h0
   ·cases h1
  subst hl0
  exact cloneC_nil w
 | some a => exact cloneC_some w h hl
theorem owned_calls (w : World) {x : ObjD} {a : ObjP} (hx : ObjIn x) (hxl : ObjL w x a) (hs : Short x) :
  zz1 Tryz.prog 31 [.agg (objC x a).toArray] w fun v w' => ∃ a', v = .agg (objC x a').toArray ∧ ObjNew w w' x a' ∧ Ext No w w' := by
 refine zq9 Tryz.func31 rfl rfl rfl rfl ?_
 have hX := Ext.refl No w
 refine zq5 (zq0 (wl (zj0 I_ok rfl fun b1 w1 hn1 hb1 hE1 => ?_)))
 have fr1 := Nat.le_trans hX.size hn1
 have hX := hX.zq4 hE1
 have hb1 : Blk w1 b1 43 (objC x a) := hb1
 refine wl (zj0 I_ok rfl fun b2 w2 hn2 hb2 hE2 => ?_)
 have ne1_2 : b1 ≠ b2 := Nat.ne_of_lt (Nat.lt_of_lt_of_le hb1.lt hn2)
 have fr2 := Nat.le_trans hX.size hn2
 have hb1 := hb1.zq3 hE2
 have hX := hX.zq4 hE2
 refine zq2 (zq1 (zq5 (c_draw rfl 11 [(0, true), (1, true), (3, true), (4, true), (6, true), (7, true), (8, true), (2, false), (10, true), (5, false), (9, false)] [11, 12, 13, 14, 15, 16] (No) (by kernel_rfl) fun w3 hE3 hs3 => ?_)))
 have hd1 := hb1
 have hb1 := hb1.zq3 hE3
 have hb2 := hb2.zq3 hE3
 have hX := hX.zq4 hE3
 have hC : Ext (No) _ w3 := hE3.no
 refine wd_k I_ok 1 rfl (zv2 I_ok rfl rfl (fun w' hw' => ((hd1.zq3 hw').seg.obj hx).leaves) ?_)
 refine wd_k I_ok 1 rfl (zv2 I_ok rfl rfl (fun w' hw' => ((hd1.zq3 hw').seg.obj hx).parents) ?_)
 refine wd_k I_ok 2 rfl (zv2 I_ok rfl rfl (fun w' hw' => ((hd1.zq3 hw').seg.obj hx).rows) ?_)
 have hXs := hX.size
 refine wd_l rfl (zx2 Tryz.call48 rfl rfl rfl rfl rfl rfl (cloneL_calls w3 (hxl.leaves.zq3 hX) hs.leaves) fun v4 w4 hr4 => ⟨(by obtain ⟨qL, kL, rfl, hL, nL0, hE4⟩ := hr4; exact hC.zq4 hE4), ?_⟩)
 obtain ⟨qL, kL, rfl, hL, nL0, hE4⟩ := hr4
 have hb1 := hb1.zq3 hE4
 have hb2 := hb2.zq3 hE4
 have hX := hX.zq4 hE4
 have hC := hC.zq4 hE4
 have nL : ∀ y, OwnB qL y → w.heap.size ≤ y := fun y hy => Nat.le_trans hXs (nL0 y hy)
 refine wd_k I_ok 1 rfl ?_
 have hXs := hX.size
 refine wd_l rfl (zx2 Tryz.call49 rfl rfl rfl rfl rfl rfl (cloneI_calls w4 (hxl.parents.zq3 hX) hs.parents) fun v5 w5 hr5 => ⟨(by obtain ⟨qP, kP, rfl, hP, nP0, hE5⟩ := hr5; exact hC.zq4 hE5), ?_⟩)
 obtain ⟨qP, kP, rfl, hP, nP0, hE5⟩ := hr5
 have hb1 := hb1.zq3 hE5
 have hb2 := hb2.zq3 hE5
 have hL := hL.ext hE5 fun _ _ => id
 have hX := hX.zq4 hE5
 have hC := hC.zq4 hE5
 have nP : ∀ y, OwnB qP y → w.heap.size ≤ y := fun y hy => Nat.le_trans hXs (nP0 y hy)
 have hXs := hX.size
 refine wd_l rfl (zx2 Tryz.call50 rfl rfl rfl rfl rfl rfl (cloneC_calls w5 (hxl.rows.zq3 hX) hs.rows) fun v6 w6 hr6 => ⟨(by obtain ⟨qR, kR, rfl, hR, nR0, hE6⟩ := hr6; exact hC.zq4 hE6), ?_⟩)
 obtain ⟨qR, kR, rfl, hR, nR0, hE6⟩ := hr6
 have hb1 := hb1.zq3 hE6
 have hb2 := hb2.zq3 hE6
 have hL := hL.ext hE6 fun _ _ => id
 have hP := hP.ext hE6 fun _ _ => id
 have hX := hX.zq4 hE6
 have nR : ∀ y, OwnB qR y → w.heap.size ≤ y := fun y hy => Nat.le_trans hXs (nR0 y hy)
 refine wd_sw ?_
 have hb1o := hb1
 refine wb rfl (st_st I_ok hb1 rfl rfl rfl fun w7 hb1 hE7 hs7 => ?_)
 have hb2 := hb2.ext1 hE7 ne1_2.symm
 have hL := hL.zx9 hE7 hb1o (by decide)
 have hP := hP.zx9 hE7 hb1o (by decide)
 have hR := hR.zx9 hE7 hb1o (by decide)
 have hX := hX.zx1 hE7 fr1
 have hb1 : Blk w7 b1 43 (objC x ⟨qL, kL, a.pp, a.pc, a.rp, a.rc⟩) := hb1
 refine wb rfl (st_p I_ok rfl rfl rfl ?_)
 have hb1o := hb1
 refine wb rfl (st_set I_ok hb1 rfl rfl (by rw [zq8 hx]; decide) fun w8 hb1 hE8 hs8 => ?_)
 have hb2 := hb2.ext1 hE8 ne1_2.symm
 have hL := hL.zx9 hE8 hb1o (by decide)
 have hP := hP.zx9 hE8 hb1o (by decide)
 have hR := hR.zx9 hE8 hb1o (by decide)
 have hX := hX.zx1 hE8 fr1
 have hb1 : Blk w8 b1 43 (objC x ⟨qL, kL, qP, kP, a.rp, a.rc⟩) := (by have h : Blk _ b1 _ ((objC x ⟨qL, kL, a.pp, a.pc, a.rp, a.rc⟩).set (68 + 0) (.slice qP x.parents.length kP)) := hb1; rw [objC_parents hx] at h; exact h)
 refine wb rfl (st_p I_ok rfl rfl rfl (wb rfl (st_p I_ok rfl rfl rfl ?_)))
 have hb1o := hb1
 refine wb rfl (st_set I_ok hb1 rfl rfl (by rw [zq8 hx]; decide) fun w9 hb1 hE9 hs9 => ?_)
 have hb2 := hb2.ext1 hE9 ne1_2.symm
 have hL := hL.zx9 hE9 hb1o (by decide)
 have hP := hP.zx9 hE9 hb1o (by decide)
 have hR := hR.zx9 hE9 hb1o (by decide)
 have hX := hX.zx1 hE9 fr1
 have hb1 : Blk w9 b1 43 (objC x ⟨qL, kL, qP, kP, qR, kR⟩) := (by have h : Blk _ b1 _ ((objC x ⟨qL, kL, qP, kP, a.rp, a.rc⟩).set (68 + 1) (.slice qR x.rows.length kR)) := hb1; rw [objC_rows hx] at h; exact h)
 refine zj2 (zq1 (zq5 (zq0 (wl (zj4 I_ok hb1 rfl (zq8 hx) ?_)))))
 have hb2o := hb2
 refine wl (zj5 (l' := objC x ⟨qL, kL, qP, kP, qR, kR⟩) I_ok hb2 rfl rfl (zq8 hx) (zq8 hx) OneC.h fun w10 hb2 hE10 hs10 => ?_)
 have hL := hL.zx9 hE10 hb2o (by decide)
 have hP := hP.zx9 hE10 hb2o (by decide)
 have hR := hR.zx9 hE10 hb2o (by decide)
 have hX := hX.zx1 hE10 fr2
 refine zq2 (zq1 (zz8 (f_ret [_] ⟨⟨b2, 0, rfl, ld_all I_ok rfl rfl hb2.seg (zq8 hx)⟩, trivial⟩ ?_)))
 exact ⟨⟨qL, kL, qP, kP, qR, kR⟩, rfl, ⟨hL, hP, hR, nL, nP, nR⟩, hX⟩
end Go.Proofs.YtoapldhadeoeiaaGreatDoor
namespace Go.Proofs.YtoapldhadeoeiaaGreatDoor
open Go.Vc
theorem put_get {xs v : List Value} {off t : Nat} (h : off + v.length ≤ xs.length) : (put xs off v)[t]? = if off ≤ t ∧ t < off + v.length then v[t - off]? else xs[t]? := by
 rw [put_eq _ _ _ h]
 have h1 : (xs.take off).length = off := by rw [List.length_take]; omega
 rw [List.append_assoc]
 rcases Nat.lt_or_ge t off with k | k
 ·rw [if_neg (by omega), List.getElem?_append_left (by omega), List.getElem?_take, if_pos k]
 ·rw [List.getElem?_append_right (by omega), h1]
  rcases Nat.lt_or_ge (t - off) v.length with k2 | k2
  ·rw [if_pos (by omega), List.getElem?_append_left k2]
  ·rw [if_neg (by omega), List.getElem?_append_right k2, List.getElem?_drop, show off + v.length + (t - off - v.length) = t from by omega]
theorem flat_held {l : List zx8} (hl : ∀ h ∈ l, (zv0 h).length = 105) : (l.flatMap zv0).length = l.length * 105 := flat_len hl
theorem flat_put {l : List zx8} {i : Nat} (hi : i < l.length) (hl : ∀ h ∈ l, (zv0 h).length = 105) {x : zx8} (hx : (zv0 x).length = 105) : put (l.flatMap zv0) (i * 105) (zv0 x) = (l.set i x).flatMap zv0 := by
 have h1 : ((l.take i).flatMap zv0).length = i * 105 := by
  rw [flat_held fun h hh => hl h (List.mem_of_mem_take hh), List.length_take, Nat.min_eq_left (by omega)]
 have hb : i * 105 + 105 ≤ l.length * 105 := by have := Nat.mul_le_mul_right 105 (show i + 1 ≤ l.length from hi); omega
 rw [put_eq _ _ _ (by rw [flat_held hl, hx]; exact hb), hx]
 have e : l.flatMap zv0 = (l.take i).flatMap zv0 ++ (zv0 l[i] ++ (l.drop (i + 1)).flatMap zv0) := by
  conv => lhs; rw [← List.take_append_drop i l, List.flatMap_append, List.drop_eq_getElem_cons hi, List.flatMap_cons]
 rw [List.set_eq_take_append_cons_drop, if_pos hi, List.flatMap_append, List.flatMap_cons, e]
 rw [List.take_left' h1, List.append_assoc]
 congr 2
 rw [← List.append_assoc, List.drop_left' (by rw [List.length_append, h1, hl _ (List.getElem_mem hi)])]
/-- one row of one's own rows is written over, in part -/
theorem own_row {w : World} {b c T : Nat} {L : List Value} {l : List zx8} {i off : Nat} {v : List Value} {x : zx8} (hi : i < l.length) (hl : ∀ h ∈ l, (zv0 h).length = 105) (hL : L.length = c * 105) (hn : l.length ≤ c) (hc : c ≤ maxLen) (ht : L.take (l.length * 105) = l.flatMap zv0) (hov : off + v.length ≤ 105) (hx : (zv0 x).length = 105) (hp : put (zv0 l[i]) off v = zv0 x) (hb : Blk w b T (put L (i * 105 + off) v)) :
  Own w (some ⟨b, 0, none⟩) (l.set i x).length c T 105 ((l.set i x).flatMap zv0) := by
 have hi2 : i * 105 + 105 ≤ l.length * 105 := by have := Nat.mul_le_mul_right 105 (show i + 1 ≤ l.length from hi); omega
 have hlL : l.length * 105 ≤ L.length := by rw [hL]; exact Nat.mul_le_mul_right 105 hn
 rw [List.length_set]
 refine .inr ⟨b, _, rfl, hb, ?_, hn, hc, ?_⟩
 ·rw [put_eq _ _ _ (by omega)]
  simp only [List.length_append, List.length_take, List.length_drop]
  omega
 ·rw [← flat_put hi hl hx, ← hp, ← ht]
  have hci := hl _ (List.getElem_mem hi)
  have e1 : (L.drop (i * 105)).take 105 = zv0 l[i] := by
   have e : L.take (l.length * 105) = (l.take i).flatMap zv0 ++ (zv0 l[i] ++ (l.drop (i + 1)).flatMap zv0) := by
    rw [ht]
    conv => lhs; rw [← List.take_append_drop i l, List.flatMap_append, List.drop_eq_getElem_cons hi, List.flatMap_cons]
   have h1 : ((l.take i).flatMap zv0).length = i * 105 := by
    rw [flat_held fun h hh => hl h (List.mem_of_mem_take hh), List.length_take, Nat.min_eq_left (by omega)]
   have e2 : (L.take (l.length * 105)).drop (i * 105) = zv0 l[i] ++ (l.drop (i + 1)).flatMap zv0 := by rw [e, List.drop_left' h1]
   have e3 : ((L.take (l.length * 105)).drop (i * 105)).take 105 = zv0 l[i] := by rw [e2, List.take_left' hci]
   rw [List.drop_take, List.take_take, Nat.min_eq_left (by omega)] at e3
   exact e3
  apply List.ext_getElem?
  intro t
  have hpl : (put (zv0 l[i]) off v).length = 105 := by rw [hp, hx]
  have hrow : ∀ j, j < 105 → (zv0 l[i])[j]? = L[i * 105 + j]? := fun j hj => by
   rw [← e1, List.getElem?_take, if_pos hj, List.getElem?_drop]
  rw [put_get (by rw [List.length_take, hpl, Nat.min_eq_left hlL]; exact hi2), hpl, List.getElem?_take, put_get (by omega)]
  by_cases ht1 : i * 105 ≤ t ∧ t < i * 105 + 105
  ·rw [if_pos ht1, if_pos (by omega), put_get (by rw [hci]; exact hov)]
   by_cases ht2 : off ≤ t - i * 105 ∧ t - i * 105 < off + v.length
   ·rw [if_pos ht2, if_pos (by omega), show t - (i * 105 + off) = t - i * 105 - off from by omega]
   ·rw [if_neg ht2, if_neg (by omega), hrow _ (by omega), show i * 105 + (t - i * 105) = t from by omega]
  ·rw [if_neg ht1, List.getElem?_take]
   by_cases ht3 : t < l.length * 105
   ·rw [if_pos ht3, if_pos ht3, if_neg (by omega)]
   ·rw [if_neg ht3, if_neg ht3]
end Go.Proofs.YtoapldhadeoeiaaGreatDoor
namespace Go.Vc
theorem run_cat {P : Program} (p q : ByteArray) (h : p.size + q.size ≤ 9223372036854775807) (t : TypeId) (x y : Operand) (w : World) : (do eqGuard .add t x y (.string p) (.string q); binOp .add t (.string p) (.string q) : Sem Value).run P w = .ok (.string (p ++ q)) w := by
 have e : (eqGuard .add t x y (.string p) (.string q)).run P w = .ok () w := rfl
 rw [Sem.run_bind, e, Result.andThen_ok]
 have hs : binOp .add t (.string p) (.string q) = Op.stringOp .add p q := rfl
 rw [hs]
 unfold Op.stringOp
 have hm : ¬ (((p.size + q.size : Nat) : Int) > IntKind.i64.max) := by
  have : IntKind.i64.max = 9223372036854775807 := by decide
  rw [this]
  omega
 simp only [if_neg hm]
 rfl
section
variable {P : Program} {I : Info} {f : Fs} {ops : Array Oper} {o : Oper} {env : Env} {w : World} {K : Env → World → Prop}
def catE (n : Nat) (ops : Array Oper) (env : Env) (o : Oper) : Option (ByteArray × ByteArray × Nat) :=
  match pre n ops env o with
  | false => none
  | true => match o.dst with
    | some d => match o.op with
      | .binOp .add _t x y _u => match evO env x with
        | some (.string p) => match evO env y with
          | some (.string q) => some (p, q, d)
          | _ => none
        | _ => none
      | _ => none
    | none => none
theorem st_cat {p q : ByteArray} {d : Nat} (h : catE f.n ops env o = some (p, q, d)) (hs : p.size + q.size ≤ 9223372036854775807) (k : K ((d, .string (p ++ q)) :: env) w) : St P f ops o env w K := by
 unfold catE at h
 split at h
 ·cases h
 ·rename_i hp
  obtain ⟨h1, h2⟩ := pre_eq hp
  split at h
  ·rename_i d' hd
   split at h
   ·rename_i t x y u ho
    split at h
    ·rename_i p' hx
     split at h
     ·rename_i q' hy
      simp only [Option.some.injEq, Prod.mk.injEq] at h
      obtain ⟨rfl, rfl, rfl⟩ := h
      refine st_v h1 h2 (v := .string (p' ++ q')) (w' := w) (fun ρ hρ => ?_) (by rw [hd]; exact k)
      simp only [execOp, ho, hρ _ _ hx, hρ _ _ hy]
      have := run_cat (P := P) p' q' hs t x y w
      simp only [Sem.run_bind] at this ⊢
      rw [this]
      rfl
     ·cases h
    ·cases h
   ·cases h
  ·cases h
end
end Go.Vc
namespace Go.Vc
section
variable {P : Program} {I : Info} {f : Fs} {ops : Array Oper} {o : Oper} {env : Env} {w : World}
/-- a quotient or a rest, by a number that is a variable -/
def dvE (n : Nat) (ops : Array Oper) (env : Env) (o : Oper) : Option (Bool × IntKind × Int × Int × Nat) :=
  match pre n ops env o with
  | false => none
  | true => match o.dst with
    | some d => match o.op with
      | .binOp op _ x y _ => match evO env x with
        | some (.int k p) => match evO env y with
          | some (.int k' q) => match decide (k = k') with
            | true => match op with
              | .quo => some (true, k, p, q, d)
              | .rem => some (false, k, p, q, d)
              | _ => none
            | false => none
          | _ => none
        | _ => none
      | _ => none
    | none => none
def dvV (b : Bool) (k : IntKind) (p q : Int) : Value := if b then .int k (k.wrap (p.tdiv q)) else .int k (p.tmod q)
theorem dvE_pev {n : Nat} {b : Bool} {k : IntKind} {p q : Int} {d : Nat} (h : dvE n ops env o = some (b, k, p, q, d)) (hq : q ≠ 0) : pre n ops env o = true ∧ o.dst = some d ∧ pev I o.op env = some (dvV b k p q) := by
  unfold dvE at h
  split at h
  · cases h
  · rename_i hp
    split at h
    · rename_i d' hd
      split at h
      · rename_i op' t x y u ho
        split at h
        · rename_i k' p' hx
          split at h
          · rename_i k2 q' hy
            split at h
            · rename_i hk
              have hk : k' = k2 := of_decide_eq_true hk
              subst hk
              split at h
              all_goals first
                | (cases h; done)
                | (simp only [Option.some.injEq, Prod.mk.injEq] at h
                   obtain ⟨rfl, rfl, rfl, rfl, rfl⟩ := h
                   refine ⟨hp, hd, ?_⟩
                   have hn : decide (q' = 0) = false := decide_eq_false hq
                   rw [ho]
                   simp only [pev, hx, hy, bin, isShift, intBin, hn]
                   simp [dvV])
            · cases h
          · cases h
        · cases h
      · cases h
    · cases h
theorem wd_dv (hI : I.Ok P) {K : Act → World → Prop} {r : Dr} {i : Nat} {pl : List (Nat × Bool)} {dn : List Nat} (ho : ops[i]? = some o) {b : Bool} {k : IntKind} {p q : Int} {d : Nat} (h : dvE f.n ops env o = some (b, k, p, q, d)) (hq : q ≠ 0)
  (kk : WD P f ops K r pl (i :: dn) ((d, dvV b k p q) :: env) w) : WD P f ops K r ((i, true) :: pl) dn env w := by
 obtain ⟨h1, h2, h3⟩ := dvE_pev (I := I) h hq
 exact wd_q ho h1 h2 (fun w' _ => pev_sound hI h3 w') kk
theorem st_dv (hI : I.Ok P) {K : Env → World → Prop} {b : Bool} {k : IntKind} {p q : Int} {d : Nat} (h : dvE f.n ops env o = some (b, k, p, q, d)) (hq : q ≠ 0)
  (kk : K ((d, dvV b k p q) :: env) w) : St P f ops o env w K := by
 obtain ⟨h1, h2, h3⟩ := dvE_pev (I := I) h hq
 obtain ⟨h4, h5⟩ := pre_eq h1
 exact st_v h4 h5 (pev_sound hI h3 w) (by rw [h2]; exact kk)
end
end Go.Vc
namespace Go.Proofs.YtoapldhadeoeiaaGreatDoor
open Go.Vc
theorem flat_few {α β : Type} {f : α → List β} {n : Nat} : ∀ {L : List α}, (∀ x ∈ L, (f x).length ≤ n) → (L.flatMap f).length ≤ L.length * n
 | [], _ => by simp
 | a :: L, h => by
  have h1 := h a List.mem_cons_self
  have h2 := flat_few (L := L) fun x hx => h x (List.mem_cons_of_mem _ hx)
  rw [List.flatMap_cons, List.length_append, List.length_cons, Nat.succ_mul]
  omega
/-- what a turn leaves -/
def TurnQ (l m : List zx8) : Prop := m.length ≤ l.length + 1 ∧ ∀ y ∈ m, (∀ u, (∀ z ∈ l, HeldIn u z) → HeldIn u y) ∧ ∃ z ∈ l, (zz9 y.o).length = (zz9 z.o).length ∧ y.o.note.length ≤ z.o.note.length + 1
theorem turn_same {l : List zx8} : ∀ y ∈ l, (∀ u, (∀ z ∈ l, HeldIn u z) → HeldIn u y) ∧ ∃ z ∈ l, (zz9 y.o).length = (zz9 z.o).length ∧ y.o.note.length ≤ z.o.note.length + 1 := fun y hy => ⟨fun _ h => h y hy, y, hy, rfl, by omega⟩
theorem turn_set {l : List zx8} {i : Nat} {x : zx8} (hx : ∀ u, (∀ z ∈ l, HeldIn u z) → HeldIn u x) {z : zx8} (hz : z ∈ l) (h1 : (zz9 x.o).length = (zz9 z.o).length) (h2 : x.o.note.length ≤ z.o.note.length + 1) : TurnQ l (l.set i x) := by
 refine ⟨by rw [List.length_set]; omega, fun y hy => ?_⟩
 rcases List.mem_or_eq_of_mem_set hy with k | k
 ·exact turn_same y k
 ·subst k; exact ⟨hx, z, hz, h1, h2⟩
theorem turn_sub {l m : List zx8} (hm : m.length ≤ l.length + 1) (hs : ∀ y ∈ m, y ∈ l) : TurnQ l m := ⟨hm, fun y hy => turn_same y (hs y hy)⟩
theorem turn_app {l : List zx8} {x : zx8} (hx : ∀ u, (∀ z ∈ l, HeldIn u z) → HeldIn u x) {z : zx8} (hz : z ∈ l) (h1 : (zz9 x.o).length = (zz9 z.o).length) (h2 : x.o.note.length ≤ z.o.note.length + 1) : TurnQ l (l ++ [x]) := by
 refine ⟨by rw [List.length_append]; exact Nat.le_refl _, fun y hy => ?_⟩
 rcases List.mem_append.1 hy with k | k
 ·exact turn_same y k
 ·rw [List.mem_singleton.1 k]; exact ⟨hx, z, hz, h1, h2⟩
theorem held_tail {w : World} {q : Option Addr} {l : List zx8} (h : Sl w q l.length 105 (l.flatMap zv0)) (hl : ∀ h ∈ l, (zv0 h).length = 105) {i k : Nat} (hi : i ≤ l.length) (hk : l.length ≤ k) : Sl w (slBase q i k 105) (l.length - i) 105 ((l.drop i).flatMap zv0) := by
 have h1 := h.slice i l.length k hi hk (Nat.le_refl _)
 have e : ((l.flatMap zv0).drop (i * 105)).take ((l.length - i) * 105) = (l.drop i).flatMap zv0 := by
  have e1 : ((l.take i).flatMap zv0).length = i * 105 := by
   rw [flat_held fun h hh => hl h (List.mem_of_mem_take hh), List.length_take, Nat.min_eq_left hi]
  have e2 : l.flatMap zv0 = (l.take i).flatMap zv0 ++ (l.drop i).flatMap zv0 := by rw [← List.flatMap_append, List.take_append_drop]
  rw [e2, List.drop_left' e1, List.take_of_length_le]
  rw [flat_held fun h hh => hl h (List.mem_of_mem_drop hh), List.length_drop]
  exact Nat.le_refl _
 rw [e] at h1
 exact h1
theorem held_head {L : List Value} {l : List zx8} (hl : ∀ h ∈ l, (zv0 h).length = 105) (ht : L.take (l.length * 105) = l.flatMap zv0) {i : Nat} (hi : i ≤ l.length) : (L.drop 0).take (i * 105) = (l.take i).flatMap zv0 := by
 have e1 : ((l.take i).flatMap zv0).length = i * 105 := by
  rw [flat_held fun h hh => hl h (List.mem_of_mem_take hh), List.length_take, Nat.min_eq_left hi]
 have e2 : l.flatMap zv0 = (l.take i).flatMap zv0 ++ (l.drop i).flatMap zv0 := by rw [← List.flatMap_append, List.take_append_drop]
 have e3 : (L.take (l.length * 105)).take (i * 105) = (l.take i).flatMap zv0 := by rw [ht, e2, List.take_left' e1]
 rw [List.take_take, Nat.min_eq_left (Nat.mul_le_mul_right 105 hi)] at e3
 rw [List.drop_zero]; exact e3
theorem own_newS {N : Nat} {w : World} {p : Option Addr} {n c T sz : Nat} {xs : List Value} (h : Own w p n c T sz xs) (hn : ∀ y, OwnB p y → N ≤ y) : ∀ x off, p = some ⟨x, off, none⟩ → N ≤ x := fun x off e => by
 rcases h with ⟨rfl, _⟩ | ⟨y, L, rfl, hy, _⟩
 ·cases e
 ·cases e; exact hn _ rfl
theorem own_neS {w : World} {p : Option Addr} {n c T sz : Nat} {xs : List Value} (h : Own w p n c T sz xs) {b U : Nat} {m : List Value} (hb : Blk w b U m) (hT : T ≠ U) : ∀ x off, p = some ⟨x, off, none⟩ → ¬ x = b := fun x off e => by
 rcases h with ⟨rfl, _⟩ | ⟨y, L, rfl, hy, _⟩
 ·cases e
 ·cases e; exact hy.ne hb hT
theorem put_obj {h : zx8} {o : ObjD} {a : ObjP} (hi : h.id.length = 32) (h0 : ObjIn h.o) (h1 : ObjIn o) : put (zv0 h) 32 (objC o a) = zv0 ⟨h.id, o, a⟩ := by
 have e : zv0 h = zq6 h.id ++ objC h.o h.a := rfl
 have l1 : (zq6 h.id).length = 32 := by rw [zq7, hi]
 rw [put_eq _ _ _ (by rw [e, List.length_append, l1, zq8 h0, zq8 h1]; decide), e, List.take_left' l1, zq8 h1, List.drop_of_length_le (by rw [List.length_append, l1, zq8 h0]; decide), List.append_nil]
 rfl
theorem put_tree {h : zx8} {t : List UInt8} (hi : h.id.length = 32) (h0 : ObjIn h.o) (ht : t.length = 32) : put (zv0 h) 36 (zq6 t) = zv0 ⟨h.id, { h.o with tree := t }, h.a⟩ := by
 have l1 : (zq6 h.id).length = 32 := by rw [zq7, hi]
 have l2 : (zq6 h.o.tree).length = 32 := by rw [zq7, h0.tree]
 have l3 : (zq6 t).length = 32 := by rw [zq7, ht]
 obtain ⟨R, hR⟩ : ∃ R, R = zq6 h.o.base ++ [Value.slice h.a.pp h.o.parents.length h.a.pc, .slice h.a.rp h.o.rows.length h.a.rc, .int .u32 (h.o.number : Int), .int .u32 (h.o.author : Int), strV h.o.note] := ⟨_, rfl⟩
 obtain ⟨A, hA⟩ : ∃ A, A = zq6 h.id ++ [Value.int .i64 h.o.kind, strV h.o.text, .slice h.a.lp h.o.leaves.length h.a.lc, .int .i64 h.o.style] := ⟨_, rfl⟩
 have e : zv0 h = A ++ (zq6 h.o.tree ++ R) := by rw [hR, hA, List.append_assoc]; rfl
 have e2 : zv0 ⟨h.id, { h.o with tree := t }, h.a⟩ = A ++ (zq6 t ++ R) := by rw [hR, hA, List.append_assoc]; rfl
 have hp : A.length = 36 := by rw [hA, List.length_append, l1]; rfl
 rw [e2, e, put_eq _ _ _ (by rw [List.length_append, List.length_append, hp, l2, l3]; omega), List.take_left' hp, l3, ← List.drop_drop, List.drop_left' hp, List.drop_left' l2, List.append_assoc]
theorem links_tree (o : ObjD) (t : List UInt8) : (zz9 { o with tree := t }).length = (zz9 o).length := by
 unfold zz9
 dsimp only
 split
 ·rfl
 ·split <;> rfl
theorem strU_x (t : Str) : strU t ++ ByteArray.mk #[120] = strU (t ++ [120]) := by
 apply ByteArray.ext
 simp [strU]
theorem put_one {L : List Value} {i : Nat} {v : Value} (h : i < L.length) : L.set i v = put L i [v] := by
 rw [put_eq _ _ _ (by show i + 1 ≤ _; omega), List.set_eq_take_append_cons_drop, if_pos h]
 simp
theorem put_note {h : zx8} {t : Str} (hi : h.id.length = 32) (h0 : ObjIn h.o) : put (zv0 h) 104 [strV t] = zv0 ⟨h.id, { h.o with note := t }, h.a⟩ := by
 have l1 : (zq6 h.id).length = 32 := by rw [zq7, hi]
 have l2 : (zq6 h.o.tree).length = 32 := by rw [zq7, h0.tree]
 have l3 : (zq6 h.o.base).length = 32 := by rw [zq7, h0.base]
 obtain ⟨A, hA⟩ : ∃ A, A = zq6 h.id ++ ([Value.int .i64 h.o.kind, strV h.o.text, .slice h.a.lp h.o.leaves.length h.a.lc, .int .i64 h.o.style] ++ (zq6 h.o.tree ++ (zq6 h.o.base ++ [Value.slice h.a.pp h.o.parents.length h.a.pc, .slice h.a.rp h.o.rows.length h.a.rc, .int .u32 (h.o.number : Int), .int .u32 (h.o.author : Int)]))) := ⟨_, rfl⟩
 have hp : A.length = 104 := by rw [hA]; simp only [List.length_append, l1, l2, l3]; rfl
 have e : zv0 h = A ++ [strV h.o.note] := by rw [hA]; simp [zv0, objC]
 have e2 : zv0 ⟨h.id, { h.o with note := t }, h.a⟩ = A ++ [strV t] := by rw [hA]; simp [zv0, objC]
 rw [e2, e, put_eq _ _ _ (by rw [List.length_append, hp]; exact Nat.le_refl _), List.take_left' hp, List.drop_of_length_le (by rw [List.length_append, hp]; exact Nat.le_refl _), List.append_nil]
theorem u32_nat (a : Int) : ∃ N : Nat, N < 2 ^ 32 ∧ IntKind.u32.wrap a = (N : Int) := by
 have h : 0 ≤ IntKind.u32.wrap a ∧ IntKind.u32.wrap a < 4294967296 := by
  simp [IntKind.wrap, IntKind.bits, IntKind.signed]
  omega
 obtain ⟨N, hN⟩ := Int.eq_ofNat_of_zero_le h.1
 exact ⟨N, by omega, hN⟩
theorem put_num {h : zx8} {n : Nat} (hi : h.id.length = 32) (h0 : ObjIn h.o) : put (zv0 h) 102 [.int .u32 (n : Int)] = zv0 ⟨h.id, { h.o with number := n }, h.a⟩ := by
 have l1 : (zq6 h.id).length = 32 := by rw [zq7, hi]
 have l2 : (zq6 h.o.tree).length = 32 := by rw [zq7, h0.tree]
 have l3 : (zq6 h.o.base).length = 32 := by rw [zq7, h0.base]
 obtain ⟨A, hA⟩ : ∃ A, A = zq6 h.id ++ ([Value.int .i64 h.o.kind, strV h.o.text, .slice h.a.lp h.o.leaves.length h.a.lc, .int .i64 h.o.style] ++ (zq6 h.o.tree ++ (zq6 h.o.base ++ [Value.slice h.a.pp h.o.parents.length h.a.pc, .slice h.a.rp h.o.rows.length h.a.rc]))) := ⟨_, rfl⟩
 have hp : A.length = 102 := by rw [hA]; simp only [List.length_append, l1, l2, l3]; rfl
 have e : zv0 h = A ++ [.int .u32 (h.o.number : Int), .int .u32 (h.o.author : Int), strV h.o.note] := by rw [hA]; simp [zv0, objC]
 have e2 : zv0 ⟨h.id, { h.o with number := n }, h.a⟩ = A ++ [.int .u32 (n : Int), .int .u32 (h.o.author : Int), strV h.o.note] := by rw [hA]; simp [zv0, objC]
 rw [e2, e, put_eq _ _ _ (by rw [List.length_append, hp]; show 102 + 1 ≤ 102 + 3; omega), List.take_left' hp, ← List.drop_drop, List.drop_left' hp]
 simp
theorem u64_pos (a : Int) : 0 ≤ IntKind.u64.wrap a := by
 simp [IntKind.wrap, IntKind.bits, IntKind.signed]
 omega
theorem u64_idx (a : Int) {n : Nat} (hn : 0 < n) (hn2 : n < 1000000) : ∃ k : Nat, k < n ∧ IntKind.i64.wrap ((IntKind.u64.wrap a).tmod (IntKind.u64.wrap (n : Int))) = (k : Int) := by
 obtain ⟨N, hN⟩ := Int.eq_ofNat_of_zero_le (u64_pos a)
 refine ⟨N % n, Nat.mod_lt _ hn, ?_⟩
 have h1 := Nat.mod_lt N hn
 rw [IntWalk.u64_in (n : Int) (by omega), hN, ← Int.ofNat_tmod, IntWalk.i64_in _ (by omega)]
theorem u64_len {n : Nat} (hn : 0 < n) (hn2 : n < 1000000) : IntKind.u64.wrap (n : Int) ≠ 0 := by
 rw [IntWalk.u64_in _ (by omega)]
 omega
theorem turned_calls (w : World) {p : Option Addr} {c : Nat} {l : List zx8} (h : HpIn w p l) (hf : ∀ h ∈ l, h.o.note.length ≤ 1000) (hne : l ≠ []) (at_ fl n : Int) (_ha : -9223372036854775808 ≤ at_ ∧ at_ ≤ 9223372036854775807) (_hfl : -9223372036854775808 ≤ fl ∧ fl ≤ 9223372036854775807) (_hn : -9223372036854775808 ≤ n ∧ n ≤ 9223372036854775807) :
  zz1 Tryz.prog 26 [.agg #[.slice p l.length c], .agg #[.int .i64 at_, .int .i64 fl, .int .i64 n]] w fun v w' => ∃ (q : Option Addr) (k : Nat) (m : List zx8), v = .agg #[.slice q m.length k] ∧ Sl w' q m.length 105 (m.flatMap zv0) ∧ (∀ x off, q = some ⟨x, off, none⟩ → w.heap.size ≤ x) ∧ TurnQ l m ∧ Ext No w w' := by
 have hlen := h.len
 have hl0 : 0 < l.length := List.length_pos_iff.2 hne
 refine zq9 Tryz.func26 rfl rfl rfl rfl ?_
 have hX := Ext.refl No w
 refine zq5 (zq0 (wl (zj0 I_ok rfl fun b2 w1 hn2 hb2 hE1 => ?_)))
 have hX := hX.zq4 hE1
 have hb2 : Blk w1 b2 30 ([.slice p l.length c]) := hb2
 refine wl (zj0 I_ok rfl fun b3 w2 hn3 hb3 hE2 => ?_)
 have hb2 := hb2.zq3 hE2
 have hX := hX.zq4 hE2
 have hb3 : Blk w2 b3 81 ([.int .i64 at_, .int .i64 fl, .int .i64 n]) := hb3
 refine wl (zj0 I_ok rfl fun b4 w3 hn4 hb4 hE3 => ?_)
 have fr4 := Nat.le_trans hX.size hn4
 have hb2 := hb2.zq3 hE3
 have hb3 := hb3.zq3 hE3
 have hX := hX.zq4 hE3
 have hb4 : Blk w3 b4 30 ([.slice none 0 0]) := hb4
 refine zq2 (zq1 (zq5 (zq0 (wl_p I_ok rfl (wl (st_ldb I_ok hb3 rfl rfl (wl_p I_ok rfl (wl (st_ldb I_ok hb2 rfl rfl (zz6 I_ok 2 rfl (wl (st_dv I_ok rfl (u64_len hl0 hlen) ?_))))))))))))
 obtain ⟨ix, hix, hie⟩ := u64_idx at_ hl0 hlen
 rw [show dvV false IntKind.u64 (IntKind.u64.wrap at_) (IntKind.u64.wrap (l.length : Int)) = .int .u64 ((IntKind.u64.wrap at_).tmod (IntKind.u64.wrap (l.length : Int))) from rfl]
 refine wl_p I_ok rfl ?_
 rw [hie]
 refine wl_p I_ok rfl (zq2 (zq1 (zq5 (zq0 (wl (st_bs I_ok rfl 105 rfl heldZ_c (by rw [List.length_append, zq7, zq8 objZ_in]; rfl) (by decide) (by decide) trivial (l' := []) rfl fun b18 w4 hn18 hb18 hE4 hs4 => ?_))))))
 have fr18 := Nat.le_trans hX.size hn18
 have hb2 := hb2.zq3 hE4
 have hb3 := hb3.zq3 hE4
 have hb4 := hb4.zq3 hE4
 have hX := hX.zq4 hE4
 refine wl_p I_ok rfl (wl (st_ldb I_ok hb2 rfl rfl ?_))
 have hX0 := hX
 have hb18o := Own.blk (n := 0) (c := 0) hb18 105 rfl (Nat.le_refl _) (by decide)
 refine wl (zj8 I_ok rfl 105 224 rfl rfl rfl (by decide) (Own.blk (n := 0) (c := 0) hb18 105 rfl (Nat.le_refl _) (by decide)) (Src.slice (h.sl.zq3 hX) OneC.h) (by dsimp only [maxLen]; omega) (by dsimp only; omega) fun p5 c5 w5 ho5 hE5 hB5 => ?_)
 dsimp only at ho5 hE5 hB5 ⊢
 have e18 : ∀ y, OwnB (some ⟨b18, 0, none⟩) y → y = b18 := fun y hy => (congrArg Addr.block (Option.some.inj hy)).symm
 have hX := hX0.trans hE5 fun y hy hF => by have := e18 y hF; omega
 have hb2 := hb2.zx0 hb18o hE5 (by decide)
 have hb3 := hb3.zx0 hb18o hE5 (by decide)
 have hb4 := hb4.zx0 hb18o hE5 (by decide)
 obtain ⟨q, k, e1, e2, hq⟩ : ∃ q k, q = p5 ∧ k = c5 ∧ Own w5 q l.length k 52 105 (l.flatMap zv0) := ⟨_, _, rfl, rfl, by have h := ho5; rw [Nat.zero_add] at h; exact h⟩
 have hqn := newW hX0 (newB fr18) hB5
 rw [← e1] at hqn
 rw [← e1, ← e2, Nat.zero_add]
 refine wl (st_bd I_ok rfl ⟨⟨rfl, by decide⟩, trivial⟩ (l' := [.slice q l.length k]) rfl (wl (zj0 I_ok rfl fun b6 w6 hn6 hb6 hE6 => ?_)))
 have ne2_6 : b2 ≠ b6 := Nat.ne_of_lt (Nat.lt_of_lt_of_le hb2.lt hn6)
 have ne3_6 : b3 ≠ b6 := Nat.ne_of_lt (Nat.lt_of_lt_of_le hb3.lt hn6)
 have ne4_6 : b4 ≠ b6 := Nat.ne_of_lt (Nat.lt_of_lt_of_le hb4.lt hn6)
 have fr6 := Nat.le_trans hX.size hn6
 have hb2 := hb2.zq3 hE6
 have hb3 := hb3.zq3 hE6
 have hb4 := hb4.zq3 hE6
 have hq := hq.ext hE6 fun _ _ => id
 have hX := hX.zq4 hE6
 have hb6o := hb6
 refine wl (zj5 (l' := [.slice q l.length k]) I_ok hb6 rfl rfl rfl rfl OneC.h fun w7 hb6 hE7 hs7 => ?_)
 have hb2 := hb2.ext1 hE7 ne2_6
 have hb3 := hb3.ext1 hE7 ne3_6
 have hb4 := hb4.ext1 hE7 ne4_6
 have hq := hq.zx9 hE7 hb6o (by decide)
 have hX := hX.zx1 hE7 fr6
 obtain ⟨qb, L0, hpq, hbq, hL0, hnc, hcm, htk⟩ := hq.opened (by omega)
 subst hpq
 obtain ⟨pb, po, rfl, hsq⟩ := h.sl.rowAll h.c (by omega)
 obtain ⟨jx, hjx, hje⟩ := u64_idx n hl0 hlen
 obtain ⟨fx, hfx, hfe⟩ : ∃ fx : Int, fx = (IntKind.u64.wrap fl).tmod 6 ∧ True := ⟨_, rfl, trivial⟩
 have hnj := h.ins _ (List.getElem_mem hjx)
 have hni := h.ins _ (List.getElem_mem hix)
 obtain ⟨qb2, qo2, eq2, hsr⟩ := (Own.sl (show Own w7 (some ⟨qb, 0, none⟩) l.length k 52 105 (l.flatMap zv0) from .inr ⟨qb, L0, rfl, hbq, hL0, hnc, hcm, htk⟩)).rowAll h.c (by omega)
 cases eq2
 have hro := held_obj (hsr ix hix) hni.id
 have hri := held_id (hsr ix hix)
 rw [Nat.zero_add] at hro hri
 refine zq2 (zq1 (zq5 (zq0 (wl_p I_ok rfl (wl (st_ldb I_ok hb6 rfl rfl (wl_p I_ok rfl (wl (st_ix I_ok rfl 105 rfl ix rfl hix (0 + ix * 105) rfl (wl_p I_ok rfl (zq2 (zq1 (zq5 ?_)))))))))))))
 refine c_draw rfl 14 [(0, true), (1, true), (2, true), (3, true), (4, true), (5, true), (6, true), (7, true), (8, true), (9, true), (10, true), (11, true), (12, true), (13, false)] [14] (No) (by kernel_rfl) fun w8 hE8 hs8 => ?_
 have hd2 := hb2
 have hd3 := hb3
 have hd6 := hb6
 have hrod := hro
 have hrid := hri
 have hXd := hX
 have hb3 := hb3.zq3 hE8
 have hb4 := hb4.zq3 hE8
 have hb6 := hb6.zq3 hE8
 have hbq := hbq.zq3 hE8
 have hro := hro.zq3 hE8
 have hri := hri.zq3 hE8
 have hX := hX.zq4 hE8
 have hC : Ext (No) _ w8 := hE8.no
 refine wd_k I_ok 1 rfl (zv2 I_ok rfl rfl (fun w' hw' => (hd2.zq3 hw').cell rfl) ?_)
 refine wd_k I_ok 1 rfl (zv2 I_ok rfl rfl (fun w' hw' => (hd3.zq3 hw').cell rfl) ?_)
 refine wd_k I_ok 2 rfl (zv2 I_ok rfl rfl (fun w' hw' => (hd2.zq3 hw').cell rfl) ?_)
 refine wd_k I_ok 2 rfl (wd_dv I_ok rfl rfl (u64_len hl0 hlen) ?_)
 rw [show dvV false IntKind.u64 (IntKind.u64.wrap n) (IntKind.u64.wrap (l.length : Int)) = .int .u64 ((IntKind.u64.wrap n).tmod (IntKind.u64.wrap (l.length : Int))) from rfl]
 refine wd_k I_ok 1 rfl ?_
 rw [hje]
 refine wd_ix I_ok rfl rfl 105 rfl jx rfl hjx (po + jx * 105) rfl (wd_ldN I_ok rfl rfl (fun w' hw' => ((hsq jx hjx).zq3 (hXd.zq4 hw'))) hnj.c ?_)
 have hbqA := hbq
 have hroA := hro
 have hriA := hri
 refine wd_l rfl (zj0 I_ok rfl fun b8 w9 hn8 hb8 hE9 => ⟨hC.zq4 hE9, ?_⟩)
 have ne3_8 : b3 ≠ b8 := Nat.ne_of_lt (Nat.lt_of_lt_of_le hb3.lt hn8)
 have ne4_8 : b4 ≠ b8 := Nat.ne_of_lt (Nat.lt_of_lt_of_le hb4.lt hn8)
 have ne6_8 : b6 ≠ b8 := Nat.ne_of_lt (Nat.lt_of_lt_of_le hb6.lt hn8)
 have fr8 := Nat.le_trans hX.size hn8
 have hb3 := hb3.zq3 hE9
 have hb4 := hb4.zq3 hE9
 have hb6 := hb6.zq3 hE9
 have hX := hX.zq4 hE9
 have hC := hC.zq4 hE9
 have hEa8 := hE9
 have nqb8 : qb ≠ b8 := fun e => by have := hbqA.lt; omega
 have eqb : ∀ y, OwnB (some ⟨qb, 0, none⟩) y → y = qb := fun y hy => (congrArg Addr.block (Option.some.inj hy)).symm
 refine wd_sw (wb rfl (zj5 (l' := zv0 l[jx]) I_ok hb8 rfl rfl hnj.c (by rw [hnj.c]; rfl) OneC.h fun w10 hb8 hE10 hs10 => ?_))
 have hb3 := hb3.ext1 hE10 ne3_8
 have hb4 := hb4.ext1 hE10 ne4_8
 have hb6 := hb6.ext1 hE10 ne6_8
 have hbq := hbqA.ext ((Ext.no hEa8).trans hE10 fun _ _ k => k) (fun k => by have k : qb = b8 := k; have := hbqA.lt; omega)
 have hro := hroA.ext ((Ext.no hEa8).trans hE10 fun _ _ k => k) (fun k => by have k : qb = b8 := k; have := hbqA.lt; omega)
 have hri := hriA.ext ((Ext.no hEa8).trans hE10 fun _ _ k => k) (fun k => by have k : qb = b8 := k; have := hbqA.lt; omega)
 have hX := hX.zx1 hE10 fr8
 refine zj2 (zq1 ?_)
 refine c_cutK (α := List zx8 × Option Addr × Nat) [4, 6] rfl (fun z => []) (fun z u => (Sl u z.2.1 z.1.length 105 (z.1.flatMap zv0) ∧ (∀ x off, z.2.1 = some ⟨x, off, none⟩ → ¬ x = b4) ∧ (∀ x off, z.2.1 = some ⟨x, off, none⟩ → w.heap.size ≤ x) ∧ TurnQ l z.1) ∧ Blk u b4 30 ([.slice none 0 0]) ∧ Blk u b6 30 ([.slice z.2.1 z.1.length z.2.2]) ∧ Ext No w u) ?_ ?_
 ·refine zq5 ?_
  refine zq0 (wl_p I_ok rfl (wl (st_ldb I_ok hb3 rfl rfl (wl_p I_ok rfl (zq2 (zq1 (zx4 (zq5 (zq0 (wl_p I_ok rfl (zq2 (zq1 (c_if rfl (fun hc => ?_) (fun hc => ?_))))))))))))))
  ·refine c_draw rfl 10 [(0, true), (1, true), (2, true), (3, true), (4, true), (5, true), (6, true), (7, true), (8, true), (9, true)] [10, 11, 12] (No) (by kernel_rfl) fun w11 hE11 hs11 => ?_
   have hd6 := hb6
   have hb4 := hb4.zq3 hE11
   have hb6 := hb6.zq3 hE11
   have hbq := hbq.zq3 hE11
   have hX := hX.zq4 hE11
   refine wd_k I_ok 1 rfl (zv2 I_ok rfl rfl (fun w' hw' => (hd6.zq3 hw').cell rfl) ?_)
   refine wd_k I_ok 2 rfl (wd_sl I_ok rfl rfl 0 ix ix 105 rfl (.inl ⟨rfl, rfl⟩) (.inl rfl) (.inr ⟨rfl, rfl⟩) (Nat.zero_le _) (Nat.le_refl _) (by dsimp only; omega) ?_)
   dsimp only
   rw [slBase_zero, Nat.sub_zero]
   refine wd_k I_ok 1 rfl (zv2 I_ok rfl rfl (fun w' hw' => (hd6.zq3 hw').cell rfl) ?_)
   refine wd_k I_ok 2 rfl ?_
   rw [IntWalk.i64_in _ (by omega)]
   refine wd_sl I_ok rfl rfl (ix + 1) l.length k 105 rfl (.inr ⟨rfl, rfl⟩) (.inr ⟨rfl, rfl⟩) (.inl (congrArg some (by omega))) (by omega) hnc (Nat.le_refl _) ?_
   dsimp only
   refine wd_sw ?_
   refine wb rfl (st_appF2 I_ok rfl 105 224 rfl rfl rfl (by decide) (show OwnF w11 (some ⟨qb, 0, none⟩) ix ix 52 105 ((l.take ix).flatMap zv0) from ⟨qb, 0, L0, rfl, hbq, by rw [hL0]; have := Nat.mul_le_mul_right 105 (show ix ≤ k by omega); omega, Nat.le_refl _, by omega, held_head h.c htk (by omega)⟩) (Src.slice (held_tail (i := ix + 1) (show Sl w11 (some ⟨qb, 0, none⟩) l.length 105 (l.flatMap zv0) from (show Own w11 (some ⟨qb, 0, none⟩) l.length k 52 105 (l.flatMap zv0) from .inr ⟨qb, L0, rfl, hbq, hL0, hnc, hcm, htk⟩).sl) h.c hix hnc) OneC.h) (by dsimp only [maxLen]; omega) (by dsimp only; omega) fun p12 c12 w12 ho12 hE12 hB12 => ?_)
   dsimp only at ho12 hE12 hB12 ⊢
   have hXb := hX
   have hEq : Ext (One qb) _ w12 := hE12.mono fun x _ e => by obtain ⟨o, e⟩ := e; cases e; rfl
   have hX := hX.zx1 hEq (hqn qb rfl)
   have hb4 := hb4.ext1 hEq (hb4.ne hbq (by decide))
   have hb6 := hb6.ext1 hEq (hb6.ne hbq (by decide))
   have eL : (l.eraseIdx ix).length = ix + (l.length - (ix + 1)) := by rw [List.length_eraseIdx_of_lt hix]; omega
   have hq2 : OwnF w12 p12 (l.eraseIdx ix).length c12 52 105 ((l.eraseIdx ix).flatMap zv0) := by
    rw [eL, List.eraseIdx_eq_take_drop_succ, List.flatMap_append]
    exact ho12
   rw [← eL]
   have hT := turn_sub (m := l.eraseIdx ix) (by omega) fun y hy => List.mem_of_mem_eraseIdx hy
   have nq4 : ∀ x off, p12 = some ⟨x, off, none⟩ → ¬ x = b4 := fun x off e => hq2.ty ⟨off, e⟩ hb4 (by decide)
   have nq6 : ∀ x off, p12 = some ⟨x, off, none⟩ → ¬ x = b6 := fun x off e => hq2.ty ⟨off, e⟩ hb6 (by decide)
   have hqS := hq2.sl
   have nqw : ∀ x off, p12 = some ⟨x, off, none⟩ → w.heap.size ≤ x := fun x off e => (hB12 x ⟨off, e⟩).elim (fun k => by obtain ⟨o, k⟩ := k; cases k; exact hqn qb rfl) fun k => Nat.le_trans hXb.size k
   obtain ⟨q2, k2, e1, e2⟩ : ∃ q2 k2, q2 = p12 ∧ k2 = c12 := ⟨_, _, rfl, rfl⟩
   rw [← e1] at hqS nq4 nq6 nqw
   rw [← e1, ← e2]
   refine wb rfl (st_p I_ok rfl rfl rfl (wb rfl (st_st I_ok hb6 rfl rfl rfl fun w13 hb6 hE13 hs13 => ?_)))
   have hb4 := hb4.ext1 hE13 ne4_6
   have hqS := hqS.ext hE13 nq6
   have hX := hX.zx1 hE13 fr6
   have hb6 : Blk w13 b6 30 ([.slice q2 (l.eraseIdx ix).length k2]) := hb6
   refine zj2 ?_
   exact zx6 (zz5 (l.eraseIdx ix, q2, k2) rfl ⟨⟨hqS, nq4, nqw, hT⟩, hb4, hb6, hX⟩)
  ·refine zq5 ?_
   refine zq0 (wl_p I_ok rfl (zq2 (zq1 (c_if rfl (fun hc => ?_) (fun hc => ?_)))))
   ·refine zq0 ?_
    refine wl_p I_ok rfl (wl (st_ldN I_ok rfl (held_obj hb8.seg hnj.id) (zq8 hnj.o) (wl_p I_ok rfl ?_)))
    refine wl (st_stN I_ok hbq rfl (by rw [zz3]; exact zq8 hnj.o) (by show 0 + ix * 105 + (31 + 1) + 73 ≤ _; rw [hL0]; have := Nat.mul_le_mul_right 105 hnc; have := Nat.mul_le_mul_right 105 (show ix + 1 ≤ l.length from hix); omega) (by rw [zz3]; exact OneC.h) fun w14 hbq2 hE14 hs14 => ?_)
    rw [zz3, show 0 + ix * 105 + (31 + 1) = ix * 105 + 32 from by omega] at hbq2
    have hqs := own_row (i := ix) (off := 32) (x := ⟨l[ix].id, l[jx].o, l[jx].a⟩) hix h.c hL0 hnc hcm htk (by rw [zq8 hnj.o]; decide) (heldC_len (h := ⟨l[ix].id, l[jx].o, l[jx].a⟩) hni.id hnj.o) (put_obj hni.id hni.o hnj.o) hbq2
    have hT := turn_set (i := ix) (x := ⟨l[ix].id, l[jx].o, l[jx].a⟩) (fun u hu => ⟨(hu _ (List.getElem_mem hix)).id, (hu _ (List.getElem_mem hjx)).o, (hu _ (List.getElem_mem hjx)).sh, (hu _ (List.getElem_mem hjx)).l⟩) (List.getElem_mem hjx) rfl (Nat.le_succ _)
    have hqn1 : w.heap.size ≤ qb := hqn qb rfl
    have hX := hX.zx1 hE14 hqn1
    have hb4 := hb4.ext1 hE14 (hb4.ne hbq (by decide))
    have hb6 := hb6.ext1 hE14 (hb6.ne hbq (by decide))
    refine zq2 ?_
    have hls : (l.set ix ⟨l[ix].id, l[jx].o, l[jx].a⟩).length = l.length := List.length_set
    rw [← hls] at hb6
    exact zx6 (zz5 (l.set ix ⟨l[ix].id, l[jx].o, l[jx].a⟩, some ⟨qb, 0, none⟩, k) rfl ⟨⟨hqs.sl, fun x off e => by cases e; exact (hb4.ne hbq2 (by decide)).symm, fun x off e => by cases e; exact hqn qb rfl, hT⟩, hb4, hb6, hX⟩)
   ·refine zq5 ?_
    refine zq0 (wl_p I_ok rfl (zq2 (zq1 (c_if rfl (fun hc => ?_) (fun hc => ?_)))))
    ·refine c_draw rfl 12 [(0, true), (1, true), (2, true), (3, true), (4, true), (5, true), (6, true), (7, true), (8, true), (9, true), (10, true), (11, true)] [12] (No) (by kernel_rfl) fun w15 hE15 hs15 => ?_
     have hd3 := hb3
     have hrod := hro
     have hb4 := hb4.zq3 hE15
     have hb6 := hb6.zq3 hE15
     have hbq := hbq.zq3 hE15
     have hX := hX.zq4 hE15
     refine wd_k I_ok 4 rfl (zv2 I_ok rfl rfl (fun w' hw' => (by rw [show 0 + ix * 105 + (31 + 1) + (69 + 1) = ix * 105 + 32 + 70 from by omega]; exact ((hrod.zq3 hw').obj hni.o).number)) ?_)
     refine wd_k I_ok 1 rfl (zv2 I_ok rfl rfl (fun w' hw' => (hd3.zq3 hw').cell rfl) ?_)
     refine wd_k I_ok 5 rfl (wd_sw ?_)
     refine wb rfl (st_set I_ok hbq rfl rfl (by show 0 + ix * 105 + (31 + 1) + (69 + 1) < _; rw [hL0]; have := Nat.mul_le_mul_right 105 hnc; have := Nat.mul_le_mul_right 105 (show ix + 1 ≤ l.length from hix); omega) fun w16 hbq2 hE16 hs16 => ?_)
     obtain ⟨N2, hN2, hNe⟩ := u32_nat ((l[ix].o.number : Int) + IntKind.u32.wrap n)
     rw [hNe, put_one (by rw [hL0]; have := Nat.mul_le_mul_right 105 hnc; have := Nat.mul_le_mul_right 105 (show ix + 1 ≤ l.length from hix); show 0 + ix * 105 + (31 + 1) + (69 + 1) < _; omega)] at hbq2
     rw [show 0 + ix * 105 + (31 + 1) + (69 + 1) = ix * 105 + 102 from by omega] at hbq2
     have hxu : ∀ u, (∀ z ∈ l, HeldIn u z) → HeldIn u ⟨l[ix].id, { l[ix].o with number := N2 }, l[ix].a⟩ := fun u hu => by
      have hni := hu _ (List.getElem_mem hix)
      have hnj := hu _ (List.getElem_mem hjx)
      exact ⟨hni.id, ⟨hni.o.tree, hni.o.base, hni.o.parents, hni.o.leaves, hni.o.rows, hN2, hni.o.author⟩, ⟨hni.sh.leaves, hni.sh.parents, hni.sh.rows, hni.sh.leafP, hni.sh.rowP⟩, ⟨hni.l.leaves, hni.l.parents, hni.l.rows⟩⟩
     have hxi := hxu w h.ins
     have hqs := own_row (i := ix) (off := 102) (x := ⟨l[ix].id, { l[ix].o with number := N2 }, l[ix].a⟩) hix h.c hL0 hnc hcm htk (by show 102 + 1 ≤ 105; omega) hxi.c (put_num hni.id hni.o) hbq2
     have hT := turn_set (i := ix) hxu (List.getElem_mem hix) rfl (Nat.le_succ _)
     have hqn1 : w.heap.size ≤ qb := hqn qb rfl
     have hX := hX.zx1 hE16 hqn1
     have hb4 := hb4.ext1 hE16 (hb4.ne hbq (by decide))
     have hb6 := hb6.ext1 hE16 (hb6.ne hbq (by decide))
     refine zj2 ?_
     have hls : (l.set ix ⟨l[ix].id, { l[ix].o with number := N2 }, l[ix].a⟩).length = l.length := List.length_set
     rw [← hls] at hb6
     exact zx6 (zz5 (l.set ix ⟨l[ix].id, { l[ix].o with number := N2 }, l[ix].a⟩, some ⟨qb, 0, none⟩, k) rfl ⟨⟨hqs.sl, fun x off e => by cases e; exact (hb4.ne hbq2 (by decide)).symm, fun x off e => by cases e; exact hqn qb rfl, hT⟩, hb4, hb6, hX⟩)
    ·refine zq5 ?_
     refine zq0 (wl_p I_ok rfl (zq2 (zq1 (c_if rfl (fun hc => ?_) (fun hc => ?_)))))
     ·refine zq0 ?_
      refine wl_p I_ok rfl (wl (st_ldN I_ok rfl (held_id hb8.seg) (IdIn.len hnj.id) (wl_p I_ok rfl ?_)))
      refine wl (st_stN I_ok hbq rfl (by rw [zz3]; exact IdIn.len hnj.id) (by show 0 + ix * 105 + (31 + 1) + (3 + 1) + 32 ≤ _; rw [hL0]; have := Nat.mul_le_mul_right 105 hnc; have := Nat.mul_le_mul_right 105 (show ix + 1 ≤ l.length from hix); omega) (by rw [zz3]; exact OneC.h) fun w17 hbq2 hE17 hs17 => ?_)
      rw [zz3, show 0 + ix * 105 + (31 + 1) + (3 + 1) = ix * 105 + 36 from by omega] at hbq2
      have hxu : ∀ u, (∀ z ∈ l, HeldIn u z) → HeldIn u ⟨l[ix].id, { l[ix].o with tree := l[jx].id }, l[ix].a⟩ := fun u hu => by
       have hni := hu _ (List.getElem_mem hix)
       have hnj := hu _ (List.getElem_mem hjx)
       exact ⟨hni.id, ⟨hnj.id, hni.o.base, hni.o.parents, hni.o.leaves, hni.o.rows, hni.o.number, hni.o.author⟩, ⟨hni.sh.leaves, hni.sh.parents, hni.sh.rows, hni.sh.leafP, hni.sh.rowP⟩, ⟨hni.l.leaves, hni.l.parents, hni.l.rows⟩⟩
      have hxi := hxu w h.ins
      have hqs := own_row (i := ix) (off := 36) (x := ⟨l[ix].id, { l[ix].o with tree := l[jx].id }, l[ix].a⟩) hix h.c hL0 hnc hcm htk (by rw [zq7, hnj.id]; decide) hxi.c (put_tree hni.id hni.o hnj.id) hbq2
      have hT := turn_set (i := ix) hxu (List.getElem_mem hix) (links_tree _ _) (Nat.le_succ _)
      have hqn1 : w.heap.size ≤ qb := hqn qb rfl
      have hX := hX.zx1 hE17 hqn1
      have hb4 := hb4.ext1 hE17 (hb4.ne hbq (by decide))
      have hb6 := hb6.ext1 hE17 (hb6.ne hbq (by decide))
      refine zq2 ?_
      have hls : (l.set ix ⟨l[ix].id, { l[ix].o with tree := l[jx].id }, l[ix].a⟩).length = l.length := List.length_set
      rw [← hls] at hb6
      exact zx6 (zz5 (l.set ix ⟨l[ix].id, { l[ix].o with tree := l[jx].id }, l[ix].a⟩, some ⟨qb, 0, none⟩, k) rfl ⟨⟨hqs.sl, fun x off e => by cases e; exact (hb4.ne hbq2 (by decide)).symm, fun x off e => by cases e; exact hqn qb rfl, hT⟩, hb4, hb6, hX⟩)
     ·refine zq5 ?_
      refine zq0 (wl_p I_ok rfl (zq2 (zq1 (c_if rfl (fun hc => ?_) (fun hc => ?_)))))
      ·refine c_draw rfl 10 [(0, true), (1, true), (2, true), (3, true), (4, true), (5, true), (6, true), (7, true), (8, true), (9, false)] [10, 11, 12] (No) (by kernel_rfl) fun w18 hE18 hs18 => ?_
       have hd6 := hb6
       have hd8 := hb8
       have hrid := hri
       have hb4 := hb4.zq3 hE18
       have hb6 := hb6.zq3 hE18
       have hbq := hbq.zq3 hE18
       have hX := hX.zq4 hE18
       have hC : Ext (No) _ w18 := hE18.no
       refine wd_k I_ok 1 rfl (zv2 I_ok rfl rfl (fun w' hw' => (hd6.zq3 hw').cell rfl) ?_)
       refine wd_k I_ok 3 rfl (wd_ldN I_ok rfl rfl (fun w' hw' => (by have := hrid.zq3 hw'; rw [show 0 + ix * 105 + 0 = ix * 105 from by omega]; exact this)) (IdIn.len hni.id) ?_)
       refine wd_k I_ok 1 rfl (wd_ldN I_ok rfl rfl (fun w' hw' => (held_obj (hd8.zq3 hw').seg hnj.id)) (zq8 hnj.o) ?_)
       refine wd_bd I_ok rfl rfl ⟨⟨by rw [zz3, zq7, hni.id], by decide⟩, ⟨by rw [zz3]; exact zq8 hnj.o, by decide⟩, trivial⟩ (l' := zv0 ⟨l[ix].id, l[jx].o, l[jx].a⟩) (by rw [heldZ_c]; exact held_build hni.id hnj.o) ?_
       refine wd_l rfl (st_bs I_ok rfl 105 rfl heldZ_c (by rw [List.length_append, zq7, zq8 objZ_in]; rfl) (by decide) (by decide) ⟨⟨by rw [zz3]; exact heldC_len (h := ⟨l[ix].id, l[jx].o, l[jx].a⟩) hni.id hnj.o, by decide⟩, trivial⟩ (l' := zv0 ⟨l[ix].id, l[jx].o, l[jx].a⟩) (one_held (h := ⟨l[ix].id, l[jx].o, l[jx].a⟩) (heldC_len (h := ⟨l[ix].id, l[jx].o, l[jx].a⟩) hni.id hnj.o)) fun b107 w19 hn107 hb107 hE19 hs19 => ⟨hC.zq4 hE19, ?_⟩)
       have hb4 := hb4.zq3 hE19
       have hb6 := hb6.zq3 hE19
       have hbq := hbq.zq3 hE19
       have hX := hX.zq4 hE19
       refine wd_sw ?_
       have hX1 := hX
       have hs107 : Sl w19 (some ⟨b107, 0, none⟩) 1 105 (zv0 ⟨l[ix].id, l[jx].o, l[jx].a⟩) := ⟨heldC_len (h := ⟨l[ix].id, l[jx].o, l[jx].a⟩) hni.id hnj.o, .inr ⟨b107, 0, rfl, hb107.seg⟩⟩
       have hqs := (show Own w19 (some ⟨qb, 0, none⟩) l.length k 52 105 (l.flatMap zv0) from .inr ⟨qb, L0, rfl, hbq, hL0, hnc, hcm, htk⟩)
       have hxu : ∀ u, (∀ z ∈ l, HeldIn u z) → HeldIn u ⟨l[ix].id, l[jx].o, l[jx].a⟩ := fun u hu => by
        have hni := hu _ (List.getElem_mem hix)
        have hnj := hu _ (List.getElem_mem hjx)
        exact ⟨hni.id, hnj.o, hnj.sh, hnj.l⟩
       have hxi := hxu w h.ins
       have hT := turn_app (x := ⟨l[ix].id, l[jx].o, l[jx].a⟩) hxu (List.getElem_mem hjx) rfl (Nat.le_succ _)
       refine wb rfl (zj8 I_ok rfl 105 224 rfl rfl rfl (by decide) (show Own w19 (some ⟨qb, 0, none⟩) l.length k 52 105 (l.flatMap zv0) from .inr ⟨qb, L0, rfl, hbq, hL0, hnc, hcm, htk⟩) (Src.slice (m := 1) hs107 OneC.h) (by dsimp only [maxLen]; omega) (by dsimp only; omega) fun p20 c20 w20 ho20 hE20 hB20 => ?_)
       dsimp only at ho20 hE20 hB20 ⊢
       have hX := hX1.trans hE20 fun y hy hF => by have := hqn y hF; omega
       have hb4 := hb4.zx0 hqs hE20 (by decide)
       have hb6 := hb6.zx0 hqs hE20 (by decide)
       obtain ⟨q2, k2, e1, e2, hq2⟩ : ∃ q2 k2, q2 = p20 ∧ k2 = c20 ∧ Own w20 q2 (l ++ [(⟨l[ix].id, l[jx].o, l[jx].a⟩ : zx8)]).length k2 52 105 ((l ++ [(⟨l[ix].id, l[jx].o, l[jx].a⟩ : zx8)]).flatMap zv0) := ⟨_, _, rfl, rfl, by
        rw [List.flatMap_append, List.length_append, List.flatMap_singleton]
        exact ho20⟩
       have hqn2 := newW hX1 hqn hB20
       rw [← e1] at hqn2
       rw [← e1, ← e2]
       refine wb rfl (st_p I_ok rfl rfl rfl ?_)
       have hb6o := hb6
       refine wb rfl (st_st I_ok hb6 rfl rfl rfl fun w21 hb6 hE21 hs21 => ?_)
       have hb4 := hb4.ext1 hE21 ne4_6
       have hq2 := hq2.zx9 hE21 hb6o (by decide)
       have hX := hX.zx1 hE21 fr6
       have hb6 : Blk w21 b6 30 ([.slice q2 (l ++ [(⟨l[ix].id, l[jx].o, l[jx].a⟩ : zx8)]).length k2]) := (by rw [List.length_append]; exact hb6)
       refine zj2 ?_
       exact zx6 (zz5 (l ++ [(⟨l[ix].id, l[jx].o, l[jx].a⟩ : zx8)], q2, k2) rfl ⟨⟨hq2.sl, own_neS hq2 hb4 (by decide), own_newS hq2 hqn2, hT⟩, hb4, hb6, hX⟩)
      ·refine zq0 ?_
       refine wl_p I_ok rfl (wl (st_ld I_ok rfl (by rw [show 0 + ix * 105 + (31 + 1) + (71 + 1) = ix * 105 + 32 + 72 from by omega]; exact (hro.obj hni.o).note) ?_))
       refine wl (st_cat rfl (by have := hf _ (List.getElem_mem hix); show l[ix].o.note.length + 1 ≤ _; omega) ?_)
       rw [show (strU l[ix].o.note ++ _ : ByteArray) = strU (l[ix].o.note ++ [120]) from strU_x _]
       refine wl_p I_ok rfl ?_
       refine wl (st_set I_ok hbq rfl rfl (by show 0 + ix * 105 + (31 + 1) + 72 < _; rw [hL0]; have := Nat.mul_le_mul_right 105 hnc; have := Nat.mul_le_mul_right 105 (show ix + 1 ≤ l.length from hix); omega) fun w22 hbq2 hE22 hs22 => ?_)
       rw [put_one (by rw [hL0]; have := Nat.mul_le_mul_right 105 hnc; have := Nat.mul_le_mul_right 105 (show ix + 1 ≤ l.length from hix); show 0 + ix * 105 + (31 + 1) + 72 < _; omega)] at hbq2
       rw [show 0 + ix * 105 + (31 + 1) + 72 = ix * 105 + 104 from by omega] at hbq2
       have hxu : ∀ u, (∀ z ∈ l, HeldIn u z) → HeldIn u ⟨l[ix].id, { l[ix].o with note := l[ix].o.note ++ [120] }, l[ix].a⟩ := fun u hu => by
        have hni := hu _ (List.getElem_mem hix)
        have hnj := hu _ (List.getElem_mem hjx)
        exact ⟨hni.id, ⟨hni.o.tree, hni.o.base, hni.o.parents, hni.o.leaves, hni.o.rows, hni.o.number, hni.o.author⟩, ⟨hni.sh.leaves, hni.sh.parents, hni.sh.rows, hni.sh.leafP, hni.sh.rowP⟩, ⟨hni.l.leaves, hni.l.parents, hni.l.rows⟩⟩
       have hxi := hxu w h.ins
       have hqs := own_row (i := ix) (off := 104) (x := ⟨l[ix].id, { l[ix].o with note := l[ix].o.note ++ [120] }, l[ix].a⟩) hix h.c hL0 hnc hcm htk (Nat.le_refl _) hxi.c (put_note hni.id hni.o) hbq2
       have hT := turn_set (i := ix) hxu (List.getElem_mem hix) rfl (by show (l[ix].o.note ++ [120]).length ≤ _; rw [List.length_append]; exact Nat.le_refl _)
       have hqn1 : w.heap.size ≤ qb := hqn qb rfl
       have hX := hX.zx1 hE22 hqn1
       have hb4 := hb4.ext1 hE22 (hb4.ne hbq (by decide))
       have hb6 := hb6.ext1 hE22 (hb6.ne hbq (by decide))
       refine zq2 ?_
       have hls : (l.set ix ⟨l[ix].id, { l[ix].o with note := l[ix].o.note ++ [120] }, l[ix].a⟩).length = l.length := List.length_set
       rw [← hls] at hb6
       exact zx6 (zz5 (l.set ix ⟨l[ix].id, { l[ix].o with note := l[ix].o.note ++ [120] }, l[ix].a⟩, some ⟨qb, 0, none⟩, k) rfl ⟨⟨hqs.sl, fun x off e => by cases e; exact (hb4.ne hbq2 (by decide)).symm, fun x off e => by cases e; exact hqn qb rfl, hT⟩, hb4, hb6, hX⟩)
 rintro ⟨m, q, k⟩ w23 ⟨⟨hq, hq4, hqw, hT⟩, hb4, hb6, hX⟩
 try dsimp only
 dsimp only at hq hq4 hqw hT
 refine zq5 (zq0 (wl (zj4 I_ok hb6 rfl rfl ?_)))
 refine wl (zj5 (l' := [.slice q m.length k]) I_ok hb4 rfl rfl rfl rfl OneC.h fun w24 hb4 hE24 hs24 => ?_)
 have hq := hq.ext hE24 hq4
 have hX := hX.zx1 hE24 fr4
 refine zq2 (zq1 (zz8 (f_ret [_] ⟨⟨b4, 0, rfl, ld_all I_ok rfl rfl hb4.seg rfl⟩, trivial⟩ ?_)))
 exact ⟨q, k, m, rfl, hq, hqw, hT, hX⟩
end Go.Proofs.YtoapldhadeoeiaaGreatDoor
namespace Go.Proofs.YtoapldhadeoeiaaGreatDoor
open Go.Vc
/-- it holds however blocks of S turn -/
def Stb (S : Nat → Prop) (w : World) (P : World → Prop) : Prop := ∀ w', Ext S w w' → P w'
theorem Stb.now {S : Nat → Prop} {w : World} {P : World → Prop} (h : Stb S w P) : P w := h w (Ext.refl _ _)
theorem Stb.step {S S' T : Nat → Prop} {w w' : World} {P : World → Prop} (h : Stb S w P) (hE : Ext T w w') (hT : ∀ x, x < w.heap.size → T x → S x) (hS : ∀ x, x < w.heap.size → S' x → S x) : Stb S' w' P := fun w2 h2 => h w2 ((hE.mono hT).trans h2 hS)
theorem Stb.sub {S S' : Nat → Prop} {w : World} {P : World → Prop} (h : Stb S w P) (hS : ∀ x, x < w.heap.size → S' x → S x) : Stb S' w P := fun w2 h2 => h w2 (h2.mono hS)
theorem Stb.no {S : Nat → Prop} {w w' : World} {P : World → Prop} (h : Stb S w P) (hE : Ext No w w') : Stb S w' P := h.step hE (fun _ _ k => k.elim) fun _ _ k => k
theorem Stb.one {S : Nat → Prop} {w w' : World} {P : World → Prop} {b : Nat} (h : Stb S w P) (hE : Ext (One b) w w') (hb : S b) : Stb S w' P := h.step hE (fun x _ e => by have e : x = b := e; subst e; exact hb) fun _ _ k => k
/-- a number modulo how many there are -/
def ix64 (a : Int) (n : Nat) : Nat := (IntKind.u64.wrap a).toNat % n
theorem ix64_lt (a : Int) {n : Nat} (hn : 0 < n) : ix64 a n < n := Nat.mod_lt _ hn
theorem ix64_eq (a : Int) {n : Nat} (hn : 0 < n) (hn2 : n < 1000000) : IntKind.i64.wrap ((IntKind.u64.wrap a).tmod (IntKind.u64.wrap (n : Int))) = (ix64 a n : Int) := by
 obtain ⟨N, hN⟩ := Int.eq_ofNat_of_zero_le (u64_pos a)
 have h1 := Nat.mod_lt N hn
 unfold ix64
 rw [IntWalk.u64_in (n : Int) (by omega), hN, ← Int.ofNat_tmod, IntWalk.i64_in _ (by omega)]
 rfl
/-- a step -/
structure StepD where
  rows : List RowD
  back : List Int
  note : Str
def pickI (ids : List IdB) (b : Int) : IdB := ids.getD (ix64 b ids.length) []
/-- a commit's parents -/
def parD (ids : List IdB) (back : List Int) : List IdB := if ids.length = 0 then [] else match (back.take 2).map (pickI ids) with
  | [a, b] => if b = a then [a] else [a, b]
  | l => l
def comD (h : Hp) (ids : List IdB) (s : StepD) : ObjD := { objZ with kind := 3, style := 1 + ((parD ids s.back).length : Int), tree := idOf (treeOf (tex8 s.rows)), note := s.note.take 20, parents := parD ids s.back, number := h.top (parD ids s.back) }
def putO (h : Hp) (o : ObjD) : Hp := if idOf o ∈ List.map Prod.fst h then h else h ++ [(idOf o, o)]
def putD (h : Hp) (l : List ObjD) : Hp := l.foldl putO h
def partO (rows : List RowD) : List ObjD := (refT rows).map blobO ++ [treeOf rows]
def stepD (x : Hp × List IdB) (s : StepD) : Hp × List IdB := if RowsOk (tex8 s.rows) ∧ ObjOk (treeOf (tex8 s.rows)) then
  (putD x.1 (partO (tex8 s.rows) ++ [comD x.1 x.2 s]), x.2 ++ [idOf (comD x.1 x.2 s)]) else x
def madeD (l : List StepD) : Hp × List IdB := (l.take 8).foldl stepD ([], [])
def madeN (l : List StepD) (n : Nat) : Hp × List IdB := (l.take n).foldl stepD ([], [])
theorem madeN_step {l : List StepD} {i : Nat} (h : i < l.length) : madeN l (i + 1) = stepD (madeN l i) l[i] := by
 rw [madeN, List.take_succ_eq_append_getElem h, List.foldl_append]; rfl
theorem madeN_end {l : List StepD} {i : Nat} (h : i = 8 ∨ i = l.length ∧ i ≤ 8) : madeN l i = madeD l := by
 unfold madeN madeD
 rcases h with h | ⟨h, h8⟩
 ·rw [h]
 ·rw [h, List.take_length, List.take_of_length_le (by omega)]
theorem toHp_putS (l : List zx8) (x : ObjX) : toHp (putS l x) = putO (toHp l) x.1 := by
 unfold putS putO toHp
 rw [List.map_map]
 have e : (l.map ((fun x => x.fst) ∘ fun h => (h.id, h.o))) = l.map zx8.id := rfl
 rw [e]
 split
 ·rfl
 ·rw [List.map_append]; rfl
theorem toHp_putW (xs : List ObjX) : ∀ (l : List zx8), toHp (putW l xs) = putD (toHp l) (xs.map Prod.fst) := by
 induction xs with
 | nil => intro l; rfl
 | cons x xs ih =>
  intro l
  show toHp (putW (putS l x) xs) = putD (putO (toHp l) x.1) (xs.map Prod.fst)
  rw [ih, toHp_putS]
theorem parD_in {ids : List IdB} (hi : ∀ y ∈ ids, IdIn y) (back : List Int) : ∀ y ∈ parD ids back, IdIn y := fun y hy => by
 unfold parD at hy
 split at hy
 ·cases hy
 ·rename_i h0
  have hp : ∀ b, IdIn (pickI ids b) := fun b => by
   unfold pickI
   rw [List.getD_eq_getElem?_getD, List.getElem?_eq_getElem (ix64_lt b (by omega))]
   exact hi _ (List.getElem_mem _)
  have hall : ∀ z ∈ (back.take 2).map (pickI ids), IdIn z := fun z hz => by
   obtain ⟨b, _, rfl⟩ := List.mem_map.1 hz; exact hp b
  split at hy
  ·rename_i a b e
   rw [e] at hall
   split at hy
   ·exact hall y (by rw [List.mem_singleton.1 hy]; simp)
   ·exact hall y hy
  ·exact hall y hy
theorem parD_len (ids : List IdB) (back : List Int) : (parD ids back).length ≤ 2 := by
 unfold parD
 split
 ·exact Nat.zero_le _
 ·have h2 : ((back.take 2).map (pickI ids)).length ≤ 2 := by rw [List.length_map, List.length_take]; omega
  split
  ·split
   ·show 1 ≤ 2; omega
   ·exact Nat.le_refl 2
  ·exact h2
/-- the ways in which parents end -/
theorem parD_none {ids : List IdB} {back : List Int} (h : ids.length = 0) : parD ids back = [] := if_pos h
theorem parD_all {ids : List IdB} {back : List Int} (h : ids.length ≠ 0) {t : Nat} (ht : t = 2 ∨ t = back.length ∧ t ≤ 2) (hne : ∀ a b, (back.take t).map (pickI ids) = [a, b] → b ≠ a) : parD ids back = (back.take t).map (pickI ids) := by
 have e : back.take t = back.take 2 := by
  rcases ht with rfl | ⟨rfl, h2⟩
  ·rfl
  ·rw [List.take_length, List.take_of_length_le h2]
 rw [parD, if_neg h, ← e]
 split
 ·rename_i a b e2
  rw [if_neg (hne a b e2), e2]
 ·rfl
theorem parD_dup {ids : List IdB} {back : List Int} (h : ids.length ≠ 0) {b : Int} (hb : back[1]? = some b) {a : IdB} (ha : (back.take 1).map (pickI ids) = [a]) (hd : pickI ids b = a) : parD ids back = [a] := by
 rw [parD, if_neg h]
 rcases back with _ | ⟨x, _ | ⟨y, r⟩⟩
 ·cases ha
 ·cases hb
 ·have e1 : pickI ids x = a := by simpa using ha
  have e2 : y = b := by simpa using hb
  subst e2
  simp only [List.take, List.map_cons, List.map_nil]
  rw [hd, e1, if_pos rfl]
theorem comD_in {h : Hp} {ids : List IdB} {s : StepD} (hi : ∀ y ∈ ids, IdIn y) (hn : h.top (parD ids s.back) < 2 ^ 32) : ObjIn (comD h ids s) := ⟨zj9 _, objZ_in.base, fun r hr => parD_in hi _ r hr, fun _ hr => (by cases hr), fun _ hr => (by cases hr), hn, (by show 0 < 2 ^ 32; decide)⟩
theorem comD_bytes (h : Hp) (ids : List IdB) (s : StepD) : BytesIn (comD h ids s) := ⟨.inr (.inr rfl), fun k => absurd k (by show ¬ (3 : Int) = 1; decide), fun k => absurd k (by show ¬ (3 : Int) = 2; decide), fun _ => ⟨Nat.zero_le _, fun _ hr => (by cases hr)⟩, fun _ => ⟨parD_len _ _, by show (0 : Int) ≤ 1 + _; omega⟩, fun _ => by show (s.note.take 20).length ≤ 200; rw [List.length_take]; omega⟩
/-- a heap as it is made -/
structure FewN (l : List zx8) (n : Nat) : Prop where
  lk : ∀ h ∈ l, (zz9 h.o).length ≤ 40
  note : ∀ h ∈ l, h.o.note.length ≤ 20
  num : ∀ h ∈ l, h.o.number ≤ n
theorem kObj_num {l : List zx8} {n : Nat} (hn : ∀ h ∈ l, h.o.number ≤ n) (p : IdB) (k : Int) : ((toHp l).kObj p k).number ≤ n := by
 unfold Hp.kObj
 split
 ·exact Nat.zero_le _
 ·rcases Hp.obj_held (l := l) (x := p) with e | ⟨y, hy, e⟩
  ·rw [e]; exact Nat.zero_le _
  ·rw [e]; exact hn y hy
theorem top_snoc (h : Hp) (l : List IdB) (p : IdB) : h.top (l ++ [p]) = max (h.top l) ((h.kObj p 3).number + 1) := by
 rw [Hp.top, List.foldl_append]; rfl
theorem tex8_len (l : List RowD) : (tex8 l).length ≤ 4 := by rw [tex8, List.length_map, List.length_take]; omega
theorem partO_len (l : List RowD) : (partO l).length ≤ l.length + 1 := by rw [partO, List.length_append, List.length_map]; have := refT_len l; show _ + 1 ≤ _; omega
end Go.Proofs.YtoapldhadeoeiaaGreatDoor
namespace Go.Vc
theorem Ag.shadow {f : Fs} {env : Env} {a : Act} (h : Ag f env a) {d : Nat} {v v' : Value} (hd : lk env d = some v) (hv : v = v') : Ag f ((d, v') :: env) a :=
 ⟨h.defers, h.size, fun i u hi => by
  rw [lk_cons] at hi
  split at hi
  ·rename_i e; subst e; simp at hi; subst hi; subst hv; exact h.get _ _ hd
  ·exact h.get _ _ hi⟩
section
variable {P : Program} {f : Fs} {ops : Array Oper} {Q : XPost} {env : Env} {w : World}
theorem wl_put {l : List Oper} (d : Nat) {v v' : Value} (hd : lk env d = some v) (hv : v = v') (h : WL P f ops Q l ((d, v') :: env) w) : WL P f ops Q l env w := fun a ha => h a (ha.shadow hd hv)
theorem wc_put {c : Code} (d : Nat) {v v' : Value} (hd : lk env d = some v) (hv : v = v') (h : WC P f c Q ((d, v') :: env) w) : WC P f c Q env w := fun a ha => h a (ha.shadow hd hv)
theorem fin_put {e : Exit} (d : Nat) {v v' : Value} (hd : lk env d = some v) (hv : v = v') (h : Fin f Q e ((d, v') :: env) w) : Fin f Q e env w := fun a ha => h a (ha.shadow hd hv)
theorem wd_put {K : Act → World → Prop} {r : Dr} {pl : List (Nat × Bool)} {dn : List Nat} (d : Nat) {v v' : Value} (hd : lk env d = some v) (hv : v = v') (h : WD P f ops K r pl dn ((d, v') :: env) w) : WD P f ops K r pl dn env w :=
 fun h1 h2 h3 h4 a ha => h h1 h2 h3 h4 a (ha.shadow hd hv)
end
end Go.Vc
namespace Go.Proofs.YtoapldhadeoeiaaGreatDoor
open Go.Vc
/-- a step, and where its rows lie -/
structure StepT where
  mp : Option Addr
  mc : Nat
  rows : List RowD
  bp : Option Addr
  bc : Nat
  back : List Int
  note : Str
abbrev StepT.d (s : StepT) : StepD := ⟨s.rows, s.back, s.note⟩
def stepC (s : StepT) : List Value := [.slice s.mp s.rows.length s.mc, .slice s.bp s.back.length s.bc, strV s.note]
instance (s : StepT) : OneC (stepC s) := by unfold stepC; infer_instance
theorem stepC_len (s : StepT) : (stepC s).length = 3 := rfl
def intC (n : Int) : List Value := [.int .i64 n]
structure StepIn (w : World) (s : StepT) : Prop where
  rows : Sl w s.mp s.rows.length 2 (s.rows.flatMap RowD.cells)
  rl : s.rows.length < 9223372036854775808
  back : Sl w s.bp s.back.length 1 (s.back.flatMap intC)
  bl : s.back.length < 9223372036854775808
structure TurnD where
  at_ : Int
  fl : Int
  n : Int
def turnC (t : TurnD) : List Value := [.int .i64 t.at_, .int .i64 t.fl, .int .i64 t.n]
instance (t : TurnD) : OneC (turnC t) := by unfold turnC; infer_instance
theorem turnC_len (t : TurnD) : (turnC t).length = 3 := rfl
def I64 (n : Int) : Prop := -9223372036854775808 ≤ n ∧ n ≤ 9223372036854775807
structure TurnIn (t : TurnD) : Prop where
  a : I64 t.at_
  f : I64 t.fl
  n : I64 t.n
/-- a heap and its commits, on the way -/
structure MZ where
  m : List zx8
  q : Option Addr
  k : Nat
  ids : List IdB
  qi : Option Addr
  ki : Nat
structure MadeS (N0 : Nat) (D : Hp × List IdB) (i : Nat) (z : MZ) : Prop where
  e : (toHp z.m, z.ids) = D
  few : FewN z.m i
  len : z.m.length ≤ 6 * i
  new : ∀ y, OwnB z.qi y → N0 ≤ y
  ids : ∀ y ∈ z.ids, IdIn y
  il : z.ids.length ≤ i
structure MadeY (b2 b4 : Nat) (z : MZ) (u : World) : Prop where
  hp : Stb (fun x => x = b2 ∨ x = b4 ∨ OwnB z.qi x) u (fun u => HpIn u z.q z.m)
  own : Own u z.qi z.ids.length z.ki 37 32 (z.ids.flatMap zq6)
structure MadeR (N b2 b4 : Nat) (z : MZ) (u : World) : Prop where
  n : N ≤ u.heap.size
  hp : Stb (fun x => (x = b2 ∨ x = b4 ∨ OwnB z.qi x) ∨ N ≤ x) u (fun u => HpIn u z.q z.m)
  own : Stb (fun x => (x = b2 ∨ x = b4) ∨ N ≤ x) u (fun u => Own u z.qi z.ids.length z.ki 37 32 (z.ids.flatMap zq6))
theorem MadeY.round {b2 b4 : Nat} {z : MZ} {u : World} (h : MadeY b2 b4 z u) {T2 T4 : Nat} {L2 L4 : List Value} (h2 : Blk u b2 T2 L2) (h4 : Blk u b4 T4 L4) (n2 : 37 ≠ T2) (n4 : 37 ≠ T4) : MadeR u.heap.size b2 b4 z u := by
 refine ⟨Nat.le_refl _, h.hp.sub fun x hx k => k.elim id fun k => absurd hx (by omega), fun w' hE => h.own.ext hE fun x hx k => ?_⟩
 rcases k with (k | k) | k
 ·exact h.own.neTy hx h2 n2 k
 ·exact h.own.neTy hx h4 n4 k
 ·have := h.own.lt hx; omega
theorem MadeR.ext {N b2 b4 : Nat} {z : MZ} {u u' : World} (h : MadeR N b2 b4 z u) {T : Nat → Prop} (hE : Ext T u u') (hT : ∀ x, x < u.heap.size → T x → N ≤ x) : MadeR N b2 b4 z u' :=
 ⟨Nat.le_trans h.n hE.size, h.hp.step hE (fun x hx k => .inr (hT x hx k)) fun _ _ k => k, h.own.step hE (fun x hx k => .inr (hT x hx k)) fun _ _ k => k⟩
theorem MadeR.no {N b2 b4 : Nat} {z : MZ} {u u' : World} (h : MadeR N b2 b4 z u) (hE : Ext No u u') : MadeR N b2 b4 z u' := h.ext hE fun _ _ k => k.elim
theorem MadeR.one {N b2 b4 : Nat} {z : MZ} {u u' : World} (h : MadeR N b2 b4 z u) {b : Nat} (hE : Ext (One b) u u') (hb : N ≤ b) : MadeR N b2 b4 z u' := h.ext hE fun x _ e => by have e : x = b := e; omega
theorem MadeR.app {N b2 b4 : Nat} {z : MZ} {u u' : World} (h : MadeR N b2 b4 z u) {q : Option Addr} (hE : Ext (OwnB q) u u') (hq : ∀ x, OwnB q x → N ≤ x) : MadeR N b2 b4 z u' := h.ext hE fun x _ e => hq x e
theorem MadeR.y {N b2 b4 : Nat} {z : MZ} {u : World} (h : MadeR N b2 b4 z u) : MadeY b2 b4 z u := ⟨h.hp.sub fun _ _ k => .inl k, h.own.now⟩
theorem MadeS.done {N0 i : Nat} {L : List StepD} {z : MZ} (h : MadeS N0 (madeN L i) i z) (hi : i = 8 ∨ i = L.length ∧ i ≤ 8) : MadeS N0 (madeD L) 8 z := by
 have h8 : i ≤ 8 := by omega
 exact ⟨h.e.trans (madeN_end hi), ⟨h.few.lk, h.few.note, fun x hx => Nat.le_trans (h.few.num x hx) h8⟩, by have := h.len; omega, h.new, h.ids, by have := h.il; omega⟩
theorem made0 (N0 : Nat) (L : List StepD) : MadeS N0 (madeN L 0) 0 ⟨[], none, 0, [], none, 0⟩ := ⟨rfl, ⟨fun _ h => (by cases h), fun _ h => (by cases h), fun _ h => (by cases h)⟩, Nat.zero_le _, fun y h => (by cases h), fun _ h => (by cases h), Nat.zero_le _⟩
theorem madeY0 (b2 b4 : Nat) (u : World) : MadeY b2 b4 ⟨[], none, 0, [], none, 0⟩ u := ⟨fun w' _ => ⟨Sl.nil _ _ _, fun _ h => (by cases h), by show 0 < 1000000; decide, by show 0 < 100000; decide⟩, Own.nil _ _ _⟩
/-- a step that makes nothing -/
theorem MadeS.skip {N0 i : Nat} {L : List StepD} {z : MZ} (h : MadeS N0 (madeN L i) i z) (hi : i < L.length) (hn : ¬ (RowsOk (tex8 L[i].rows) ∧ ObjOk (treeOf (tex8 L[i].rows)))) : MadeS N0 (madeN L (i + 1)) (i + 1) z :=
 ⟨by rw [madeN_step hi, stepD, if_neg hn]; exact h.e, ⟨h.few.lk, h.few.note, fun x hx => Nat.le_succ_of_le (h.few.num x hx)⟩, by have := h.len; omega, h.new, h.ids, by have := h.il; omega⟩
/-- objects out of a row of a heap -/
abbrev objs (l : List zx8) : List ObjX := l.map fun h => (h.o, h.a)
theorem one_obj {o : ObjD} {a : ObjP} (ho : ObjIn o) : putAll (rep 1 (objC objZ noP)) [(0 * (0 + 73), 0 + 73, .agg (objC o a).toArray)] = objC o a := by
 simp only [putAll, zz3]
 rw [Nat.zero_mul, put_whole (by rw [rep_length, zq8 ho, zq8 objZ_in])]
theorem objX_len {l : List ObjX} (h : ∀ x ∈ l, ObjIn x.1) : ∀ x ∈ l, (objX x).length = 73 := fun x hx => zq8 (h x hx)
theorem objs_step {l : List zx8} {j : Nat} (hj : j < l.length) : (objs (l.take (j + 1))).flatMap objX = (objs (l.take j)).flatMap objX ++ objC l[j].o l[j].a := by
 rw [List.take_succ_eq_append_getElem hj, objs, List.map_append, List.flatMap_append]
 simp [objs]
/-- a commit, on the way -/
def comT (h : Hp) (ids : List IdB) (s : StepD) (t : Nat) : ObjD := { objZ with kind := 3, style := 1 + (t : Int), tree := idOf (treeOf (tex8 s.rows)), note := s.note.take 20, parents := (s.back.take t).map (pickI ids), number := h.top ((s.back.take t).map (pickI ids)) }
abbrev parP (p : Option Addr) (c : Nat) : ObjP := ⟨none, 0, p, c, none, 0⟩
theorem pickI_in {ids : List IdB} (hi : ∀ y ∈ ids, IdIn y) (h0 : ids.length ≠ 0) (b : Int) : IdIn (pickI ids b) := by
 unfold pickI
 rw [List.getD_eq_getElem?_getD, List.getElem?_eq_getElem (ix64_lt b (by omega))]
 exact hi _ (List.getElem_mem _)
theorem pickI_at {ids : List IdB} {b : Int} (h : ix64 b ids.length < ids.length) : pickI ids b = ids[ix64 b ids.length] := by
 unfold pickI
 rw [List.getD_eq_getElem?_getD, List.getElem?_eq_getElem h]; rfl
theorem comT_in {h : Hp} {ids : List IdB} {s : StepD} {t : Nat} (hi : ∀ y ∈ ids, IdIn y) (h0 : t = 0 ∨ ids.length ≠ 0) (hn : ∀ p, (h.kObj p 3).number < 1000) : ObjIn (comT h ids s t) := by
 refine ⟨zj9 _, objZ_in.base, fun r hr => ?_, fun _ hr => (by cases hr), fun _ hr => (by cases hr), ?_, (by show 0 < 2 ^ 32; decide)⟩
 ·obtain ⟨b, hb, rfl⟩ := List.mem_map.1 hr
  rcases h0 with rfl | h0
  ·cases hb
  ·exact pickI_in hi h0 b
 ·have : h.top ((s.back.take t).map (pickI ids)) ≤ 1000 := top_le fun p _ => hn p
  show h.top _ < 2 ^ 32
  omega
theorem comT_len {ids : List IdB} {s : StepD} {t : Nat} (ht : t ≤ s.back.length) : ((s.back.take t).map (pickI ids)).length = t := by rw [List.length_map, List.length_take]; omega
theorem comT_done {h : Hp} {ids : List IdB} {s : StepD} {t : Nat} (ht : t ≤ s.back.length) (e : parD ids s.back = (s.back.take t).map (pickI ids)) : comT h ids s t = comD h ids s := by
 unfold comT comD
 rw [e, comT_len ht]
theorem back_snoc {ids : List IdB} {back : List Int} {t : Nat} (ht : t < back.length) : (back.take (t + 1)).map (pickI ids) = (back.take t).map (pickI ids) ++ [pickI ids back[t]] := by
 rw [List.take_succ_eq_append_getElem ht, List.map_append]; rfl
/-- the first form of a commit -/
theorem com_build {t : List UInt8} (ht : t.length = 32) (n : Str) : putAll (objC objZ noP) [(0, 1, .int .i64 3), (3, 1, .int .i64 1), (4, 32, .agg (zq6 t).toArray), (72, 1, strV n)] = objC { objZ with kind := 3, style := 1, tree := t, note := n } noP := by
 have l1 : (zq6 t).length = 32 := by rw [zq7, ht]
 have e0 : putAll (objC objZ noP) [(0, 1, .int .i64 3), (3, 1, .int .i64 1)] = ([.int .i64 3, strV [], .slice none 0 0, .int .i64 1] : List Value) ++ (zq6 idZ ++ (zq6 idZ ++ [Value.slice none 0 0, .slice none 0 0, .int .u32 0, .int .u32 0, strV []])) := by kernel_rfl
 have e1 : putAll (objC objZ noP) [(0, 1, .int .i64 3), (3, 1, .int .i64 1), (4, 32, .agg (zq6 t).toArray), (72, 1, strV n)] = put (put (putAll (objC objZ noP) [(0, 1, .int .i64 3), (3, 1, .int .i64 1)]) 4 (zq6 t)) 72 [strV n] := rfl
 rw [e1, e0]
 have l2 : (zq6 idZ).length = 32 := by rw [zq7]; rfl
 rw [put_eq _ 4 _ (by simp only [List.length_append, l1, l2]; decide)]
 obtain ⟨A, hA⟩ : ∃ A : List Value, A = [.int .i64 3, strV [], .slice none 0 0, .int .i64 1] := ⟨_, rfl⟩
 have lA : A.length = 4 := by rw [hA]; rfl
 rw [← hA, List.take_left' lA, l1, ← List.drop_drop, List.drop_left' lA, List.drop_left' l2]
 obtain ⟨B, hB⟩ : ∃ B : List Value, B = [Value.slice none 0 0, .slice none 0 0, .int .u32 0, .int .u32 0] := ⟨_, rfl⟩
 have lB : B.length = 4 := by rw [hB]; rfl
 have e2 : ([Value.slice none 0 0, .slice none 0 0, .int .u32 0, .int .u32 0, strV []] : List Value) = B ++ [strV []] := by rw [hB]; rfl
 rw [e2, ← List.append_assoc (zq6 idZ) B, ← List.append_assoc (A ++ zq6 t)]
 have l3 : (A ++ zq6 t ++ (zq6 idZ ++ B)).length = 72 := by simp only [List.length_append, lA, lB, l1, l2]
 rw [put_eq _ _ _ (by rw [List.length_append, l3]; exact Nat.le_refl _), List.take_left' l3, List.drop_of_length_le (by rw [List.length_append, l3]; exact Nat.le_refl _), List.append_nil, hA, hB]
 simp [objC, objZ]
theorem objC_par {o : ObjD} {a : ObjP} (h : ObjIn o) {l : List IdB} {p : Option Addr} {c : Nat} : (objC o a).set (68 + 0) (.slice p l.length c) = objC { o with parents := l } ⟨a.lp, a.lc, p, c, a.rp, a.rc⟩ := objC_set h 0 _
theorem objC_nu {o : ObjD} {a : ObjP} (h : ObjIn o) {n : Nat} : (objC o a).set (68 + 2) (.int .u32 (n : Int)) = objC { o with number := n } a := objC_set h 2 _
/-- the parts of a map in one form -/
theorem parts_shape {W w' : World} {v : Value} {L : List zx8} {q : Option Addr} {k : Nat} {t : ObjD} (h1 : ObjOk t → v = .slice q L.length k ∧ Own w' q L.length k 52 105 (L.flatMap zv0)) (h2 : ¬ ObjOk t → v = .slice none 0 0) (hn : ∀ x, OwnB q x → W.heap.size ≤ x) :
  ∃ q2 n k2, v = .slice q2 n k2 ∧ (ObjOk t → n = L.length ∧ Own w' q2 L.length k2 52 105 (L.flatMap zv0)) ∧ (¬ ObjOk t → n = 0) ∧ ∀ x, OwnB q2 x → W.heap.size ≤ x := by
 by_cases h : ObjOk t
 ·obtain ⟨e, ho⟩ := h1 h
  exact ⟨q, L.length, k, e, fun _ => ⟨rfl, ho⟩, fun k => absurd h k, hn⟩
 ·exact ⟨none, 0, 0, h2 h, fun k => absurd k h, fun _ => rfl, noOwn⟩
theorem refP_len (l : List RowD) (a : ObjP) : (refP l a).length = (refT l).length + 1 := by rw [refP, List.length_append, List.length_map]; rfl
theorem refP_last (l : List RowD) (a : ObjP) (h : (refP l a).length - 1 < (refP l a).length) : (refP l a)[(refP l a).length - 1] = ⟨idOf (treeOf l), treeOf l, a⟩ := by
 have e : (refP l a).length - 1 = ((refT l).map heldB).length := by rw [refP_len, List.length_map]; rfl
 simp only [e]
 unfold refP
 rw [List.getElem_append_right (Nat.le_refl _)]
 simp
theorem refP_objs (l : List RowD) (a : ObjP) : (objs (refP l a)).map Prod.fst = partO l := by
 unfold refP partO objs
 simp only [List.map_append, List.map_map, List.map_cons, List.map_nil]
 rfl
/-- what holds of each part -/
theorem refP_all {P : zx8 → Prop} {l : List RowD} {a : ObjP} (h1 : ∀ t ∈ refT l, P (heldB t)) (h2 : P ⟨idOf (treeOf l), treeOf l, a⟩) : ∀ x ∈ refP l a, P x := fun x hx => by
 unfold refP at hx
 rcases List.mem_append.1 hx with hx | hx
 ·obtain ⟨t, ht, rfl⟩ := List.mem_map.1 hx; exact h1 t ht
 ·rw [List.mem_singleton.1 hx]; exact h2
theorem refT_mem {l : List RowD} : ∀ t ∈ refT l, ∃ r ∈ l, t = r.text := by
 have : ∀ (l : List RowD) (acc : List Str) (t : Str), t ∈ l.foldl addT acc → t ∈ acc ∨ ∃ r ∈ l, t = r.text := by
  intro l
  induction l with
  | nil => intro acc t h; exact .inl h
  | cons r l ih =>
   intro acc t h
   rcases ih _ t h with k | ⟨r2, h2, e⟩
   ·unfold addT at k
    split at k
    ·exact .inl k
    ·rcases List.mem_append.1 k with k | k
     ·exact .inl k
     ·exact .inr ⟨r, List.mem_cons_self, List.mem_singleton.1 k⟩
   ·exact .inr ⟨r2, List.mem_cons_of_mem _ h2, e⟩
 intro t ht
 rcases this l [] t ht with k | k
 ·cases k
 ·exact k
theorem tex8_in (l : List RowD) : ∀ r ∈ tex8 l, r.path.length ≤ 48 ∧ r.text.length ≤ 20 := fun r hr => by
 obtain ⟨x, _, rfl⟩ := List.mem_map.1 hr
 exact ⟨by show (x.path.take 48).length ≤ 48; rw [List.length_take]; omega, by show (x.text.take 20).length ≤ 20; rw [List.length_take]; omega⟩
theorem tree_ok {l : List RowD} : ObjIn (treeOf (tex8 l)) ∧ Short (treeOf (tex8 l)) := by
 have h := tex8_in l
 have hl := tex8_len l
 have hll : (leavesOf (tex8 l)).length = (tex8 l).length := by rw [leavesOf, List.length_map]
 refine ⟨treeO_in (leavesOf_in fun r hr => by have := (h r hr).1; have := maxLen_big; omega), tree_sh (by omega) fun r hr => ?_⟩
 obtain ⟨y, hy, rfl⟩ := List.mem_map.1 hr
 have := (h y hy).1
 show y.path.length < _
 omega
theorem held_okB (w : World) {l : List RowD} {t : Str} (ht : t ∈ refT (tex8 l)) : HeldIn w (heldB t) ∧ BytesIn (heldB t).o ∧ (zz9 (heldB t).o).length ≤ 40 ∧ (heldB t).o.note.length ≤ 20 ∧ (heldB t).o.number = 0 := by
 obtain ⟨r, hr, rfl⟩ := refT_mem t ht
 have := (tex8_in l r hr).2
 exact ⟨⟨zj9 _, blobO_in _, blob_sh _, blob_l _ _⟩, bytes_of (blob_ok (by omega)).1, Nat.zero_le _, Nat.zero_le _, rfl⟩
end Go.Proofs.YtoapldhadeoeiaaGreatDoor
namespace Go.Proofs.YtoapldhadeoeiaaGreatDoor
open Go.Vc
/-- what is made: a heap, and Ids of its commits -/
structure MadeQ (W w : World) (q : Option Addr) (m : List zx8) (qi : Option Addr) (ki : Nat) (ids : List IdB) : Prop where
  hp : Stb (OwnB qi) w (fun u => HpIn u q m)
  own : Own w qi ids.length ki 37 32 (ids.flatMap zq6)
  new : ∀ y, OwnB qi y → W.heap.size ≤ y
  iin : ∀ y ∈ ids, IdIn y
  il : ids.length ≤ 8
  few : m.length ≤ 60
  lks : ∀ x ∈ m, (zz9 x.o).length ≤ 40
structure TurnS (D : Hp × List IdB) (t : Nat) (m : List zx8) : Prop where
  len : m.length ≤ 48 + t
  all : ∀ h ∈ m, (zz9 h.o).length ≤ 40 ∧ h.o.note.length ≤ 20 + t
  e : t = 0 → toHp m = D.1
theorem TurnS.of {N0 : Nat} {D : Hp × List IdB} {z : MZ} (h : MadeS N0 D 8 z) : TurnS D 0 z.m := ⟨h.len, fun x hx => ⟨h.few.lk x hx, h.few.note x hx⟩, fun _ => by rw [← h.e]⟩
theorem TurnS.turn {D : Hp × List IdB} {t : Nat} {m m2 : List zx8} (h : TurnS D t m) (hT : TurnQ m m2) : TurnS D (t + 1) m2 := ⟨by have := h.len; have := hT.1; omega, fun x hx => by
 obtain ⟨_, z, hz, e1, e2⟩ := hT.2 x hx
 obtain ⟨a1, a2⟩ := h.all z hz
 exact ⟨by omega, by omega⟩, fun k => by omega⟩
theorem lk_few {l : List zx8} (hl : l.length ≤ 1000) (h : ∀ x ∈ l, (zz9 x.o).length ≤ 40) : (l.flatMap fun e => zz9 e.o).length < 100000 := by
 have h1 := flat_few (f := fun e : zx8 => zz9 e.o) (n := 40) h
 have := Nat.mul_le_mul_right 40 hl
 omega
theorem com_few (h : Hp) (ids : List IdB) (s : StepD) : (zz9 (comD h ids s)).length ≤ 40 := by
 have e : zz9 (comD h ids s) = idOf (treeOf (tex8 s.rows)) :: parD ids s.back := rfl
 rw [e, List.length_cons]
 have := parD_len ids s.back
 omega
theorem tree_few (l : List RowD) : (zz9 (treeOf (tex8 l))).length ≤ 40 := by
 have e : zz9 (treeOf (tex8 l)) = (leavesOf (tex8 l)).map zj6.id := rfl
 rw [e, List.length_map, leavesOf, List.length_map]
 have := tex8_len l
 omega
/-- a step that makes a commit -/
theorem MadeS.go {N0 i : Nat} {L : List StepD} {z : MZ} (h : MadeS N0 (madeN L i) i z) (hi : i < L.length) (hok : RowsOk (tex8 L[i].rows) ∧ ObjOk (treeOf (tex8 L[i].rows))) {xs : List ObjX} (hx : xs.map Prod.fst = partO (tex8 L[i].rows) ++ [comD (toHp z.m) z.ids L[i]]) {q qi : Option Addr} {k ki : Nat} (hn : ∀ y, OwnB qi y → N0 ≤ y) :
  MadeS N0 (madeN L (i + 1)) (i + 1) ⟨putW z.m xs, q, k, z.ids ++ [idOf (comD (toHp z.m) z.ids L[i])], qi, ki⟩ := by
 have hxl : xs.length = (partO (tex8 L[i].rows)).length + 1 := by rw [← List.length_map (f := Prod.fst), hx, List.length_append]; rfl
 have hpl := partO_len (tex8 L[i].rows)
 have h4 := tex8_len L[i].rows
 have hwl := putW_len xs z.m
 have hall : ∀ x ∈ xs, (zz9 x.1).length ≤ 40 ∧ x.1.note.length ≤ 20 ∧ x.1.number ≤ i + 1 := fun x hm => by
  have hm2 : x.1 ∈ partO (tex8 L[i].rows) ++ [comD (toHp z.m) z.ids L[i]] := by rw [← hx]; exact List.mem_map_of_mem hm
  rcases List.mem_append.1 hm2 with k | k
  ·unfold partO at k
   rcases List.mem_append.1 k with k | k
   ·obtain ⟨t, _, e⟩ := List.mem_map.1 k
    rw [← e]; exact ⟨Nat.zero_le _, Nat.zero_le _, Nat.zero_le _⟩
   ·rw [List.mem_singleton.1 k]; exact ⟨tree_few _, Nat.zero_le _, Nat.zero_le _⟩
  ·rw [List.mem_singleton.1 k]
   refine ⟨com_few _ _ _, ?_, top_le fun p _ => Nat.lt_succ_of_le (kObj_num h.few.num p 3)⟩
   show (L[i].note.take 20).length ≤ 20
   rw [List.length_take]; omega
 refine ⟨?_, ⟨?_, ?_, ?_⟩, ?_, hn, ?_, ?_⟩
 ·rw [madeN_step hi, stepD, if_pos hok, ← h.e, toHp_putW, hx]
 ·exact putW_mem (P := fun y => (zz9 y.o).length ≤ 40) xs h.few.lk fun x hm => (hall x hm).1
 ·exact putW_mem (P := fun y => y.o.note.length ≤ 20) xs h.few.note fun x hm => (hall x hm).2.1
 ·exact putW_mem (P := fun y => y.o.number ≤ i + 1) xs (fun y hy => Nat.le_succ_of_le (h.few.num y hy)) fun x hm => (hall x hm).2.2
 ·have := h.len
  dsimp only
  omega
 ·intro y hy
  rcases List.mem_append.1 hy with k | k
  ·exact h.ids y k
  ·rw [List.mem_singleton.1 k]; exact zj9 _
 ·have := h.il
  show (z.ids ++ [_]).length ≤ i + 1
  rw [List.length_append]
  show z.ids.length + 1 ≤ i + 1
  omega
theorem comT_step {h : Hp} {ids : List IdB} {s : StepD} {t : Nat} (ht : t < s.back.length) : comT h ids s (t + 1) = { comT h ids s t with parents := (s.back.take (t + 1)).map (pickI ids), style := 1 + ((t + 1 : Nat) : Int), number := max (comT h ids s t).number ((h.kObj (pickI ids s.back[t]) 3).number + 1) } := by
 unfold comT
 rw [back_snoc ht, top_snoc]
theorem stb_turn {S T : Nat → Prop} {w w' : World} {q q2 : Option Addr} {m m2 : List zx8} (h : Stb T w fun u => HpIn u q m) (hE : Ext No w w') (hST : ∀ x, x < w.heap.size → S x → T x) (hs : Sl w' q2 m2.length 105 (m2.flatMap zv0)) (hn : ∀ x off, q2 = some ⟨x, off, none⟩ → w.heap.size ≤ x) (hS : ∀ x, S x → x < w.heap.size) (hT : TurnQ m m2)
  (hl : m2.length < 1000000) (hk : (m2.flatMap fun e => zz9 e.o).length < 100000) : Stb S w' fun u => HpIn u q2 m2 := fun u hu =>
 ⟨hs.ext hu fun b off e k => by have := hn b off e; have := hS b k; omega, fun y hy => (hT.2 y hy).1 u fun z hz => ((h.step hE (fun _ _ k => k.elim) hST) u hu).ins z hz, hl, hk⟩
/-- a heap that was put is as it is, whatever turns of S -/
theorem stb_put {S T : Nat → Prop} {w w' : World} {q q2 : Option Addr} {k2 : Nat} {m : List zx8} {xs : List ObjX} (h : Stb T w fun u => HpIn u q m) (hE : Ext No w w') (hST : ∀ x, x < w.heap.size → S x → T x) (ho : Own w' q2 (putW m xs).length k2 52 105 ((putW m xs).flatMap zv0)) (hS : ∀ x, OwnB q2 x → ¬ S x)
  (hx : ∀ x ∈ xs, Stb S w' fun u => HeldIn u (heldO x)) (hl : (putW m xs).length < 1000000) (hk : ((putW m xs).flatMap fun e => zz9 e.o).length < 100000) : Stb S w' fun u => HpIn u q2 (putW m xs) := fun u hu =>
 ⟨(ho.ext hu hS).sl, putW_mem xs ((h.step hE (fun _ _ k => k.elim) hST) u hu).ins fun x hm => hx x hm u hu, hl, hk⟩
theorem made_calls (w : World) {ps pt : Option Addr} {cs ct : Nat} {steps : List StepT} {turns : List TurnD} (hs : Sl w ps steps.length 3 (steps.flatMap stepC)) (hsi : ∀ s ∈ steps, StepIn w s) (hsl : steps.length < 9223372036854775808) (ht : Sl w pt turns.length 3 (turns.flatMap turnC)) (hti : ∀ t ∈ turns, TurnIn t) (htl : turns.length < 9223372036854775808) :
  zz1 Tryz.prog 6 [.agg #[.slice ps steps.length cs, .slice pt turns.length ct]] w fun v w' => ∃ q k m qi ki ids, v = .tuple #[.agg #[.slice q m.length k], .slice qi ids.length ki] ∧ MadeQ w w' q m qi ki ids ∧ (turns = [] → (toHp m, ids) = madeD (steps.map StepT.d)) ∧ Ext No w w' := by
 refine zq9 Tryz.func6 rfl rfl rfl rfl ?_
 have hX := Ext.refl No w
 refine zq5 (zq0 (wl (zj0 I_ok rfl fun b1 w1 hn1 hb1 hE1 => ?_)))
 have hX := hX.zq4 hE1
 have hb1 : Blk w1 b1 25 ([.slice ps steps.length cs, .slice pt turns.length ct]) := hb1
 refine wl (zj0 I_ok rfl fun b2 w2 hn2 hb2 hE2 => ?_)
 have fr2 := Nat.le_trans hX.size hn2
 have hb1 := hb1.zq3 hE2
 have hX := hX.zq4 hE2
 have hb2 : Blk w2 b2 30 ([.slice none 0 0]) := hb2
 refine wl_p I_ok rfl (zq2 (zq1 (zq5 (zq0 (wl (zj0 I_ok rfl fun b4 w3 hn4 hb4 hE3 => ?_))))))
 have ne1_4 : b1 ≠ b4 := Nat.ne_of_lt (Nat.lt_of_lt_of_le hb1.lt hn4)
 have ne2_4 : b2 ≠ b4 := Nat.ne_of_lt (Nat.lt_of_lt_of_le hb2.lt hn4)
 have fr4 := Nat.le_trans hX.size hn4
 have hb1 := hb1.zq3 hE3
 have hb2 := hb2.zq3 hE3
 have hX := hX.zq4 hE3
 have hb4 : Blk w3 b4 30 ([.slice none 0 0]) := hb4
 refine zq2 (zq1 (zq5 (zq0 (wl_p I_ok rfl (zq2 (zq1 ?_))))))
 refine c_cutK (α := MZ) [1, 2, 4] rfl (fun z => [(5, .slice z.qi z.ids.length z.ki)]) (fun z u => (MadeS w.heap.size (madeD (steps.map StepT.d)) 8 z ∧ MadeY b2 b4 z u) ∧ Blk u b1 25 ([.slice ps steps.length cs, .slice pt turns.length ct]) ∧ Blk u b2 30 ([.slice none 0 0]) ∧ Blk u b4 30 ([.slice z.q z.m.length z.k]) ∧ Ext No w u) ?_ ?_
 ·refine zq5 ?_
  refine zq0 (wl_p I_ok rfl (wl (st_ldb I_ok hb1 rfl rfl (wl_p I_ok rfl (zq2 (zq1 (zx4 ?_)))))))
  refine zv1 (α := Nat × MZ) [1, 2, 4, 22, 23] rfl (fun z => [(5, .slice z.2.qi z.2.ids.length z.2.ki), (24, .int .i64 (z.1 : Int))]) (fun z u => (z.1 ≤ steps.length ∧ z.1 ≤ 8 ∧ MadeS w.heap.size (madeN (steps.map StepT.d) z.1) z.1 z.2 ∧ MadeY b2 b4 z.2 u) ∧ Blk u b1 25 ([.slice ps steps.length cs, .slice pt turns.length ct]) ∧ Blk u b2 30 ([.slice none 0 0]) ∧ Blk u b4 30 ([.slice z.2.q z.2.m.length z.2.k]) ∧ Ext No w u) (fun z u => steps.length - z.1) (0, ⟨[], none, 0, [], none, 0⟩) rfl ⟨⟨Nat.zero_le _, Nat.zero_le _, made0 _ _, madeY0 _ _ _⟩, hb1, hb2, hb4, hX⟩ ?_
  rintro ⟨i, m, q, k, ids, qi, ki⟩ w4 ⟨⟨hi, hi8, hMS, hMY⟩, hb1, hb2, hb4, hX⟩
  try dsimp only
  dsimp only at hi hi8 hMS hMY
  have hR := hMY.round hb2 hb4 (by decide) (by decide)
  have hqiL : ∀ x, OwnB qi x → x < w4.heap.size := fun x hx => hMY.own.lt hx
  obtain ⟨N, hN⟩ : ∃ N, N = w4.heap.size := ⟨_, rfl⟩
  rw [← hN] at hR hqiL
  have hNw : w.heap.size ≤ N := by rw [hN]; exact hX.size
  refine zq5 (zq0 (wl_p I_ok rfl (zq2 (zq1 (zq5 (c_if rfl (fun hc => ?_) (fun hc => ?_)))))))
  ·have hi2 : i < steps.length := by omega
   have hiD : i < (steps.map StepT.d).length := by rw [List.length_map]; exact hi2
   have eiD : (steps.map StepT.d)[i] = steps[i].d := by rw [List.getElem_map]
   obtain ⟨sb, so, hp1, hsq⟩ := hs.rowAll (fun r _ => stepC_len r) (by omega)
   have hSi := hsi _ (List.getElem_mem hi2)
   refine wc_put 22 rfl (v' := .slice (some ⟨sb, so, none⟩) steps.length cs) (by rw [hp1]) (zx7 (zq1 ?_))
   refine c_cutK (α := MZ) [1, 2, 4, 22, 23, 24] rfl (fun z => [(5, .slice z.qi z.ids.length z.ki)]) (fun z u => (i < 8 ∧ MadeS w.heap.size (madeN (steps.map StepT.d) (i + 1)) (i + 1) z ∧ MadeY b2 b4 z u) ∧ Blk u b1 25 ([.slice ps steps.length cs, .slice pt turns.length ct]) ∧ Blk u b2 30 ([.slice none 0 0]) ∧ Blk u b4 30 ([.slice z.q z.m.length z.k]) ∧ Ext No w u) ?_ ?_
   ·refine zx4 ?_
    refine zq5 (zq0 (wl_p I_ok rfl (wl (st_ix I_ok rfl 3 rfl i rfl (by omega) (so + i * 3) rfl (wl (st_ldN I_ok rfl ((hsq i hi2).zq3 hX) rfl ?_))))))
    have hR0 := hR.n
    refine wl (zj0 I_ok rfl fun b7 w5 hn7 hb7 hE5 => ?_)
    have ne1_7 : b1 ≠ b7 := Nat.ne_of_lt (Nat.lt_of_lt_of_le hb1.lt hn7)
    have ne2_7 : b2 ≠ b7 := Nat.ne_of_lt (Nat.lt_of_lt_of_le hb2.lt hn7)
    have ne4_7 : b4 ≠ b7 := Nat.ne_of_lt (Nat.lt_of_lt_of_le hb4.lt hn7)
    have fr7 := Nat.le_trans hX.size hn7
    have hb1 := hb1.zq3 hE5
    have hb2 := hb2.zq3 hE5
    have hb4 := hb4.zq3 hE5
    have hR := hR.no hE5
    have hX := hX.zq4 hE5
    have fN7 := Nat.le_trans hR0 hn7
    refine wl_p I_ok rfl (wl (zj5 (l' := stepC steps[i]) I_ok hb7 rfl rfl rfl rfl OneC.h fun w6 hb7 hE6 hs6 => ?_))
    have hb1 := hb1.ext1 hE6 ne1_7
    have hb2 := hb2.ext1 hE6 ne2_7
    have hb4 := hb4.ext1 hE6 ne4_7
    have hR := hR.one hE6 fN7
    have hX := hX.zx1 hE6 fr7
    refine zq2 (zq1 (zq5 (zq5 (zq0 (wl_p I_ok rfl (zq2 (zq1 (c_if rfl (fun hc => ?_) (fun hc => ?_)))))))))
    ·have h8 : i = 8 := by omega
     refine c_exit ?_
     exact zx3 (f_blockE' rfl (zx3 (zx3 (zz2 (zz5 (⟨m, q, k, ids, qi, ki⟩) rfl ⟨⟨hMS.done (.inl h8), hR.y⟩, hb1, hb2, hb4, hX⟩)))))
    ·have h8 : i < 8 := by omega
     refine zx7 (zq1 (zq5 (zq0 (wl_p I_ok rfl (wl (st_ldN I_ok rfl (show Seg _ _ _ [.slice steps[i].mp steps[i].rows.length steps[i].mc] from hb7.seg.take 1) rfl ?_))))))
     refine wl (zx2 Tryz.call21 rfl rfl rfl rfl rfl rfl (tex8_calls w6 (hSi.rows.zq3 hX) hSi.rl) fun v7 w7 hr7 => ?_)
     obtain ⟨q8, k8, rfl, h8o, h8n, hE7⟩ := hr7
     have hb1 := hb1.zq3 hE7
     have hb2 := hb2.zq3 hE7
     have hb4 := hb4.zq3 hE7
     have hb7 := hb7.zq3 hE7
     have hR := hR.no hE7
     have hX := hX.zq4 hE7
     have hR0 := hR.n
     refine wl (zj0 I_ok rfl fun b8 w8 hn8 hb8 hE8 => ?_)
     have ne1_8 : b1 ≠ b8 := Nat.ne_of_lt (Nat.lt_of_lt_of_le hb1.lt hn8)
     have ne2_8 : b2 ≠ b8 := Nat.ne_of_lt (Nat.lt_of_lt_of_le hb2.lt hn8)
     have ne4_8 : b4 ≠ b8 := Nat.ne_of_lt (Nat.lt_of_lt_of_le hb4.lt hn8)
     have ne7_8 : b7 ≠ b8 := Nat.ne_of_lt (Nat.lt_of_lt_of_le hb7.lt hn8)
     have fr8 := Nat.le_trans hX.size hn8
     have hb1 := hb1.zq3 hE8
     have hb2 := hb2.zq3 hE8
     have hb4 := hb4.zq3 hE8
     have hb7 := hb7.zq3 hE8
     have hR := hR.no hE8
     have h8o := h8o.ext hE8 fun _ _ => id
     have hX := hX.zq4 hE8
     have fN8 := Nat.le_trans hR0 hn8
     have hb8o := hb8
     refine wl (zj5 (l' := [.slice q8 (tex8 steps[i].rows).length k8]) I_ok hb8 rfl rfl rfl rfl OneC.h fun w9 hb8 hE9 hs9 => ?_)
     have hb1 := hb1.ext1 hE9 ne1_8
     have hb2 := hb2.ext1 hE9 ne2_8
     have hb4 := hb4.ext1 hE9 ne4_8
     have hb7 := hb7.ext1 hE9 ne7_8
     have hR := hR.one hE9 fN8
     have h8o := h8o.zx9 hE9 hb8o (by decide)
     have hX := hX.zx1 hE9 fr8
     refine zq2 (zq1 (zq5 (zq5 (zq0 (wl (zj4 I_ok hb8 rfl rfl ?_))))))
     refine wl (zx2 Tryz.call22 rfl rfl rfl rfl rfl rfl (right5_calls w9 h8o.sl (by have := tex8_len steps[i].rows; omega) (fun r hr => by have := (tex8_in steps[i].rows r hr).1; omega)) fun v10 w10 hr10 => ?_)
     obtain ⟨rfl, hE10⟩ := hr10
     have hb1 := hb1.zq3 hE10
     have hb2 := hb2.zq3 hE10
     have hb4 := hb4.zq3 hE10
     have hb7 := hb7.zq3 hE10
     have hb8 := hb8.zq3 hE10
     have hR := hR.no hE10
     have h8o := h8o.ext hE10 fun _ _ => id
     have hX := hX.zq4 hE10
     refine wl_p I_ok rfl (zq2 (zq1 (c_cond rfl (fun hc => ?_) (fun hc => ?_))))
     ·have hro : ¬ RowsOk (tex8 steps[i].rows) := by simpa using hc
      refine c_exit ?_
      exact zx3 (zz2 (zz5 (⟨m, q, k, ids, qi, ki⟩) rfl ⟨⟨h8, hMS.skip hiD (by rw [eiD]; exact fun e => hro e.1), hR.y⟩, hb1, hb2, hb4, hX⟩))
     ·have hro : RowsOk (tex8 steps[i].rows) := by simpa using hc
      refine zx7 (zq1 (zq5 (zq0 (wl_p I_ok rfl (zq2 (zq1 (zq5 (zq0 (wl (zj4 I_ok hb8 rfl rfl ?_))))))))))
      have hRp := hR.n
      refine wl (zx2 Tryz.call23 rfl rfl rfl rfl rfl rfl (parts6_calls w10 hro h8o.sl) fun v11 w11 hr11 => ?_)
      obtain ⟨qP0, kP0, lp, lc, hP1, hP2, hPn, hlf, hln, hE11⟩ := hr11
      have hb1 := hb1.zq3 hE11
      have hb2 := hb2.zq3 hE11
      have hb4 := hb4.zq3 hE11
      have hb7 := hb7.zq3 hE11
      have hR := hR.no hE11
      have hX := hX.zq4 hE11
      obtain ⟨qP, nP, kP, rfl, hPo, hPz, hPn2⟩ := parts_shape hP1 hP2 hPn
      have hln2 : ∀ y, OwnB lp y → N ≤ y := fun y hy => Nat.le_trans hRp (hln y hy)
      obtain ⟨htin, htsh⟩ := tree_ok (l := steps[i].rows)
      refine wl_p I_ok rfl (zq2 (zq1 (zq5 (zq5 (zq0 (wl_p I_ok rfl (zq2 (zq1 (c_if rfl (fun hc => ?_) (fun hc => ?_))))))))))
      ·have hok : ¬ ObjOk (treeOf (tex8 steps[i].rows)) := fun k => by have := (hPo k).1; rw [refP_len] at this; have h0 : (nP : Int) = 0 := hc; omega
       refine c_exit ?_
       exact zx3 (zz2 (zz5 (⟨m, q, k, ids, qi, ki⟩) rfl ⟨⟨h8, hMS.skip hiD (by rw [eiD]; exact fun e => hok e.2), hR.y⟩, hb1, hb2, hb4, hX⟩))
      ·have hok : ObjOk (treeOf (tex8 steps[i].rows)) := Decidable.byContradiction fun k => hc (by rw [hPz k]; rfl)
       obtain ⟨rfl, hpt⟩ := hPo hok
       have hPlen := refP_len (tex8 steps[i].rows) (lfP lp lc)
       have hPl2 := refT_len (tex8 steps[i].rows)
       have hPl3 := tex8_len steps[i].rows
       obtain ⟨pb, Lp, hpb, hpB, hpL, hpc, hpm, hpk⟩ := hpt.opened (by omega)
       subst hpb
       have hPid : ∀ x ∈ (refP (tex8 steps[i].rows) (lfP lp lc)), x.id.length = 32 ∧ ObjIn x.o := refP_all (fun t ht => ⟨zj9 _, blobO_in _⟩) ⟨zj9 _, htin⟩
       have hPc : ∀ x ∈ (refP (tex8 steps[i].rows) (lfP lp lc)), (zv0 x).length = 105 := fun x hx => heldC_len (hPid x hx).1 (hPid x hx).2
       obtain ⟨pb2, po2, eq2, hpr⟩ := hpt.sl.rowAll hPc (by omega)
       cases eq2
       have hlt1 : (refP (tex8 steps[i].rows) (lfP lp lc)).length - 1 < (refP (tex8 steps[i].rows) (lfP lp lc)).length := by omega
       have hla := held_id (hpr _ hlt1)
       rw [refP_last] at hla
       dsimp only at hla
       refine zx7 (zq1 (zq5 (zq5 (zq0 (wl_p I_ok rfl (zq2 (zq1 (zx4 ?_))))))))
       refine zv1 (α := Nat × Option Addr × Nat) [1, 2, 4, 5, 7, 10, 22, 23, 24, 42, 43] rfl (fun z => [(9, .slice z.2.1 (objs ((refP (tex8 steps[i].rows) (lfP lp lc)).take z.1)).length z.2.2), (44, .int .i64 (z.1 : Int))]) (fun z u => (z.1 ≤ (refP (tex8 steps[i].rows) (lfP lp lc)).length ∧ Own u z.2.1 (objs ((refP (tex8 steps[i].rows) (lfP lp lc)).take z.1)).length z.2.2 43 73 ((objs ((refP (tex8 steps[i].rows) (lfP lp lc)).take z.1)).flatMap objX) ∧ (∀ y, OwnB z.2.1 y → N ≤ y) ∧ Own u (some ⟨pb, 0, none⟩) (refP (tex8 steps[i].rows) (lfP lp lc)).length kP 52 105 ((refP (tex8 steps[i].rows) (lfP lp lc)).flatMap zv0) ∧ Own u lp (leavesOf (tex8 steps[i].rows)).length lc 84 33 ((leavesOf (tex8 steps[i].rows)).flatMap zj6.cells) ∧ MadeR N b2 b4 ⟨m, q, k, ids, qi, ki⟩ u) ∧ Blk u b1 25 ([.slice ps steps.length cs, .slice pt turns.length ct]) ∧ Blk u b2 30 ([.slice none 0 0]) ∧ Blk u b4 30 ([.slice q m.length k]) ∧ Blk u b7 67 (stepC steps[i]) ∧ Ext No w u) (fun z u => (refP (tex8 steps[i].rows) (lfP lp lc)).length - z.1) (0, none, 0) rfl ⟨⟨Nat.zero_le _, Own.nil _ _ _, noOwn, hpt, hlf, hR⟩, hb1, hb2, hb4, hb7, hX⟩ ?_
       rintro ⟨j, q9, k9⟩ w12 ⟨⟨hj, h9, h9n, hpt, hlf, hR⟩, hb1, hb2, hb4, hb7, hX⟩
       try dsimp only
       dsimp only at hj h9 h9n hpt hlf hR
       refine zq5 (zq0 (wl_p I_ok rfl (zq2 (zq1 (zq5 (c_if rfl (fun hc => ?_) (fun hc => ?_)))))))
       ·have hj2 : j < (refP (tex8 steps[i].rows) (lfP lp lc)).length := by omega
        obtain ⟨pb3, po3, eq3, hpr⟩ := hpt.sl.rowAll hPc (by omega)
        cases eq3
        have hidj := hPid _ (List.getElem_mem hj2)
        have hjl : (objs ((refP (tex8 steps[i].rows) (lfP lp lc)).take j)).length = j := by rw [List.length_map, List.length_take]; omega
        refine zx7 (zq1 (zq5 (zx4 (zq5 (zq0 (wl (st_ix I_ok rfl 105 rfl j rfl hj2 (0 + j * 105) rfl (wl (st_ldN I_ok rfl (hpr j hj2) (hPc _ (List.getElem_mem hj2)) ?_)))))))))
        have hR0 := hR.n
        have hpt0 := hpt
        refine wl (zj0 I_ok rfl fun b12 w13 hn12 hb12 hE13 => ?_)
        have ne1_12 : b1 ≠ b12 := Nat.ne_of_lt (Nat.lt_of_lt_of_le hb1.lt hn12)
        have ne2_12 : b2 ≠ b12 := Nat.ne_of_lt (Nat.lt_of_lt_of_le hb2.lt hn12)
        have ne4_12 : b4 ≠ b12 := Nat.ne_of_lt (Nat.lt_of_lt_of_le hb4.lt hn12)
        have ne7_12 : b7 ≠ b12 := Nat.ne_of_lt (Nat.lt_of_lt_of_le hb7.lt hn12)
        have fr12 := Nat.le_trans hX.size hn12
        have hb1 := hb1.zq3 hE13
        have hb2 := hb2.zq3 hE13
        have hb4 := hb4.zq3 hE13
        have hb7 := hb7.zq3 hE13
        have hR := hR.no hE13
        have hlf := hlf.ext hE13 fun _ _ => id
        have hpt := hpt.ext hE13 fun _ _ => id
        have h9 := h9.ext hE13 fun _ _ => id
        have hX := hX.zq4 hE13
        have fN12 := Nat.le_trans hR0 hn12
        have ne12 : ∀ x, OwnB (some ⟨pb, 0, none⟩) x → x ≠ b12 := fun x hx => Nat.ne_of_lt (Nat.lt_of_lt_of_le (hpt0.lt hx) hn12)
        have hb12o := hb12
        refine wl (zj5 (l' := zv0 (refP (tex8 steps[i].rows) (lfP lp lc))[j]) I_ok hb12 rfl rfl (hPc _ (List.getElem_mem hj2)) (by rw [hPc _ (List.getElem_mem hj2)]; rfl) OneC.h fun w14 hb12 hE14 hs14 => ?_)
        have hb1 := hb1.ext1 hE14 ne1_12
        have hb2 := hb2.ext1 hE14 ne2_12
        have hb4 := hb4.ext1 hE14 ne4_12
        have hb7 := hb7.ext1 hE14 ne7_12
        have hR := hR.one hE14 fN12
        have hlf := hlf.zx9 hE14 hb12o (by decide)
        have hpt := hpt.ext hE14 (fun x hx => ne12 x hx)
        have h9 := h9.zx9 hE14 hb12o (by decide)
        have hX := hX.zx1 hE14 fr12
        refine zq2 (zq1 (zq0 (wl_p I_ok rfl (wl (st_ldN I_ok rfl (held_obj hb12.seg hidj.1) (zq8 hidj.2) ?_)))))
        refine wl (st_bs I_ok rfl 73 rfl objZ_c.symm (by rw [zq8 objZ_in]) (by decide) (by decide) ⟨⟨by rw [zz3]; exact zq8 hidj.2, by decide⟩, trivial⟩ (l' := objC (refP (tex8 steps[i].rows) (lfP lp lc))[j].o (refP (tex8 steps[i].rows) (lfP lp lc))[j].a) (one_obj hidj.2) fun b51 w15 hn51 hb51 hE15 hs15 => ?_)
        have hb1 := hb1.zq3 hE15
        have hb2 := hb2.zq3 hE15
        have hb4 := hb4.zq3 hE15
        have hb7 := hb7.zq3 hE15
        have hR := hR.no hE15
        have hlf := hlf.ext hE15 fun _ _ => id
        have hpt := hpt.ext hE15 fun _ _ => id
        have h9 := h9.ext hE15 fun _ _ => id
        have hX := hX.zq4 hE15
        have hX1 := hX
        have hR1 := hR.n
        have hs51 : Sl w15 (some ⟨b51, 0, none⟩) 1 73 (objC (refP (tex8 steps[i].rows) (lfP lp lc))[j].o (refP (tex8 steps[i].rows) (lfP lp lc))[j].a) := ⟨zq8 hidj.2, .inr ⟨b51, 0, rfl, hb51.seg⟩⟩
        refine wl (zj8 I_ok rfl 73 192 rfl rfl rfl (by decide) h9 (Src.slice (m := 1) hs51 OneC.h) (by rw [hjl]; dsimp only [maxLen]; omega) (by dsimp only; rw [hjl]; omega) fun p16 c16 w16 ho16 hE16 hB16 => ?_)
        dsimp only at ho16 hE16 hB16 ⊢
        have hX := hX1.trans hE16 fun y hy hF => by have := h9n y hF; omega
        have hb1 := hb1.zx0 h9 hE16 (by decide)
        have hb2 := hb2.zx0 h9 hE16 (by decide)
        have hb4 := hb4.zx0 h9 hE16 (by decide)
        have hb7 := hb7.zx0 h9 hE16 (by decide)
        have hR := hR.app hE16 h9n
        have hlf := hlf.ext hE16 (fun x hx hx2 => by obtain ⟨L1, h1⟩ := hlf.blkAt hx; obtain ⟨L2, h2⟩ := h9.blkAt hx2; exact absurd (h1.uniq h2).2 (by decide))
        have hpt := hpt.ext hE16 (fun x hx hx2 => by obtain ⟨L1, h1⟩ := hpt.blkAt hx; obtain ⟨L2, h2⟩ := h9.blkAt hx2; exact absurd (h1.uniq h2).2 (by decide))
        have e3 : (objs ((refP (tex8 steps[i].rows) (lfP lp lc)).take (j + 1))).length = (objs ((refP (tex8 steps[i].rows) (lfP lp lc)).take j)).length + 1 := by rw [hjl, List.length_map, List.length_take]; omega
        obtain ⟨q92, k92, e1, e2, h92⟩ : ∃ q2 k2, q2 = p16 ∧ k2 = c16 ∧ Own w16 q2 (objs ((refP (tex8 steps[i].rows) (lfP lp lc)).take (j + 1))).length k2 43 73 ((objs ((refP (tex8 steps[i].rows) (lfP lp lc)).take (j + 1))).flatMap objX) := ⟨_, _, rfl, rfl, by
         rw [e3, objs_step hj2]
         exact ho16⟩
        rw [← e1] at hB16
        rw [← e1, ← e2, ← e3]
        have h9n2 : (∀ y, OwnB q92 y → N ≤ y) := fun x hx => (hB16 x hx).elim (fun h => h9n x h) fun h => Nat.le_trans hR1 h
        refine wl_p I_ok rfl (zq2 (zx6 (zq1 (zq0 (wl_p I_ok rfl ?_)))))
        rw [IntWalk.i64_in _ (by omega)]
        refine zq2 ?_
        exact zj7 (j + 1, q92, k92) rfl ⟨⟨hj2, h92, h9n2, hpt, hlf, hR⟩, hb1, hb2, hb4, hb7, hX⟩ (by first | omega | (dsimp only; omega))
       ·have hjz : j = (refP (tex8 steps[i].rows) (lfP lp lc)).length := by omega
        subst hjz
        rw [List.take_length] at h9
        rw [List.take_length]
        obtain ⟨pb3, po3, eq3, hpr⟩ := hpt.sl.rowAll hPc (by omega)
        cases eq3
        have hla := held_id (hpr _ hlt1)
        rw [refP_last] at hla
        dsimp only at hla
        refine c_exit (zx3 (zx3 (zz2 (zq1 (zq5 ?_)))))
        refine c_draw rfl 16 [(0, true), (1, true), (2, true), (3, true), (4, true), (5, true), (6, true), (7, true), (8, true), (9, true), (10, true), (11, true), (12, true), (13, true), (14, true), (15, false)] [16] (No) (by kernel_rfl) fun w17 hE17 hs17 => ?_
        have hd7 := hb7
        have hlad := hla
        have hb1 := hb1.zq3 hE17
        have hb2 := hb2.zq3 hE17
        have hb4 := hb4.zq3 hE17
        have hb7 := hb7.zq3 hE17
        have hR := hR.no hE17
        have hlf := hlf.ext hE17 fun _ _ => id
        have h9 := h9.ext hE17 fun _ _ => id
        have hX := hX.zq4 hE17
        have hC : Ext (No) _ w17 := hE17.no
        refine wd_k I_ok 4 rfl ?_
        rw [show ((((refP (tex8 steps[i].rows) (lfP lp lc)).length : Nat) : Int) - 1) = (((refP (tex8 steps[i].rows) (lfP lp lc)).length - 1 : Nat) : Int) from by omega, IntWalk.i64_in _ (by omega)]
        refine wd_ix I_ok rfl rfl 105 rfl ((refP (tex8 steps[i].rows) (lfP lp lc)).length - 1) rfl hlt1 (0 + ((refP (tex8 steps[i].rows) (lfP lp lc)).length - 1) * 105) rfl (wd_k I_ok 1 rfl ?_)
        refine wd_ldN I_ok rfl rfl (fun w' hw' => (hlad.zq3 hw')) (by rw [zq7, zj9]) ?_
        refine wd_k I_ok 1 rfl (zv2 I_ok rfl rfl (fun w' hw' => (hd7.zq3 hw').cell rfl) ?_)
        refine wd_k I_ok 1 rfl (zv2 I_ok rfl rfl (fun w' hw' => (hd7.zq3 hw').cell rfl) ?_)
        refine wd_k I_ok 2 rfl (wd_ss I_ok rfl rfl 0 (min _ 20) (cutBds _ _) ?_)
        rw [strU_cut]
        refine wd_bd I_ok rfl rfl ⟨⟨rfl, by decide⟩, ⟨rfl, by decide⟩, ⟨by rw [zz3, zq7, zj9], by decide⟩, ⟨rfl, by decide⟩, trivial⟩ (l' := objC (comT (toHp m) ids steps[i].d 0) noP) (by rw [← objZ_c]; exact com_build (zj9 _) _) ?_
        have hR0 := hR.n
        have h90 := h9
        have hnu : ∀ p, ((toHp m).kObj p 3).number < 1000 := fun p => by have := kObj_num hMS.few.num p 3; dsimp only at this; omega
        have hc0 := comT_in (s := steps[i].d) hMS.ids (.inl rfl) hnu
        refine wd_l rfl (zj0 I_ok rfl fun b13 w18 hn13 hb13 hE18 => ⟨hC.zq4 hE18, ?_⟩)
        have ne1_13 : b1 ≠ b13 := Nat.ne_of_lt (Nat.lt_of_lt_of_le hb1.lt hn13)
        have ne2_13 : b2 ≠ b13 := Nat.ne_of_lt (Nat.lt_of_lt_of_le hb2.lt hn13)
        have ne4_13 : b4 ≠ b13 := Nat.ne_of_lt (Nat.lt_of_lt_of_le hb4.lt hn13)
        have ne7_13 : b7 ≠ b13 := Nat.ne_of_lt (Nat.lt_of_lt_of_le hb7.lt hn13)
        have fr13 := Nat.le_trans hX.size hn13
        have hb1 := hb1.zq3 hE18
        have hb2 := hb2.zq3 hE18
        have hb4 := hb4.zq3 hE18
        have hb7 := hb7.zq3 hE18
        have hR := hR.no hE18
        have hlf := hlf.ext hE18 fun _ _ => id
        have h9 := h9.ext hE18 fun _ _ => id
        have hX := hX.zq4 hE18
        have hC := hC.zq4 hE18
        have fN13 := Nat.le_trans hR0 hn13
        have ne9_13 : ∀ x, OwnB q9 x → x ≠ b13 := fun x hx => Nat.ne_of_lt (Nat.lt_of_lt_of_le (h90.lt hx) hn13)
        refine wd_sw ?_
        have hb13o := hb13
        refine wb rfl (zj5 (l' := objC (comT (toHp m) ids steps[i].d 0) noP) I_ok hb13 rfl rfl (zq8 hc0) (by rw [zq8 hc0]; rfl) OneC.h fun w19 hb13 hE19 hs19 => ?_)
        have hb1 := hb1.ext1 hE19 ne1_13
        have hb2 := hb2.ext1 hE19 ne2_13
        have hb4 := hb4.ext1 hE19 ne4_13
        have hb7 := hb7.ext1 hE19 ne7_13
        have hR := hR.one hE19 fN13
        have hlf := hlf.zx9 hE19 hb13o (by decide)
        have h9 := h9.ext hE19 (fun x hx => ne9_13 x hx)
        have hX := hX.zx1 hE19 fr13
        refine zj2 (zq1 ?_)
        refine c_cutK (α := Option Addr × Nat) [1, 2, 4, 5, 9, 13, 22, 23, 24] rfl (fun z => []) (fun z u => (Own u z.1 (parD ids steps[i].back).length z.2 37 32 ((parD ids steps[i].back).flatMap zq6) ∧ (∀ y, OwnB z.1 y → N ≤ y) ∧ Own u q9 (objs (refP (tex8 steps[i].rows) (lfP lp lc))).length k9 43 73 ((objs (refP (tex8 steps[i].rows) (lfP lp lc))).flatMap objX) ∧ Own u lp (leavesOf (tex8 steps[i].rows)).length lc 84 33 ((leavesOf (tex8 steps[i].rows)).flatMap zj6.cells) ∧ MadeR N b2 b4 ⟨m, q, k, ids, qi, ki⟩ u) ∧ Blk u b1 25 ([.slice ps steps.length cs, .slice pt turns.length ct]) ∧ Blk u b2 30 ([.slice none 0 0]) ∧ Blk u b4 30 ([.slice q m.length k]) ∧ Blk u b13 43 (objC (comD (toHp m) ids steps[i].d) (parP z.1 z.2)) ∧ Ext No w u) ?_ ?_
        ·refine zq5 ?_
         refine zq0 (wl_p I_ok rfl (wl (st_ldb I_ok hb7 rfl rfl (wl_p I_ok rfl (zq2 (zq1 (zx4 ?_)))))))
         refine zv1 (α := Nat × Option Addr × Nat) [1, 2, 4, 5, 9, 13, 22, 23, 24, 70, 71] rfl (fun z => [(72, .int .i64 (z.1 : Int))]) (fun z u => ((z.1 ≤ steps[i].back.length ∧ z.1 ≤ 2 ∧ (z.1 = 0 ∨ ids.length ≠ 0) ∧ ∀ a b, ((steps[i].back.take z.1).map (pickI ids)) = [a, b] → b ≠ a) ∧ Own u z.2.1 ((steps[i].back.take z.1).map (pickI ids)).length z.2.2 37 32 (((steps[i].back.take z.1).map (pickI ids)).flatMap zq6) ∧ (∀ y, OwnB z.2.1 y → N ≤ y) ∧ Own u q9 (objs (refP (tex8 steps[i].rows) (lfP lp lc))).length k9 43 73 ((objs (refP (tex8 steps[i].rows) (lfP lp lc))).flatMap objX) ∧ Own u lp (leavesOf (tex8 steps[i].rows)).length lc 84 33 ((leavesOf (tex8 steps[i].rows)).flatMap zj6.cells) ∧ MadeR N b2 b4 ⟨m, q, k, ids, qi, ki⟩ u) ∧ Blk u b1 25 ([.slice ps steps.length cs, .slice pt turns.length ct]) ∧ Blk u b2 30 ([.slice none 0 0]) ∧ Blk u b4 30 ([.slice q m.length k]) ∧ Blk u b13 43 (objC (comT (toHp m) ids steps[i].d z.1) (parP z.2.1 z.2.2)) ∧ Ext No w u) (fun z u => steps[i].back.length - z.1) (0, none, 0) rfl ⟨⟨⟨Nat.zero_le _, Nat.zero_le _, .inl rfl, fun a b e => (by cases e)⟩, Own.nil _ _ _, noOwn, h9, hlf, hR⟩, hb1, hb2, hb4, hb13, hX⟩ ?_
         rintro ⟨t, pp, pc⟩ w20 ⟨⟨⟨ht1, ht2, ht3, ht4⟩, hpp, hppn, h9, hlf, hR⟩, hb1, hb2, hb4, hb13, hX⟩
         try dsimp only
         dsimp only at ht1 ht2 ht3 ht4 hpp hppn
         refine zq5 (zq0 (wl_p I_ok rfl (zq2 (zq1 (zq5 (c_if rfl (fun hc => ?_) (fun hc => ?_)))))))
         ·have htl : t < steps[i].back.length := by omega
          have hbl := hSi.bl
          obtain ⟨bb, bo, hbp, hbr⟩ := hSi.back.rowAll (fun r _ => rfl) (by omega)
          have hct := comT_in (s := steps[i].d) hMS.ids ht3 hnu
          refine wc_put 70 rfl (v' := .slice (some ⟨bb, bo, none⟩) steps[i].back.length steps[i].bc) (by rw [hbp]) (zx7 (zq1 (zq5 (zx4 (zq5 (zq0 (wl_p I_ok rfl ?_)))))))
          refine wl (st_ix I_ok rfl 1 rfl t rfl (by omega) (bo + t * 1) rfl (wl (st_ld I_ok rfl (by have := ((hbr t htl).zq3 hX) 0 _ rfl; exact this) (wl_p I_ok rfl (zq2 (zq1 (zq5 ?_)))))))
          refine c_cutK (α := Bool) [1, 2, 4, 5, 9, 13, 14, 15, 22, 23, 24, 70, 71, 72] rfl (fun z => [(83, .bool z)]) (fun z u => u = w20 ∧ z = decide (t = 2 ∨ ids.length = 0)) ?_ ?_
          ·refine zq0 ?_
           refine wl_p I_ok rfl (zj3 79 rfl (fun hg => ?_) (fun hg => ?_))
           ·have hg1 : t = 2 := by omega
            refine zz6 I_ok 4 rfl (zq2 ?_)
            exact zz5 (true) rfl ⟨rfl, (decide_eq_true (.inl hg1)).symm⟩
           ·have hg1 : ¬ t = 2 := by omega
            refine zz6 I_ok 4 rfl (zq2 ?_)
            exact zz5 (_) rfl ⟨rfl, by rw [decide_eq_decide]; exact ⟨fun k => .inr (by omega), fun k => k.elim (fun k => absurd k hg1) fun k => by omega⟩⟩
          rintro z w21 ⟨hu, rfl⟩
          have hu := hu.symm
          subst hu
          refine c_if rfl (fun hc => ?_) (fun hc => ?_)
          ·have hpd : parD ids steps[i].back = ((steps[i].back.take t).map (pickI ids)) := by
            by_cases h0 : ids.length = 0
            ·rw [parD_none h0]
             rcases ht3 with k | k
             ·rw [k]; rfl
             ·exact absurd h0 k
            ·exact parD_all h0 (.inl (hc.elim id fun k => absurd k h0)) ht4
           have hcd : (comT (toHp m) ids steps[i].d t) = (comD (toHp m) ids steps[i].d) := comT_done ht1 hpd
           rw [← hpd] at hpp
           rw [hcd] at hb13
           refine c_exit ?_
           exact zx3 (f_blockE' rfl (zx3 (zx3 (zz2 (zz5 (pp, pc) rfl ⟨⟨hpp, hppn, h9, hlf, hR⟩, hb1, hb2, hb4, hb13, hX⟩)))))
          ·have ht5 : t < 2 := by omega
           have hl0 : 0 < ids.length := by omega
           have hil := hMS.il
           dsimp only at hil
           have hilen : ids.length < 1000000 := by omega
           have hix := ix64_lt steps[i].back[t] hl0
           have hids := hMS.ids
           dsimp only at hids
           obtain ⟨ib, io, hqi, hir⟩ := (hR.own.now).sl.rowAll (fun r hr => (hids r hr : IdIn r).len) (by dsimp only; omega)
           dsimp only at hqi hir
           have hpi := pickI_in hids (by omega) steps[i].back[t]
           have hpe := pickI_at (b := steps[i].back[t]) hix
           refine wc_put 5 rfl (v' := .slice (some ⟨ib, io, none⟩) ids.length ki) (by rw [hqi]) (zx7 (zq1 (zq5 (zq0 (zz6 I_ok 6 rfl (wl (st_dv I_ok rfl (u64_len hl0 hilen) ?_)))))))
           rw [show dvV false IntKind.u64 (IntKind.u64.wrap steps[i].back[t]) (IntKind.u64.wrap (ids.length : Int)) = .int .u64 ((IntKind.u64.wrap steps[i].back[t]).tmod (IntKind.u64.wrap (ids.length : Int))) from rfl]
           refine wl_p I_ok rfl ?_
           rw [ix64_eq _ hl0 hilen]
           refine wl (st_ix I_ok rfl 32 rfl (ix64 steps[i].back[t] ids.length) rfl hix (io + ix64 steps[i].back[t] ids.length * 32) rfl (wl (st_ldN I_ok rfl (by have := hir _ hix; rw [← hpe] at this; exact this) hpi.len ?_)))
           have hR0 := hR.n
           have h90 := h9
           have hpp0 := hpp
           refine wl (zj0 I_ok rfl fun b16 w22 hn16 hb16 hE22 => ?_)
           have ne1_16 : b1 ≠ b16 := Nat.ne_of_lt (Nat.lt_of_lt_of_le hb1.lt hn16)
           have ne2_16 : b2 ≠ b16 := Nat.ne_of_lt (Nat.lt_of_lt_of_le hb2.lt hn16)
           have ne4_16 : b4 ≠ b16 := Nat.ne_of_lt (Nat.lt_of_lt_of_le hb4.lt hn16)
           have ne13_16 : b13 ≠ b16 := Nat.ne_of_lt (Nat.lt_of_lt_of_le hb13.lt hn16)
           have fr16 := Nat.le_trans hX.size hn16
           have hb1 := hb1.zq3 hE22
           have hb2 := hb2.zq3 hE22
           have hb4 := hb4.zq3 hE22
           have hb13 := hb13.zq3 hE22
           have hR := hR.no hE22
           have hlf := hlf.ext hE22 fun _ _ => id
           have h9 := h9.ext hE22 fun _ _ => id
           have hpp := hpp.ext hE22 fun _ _ => id
           have hX := hX.zq4 hE22
           have fN16 := Nat.le_trans hR0 hn16
           have ne9_16 : ∀ x, OwnB q9 x → x ≠ b16 := fun x hx => Nat.ne_of_lt (Nat.lt_of_lt_of_le (h90.lt hx) hn16)
           have ne16 : ∀ x, OwnB pp x → x ≠ b16 := fun x hx => Nat.ne_of_lt (Nat.lt_of_lt_of_le (hpp0.lt hx) hn16)
           have hb16o := hb16
           refine wl (zj5 (l' := zq6 (pickI ids steps[i].back[t])) I_ok hb16 rfl rfl hpi.len (by rw [zq7, hpi]; rfl) OneC.h fun w23 hb16 hE23 hs23 => ?_)
           have hb1 := hb1.ext1 hE23 ne1_16
           have hb2 := hb2.ext1 hE23 ne2_16
           have hb4 := hb4.ext1 hE23 ne4_16
           have hb13 := hb13.ext1 hE23 ne13_16
           have hR := hR.one hE23 fN16
           have hlf := hlf.zx9 hE23 hb16o (by decide)
           have h9 := h9.ext hE23 (fun x hx => ne9_16 x hx)
           have hpp := hpp.ext hE23 (fun x hx => ne16 x hx)
           have hX := hX.zx1 hE23 fr16
           refine zq2 (zq1 (zq5 ?_))
           refine c_cutK (α := Bool) [1, 2, 4, 5, 9, 13, 16, 22, 23, 24, 70, 71, 72] rfl (fun z => [(103, .bool z)]) (fun z u => (z = decide (t = 1 ∧ ((steps[i].back.take t).map (pickI ids)) = [pickI ids steps[i].back[t]]) ∧ Own u pp ((steps[i].back.take t).map (pickI ids)).length pc 37 32 (((steps[i].back.take t).map (pickI ids)).flatMap zq6) ∧ Own u q9 (objs (refP (tex8 steps[i].rows) (lfP lp lc))).length k9 43 73 ((objs (refP (tex8 steps[i].rows) (lfP lp lc))).flatMap objX) ∧ Own u lp (leavesOf (tex8 steps[i].rows)).length lc 84 33 ((leavesOf (tex8 steps[i].rows)).flatMap zj6.cells) ∧ MadeR N b2 b4 ⟨m, q, k, ids, qi, ki⟩ u) ∧ Blk u b1 25 ([.slice ps steps.length cs, .slice pt turns.length ct]) ∧ Blk u b2 30 ([.slice none 0 0]) ∧ Blk u b4 30 ([.slice q m.length k]) ∧ Blk u b13 43 (objC (comT (toHp m) ids steps[i].d t) (parP pp pc)) ∧ Blk u b16 37 (zq6 (pickI ids steps[i].back[t])) ∧ Ext No w u) ?_ ?_
           ·refine c_draw rfl 10 [(0, true), (1, true), (2, true), (3, true), (4, true), (5, true), (6, true), (7, true), (8, true), (9, true)] [] (No) (by kernel_rfl) fun w24 hE24 hs24 => ?_
            have hd13 := hb13
            have hd16 := hb16
            have hppd := hpp
            have hb1 := hb1.zq3 hE24
            have hb2 := hb2.zq3 hE24
            have hb4 := hb4.zq3 hE24
            have hb13 := hb13.zq3 hE24
            have hb16 := hb16.zq3 hE24
            have hR := hR.no hE24
            have hlf := hlf.ext hE24 fun _ _ => id
            have h9 := h9.ext hE24 fun _ _ => id
            have hpp := hpp.ext hE24 fun _ _ => id
            have hX := hX.zq4 hE24
            refine wd_k I_ok 3 rfl (wd_caseD 96 rfl (fun hg => ?_) (fun hg => ?_))
            ·have hg1 : t = 1 := by omega
             have hpl : ((steps[i].back.take t).map (pickI ids)).length = 1 := by rw [List.length_map, List.length_take]; omega
             obtain ⟨p0, hp0⟩ : ∃ p0, ((steps[i].back.take t).map (pickI ids)) = [p0] := List.length_eq_one_iff.1 hpl
             have hp0i : IdIn p0 := hct.parents p0 (by show p0 ∈ ((steps[i].back.take t).map (pickI ids)); rw [hp0]; exact List.mem_cons_self)
             obtain ⟨pb4, po4, hpe4, hpr4⟩ := hppd.sl.rowAll (fun r hr => IdIn.len (hct.parents r hr)) (by omega)
             have hpr0 := hpr4 0 (by omega)
             have hpr5 : Seg w23 pb4 (po4 + 0 * 32) (zq6 p0) := by
              have e : ((steps[i].back.take t).map (pickI ids))[0]'(by omega) = p0 := by simp only [hp0, List.getElem_cons_zero]
              rw [← e]; exact hpr0
             refine wd_ldN I_ok rfl rfl (fun w' hw' => (hd16.zq3 hw').seg) hpi.len ?_
             refine wd_k I_ok 1 rfl (zv2 I_ok rfl rfl (fun w' hw' => ((hd13.zq3 hw').seg.obj hct).parents) ?_)
             refine wd_put 99 rfl (v' := .slice (some ⟨pb4, po4, none⟩) ((steps[i].back.take t).map (pickI ids)).length pc) (by show Value.slice pp _ pc = _; rw [hpe4]; rfl) ?_
             refine wd_ix I_ok rfl rfl 32 rfl 0 rfl (by omega) (po4 + 0 * 32) rfl (wd_ldN I_ok rfl rfl (fun w' hw' => (hpr5.zq3 hw')) hp0i.len ?_)
             refine wd_eqK rfl rfl gId 10 (by decide) kId (idForm hpi) (idForm hp0i) (idKey hpi) (idKey hp0i) idLits_inj ?_
             simp only [if_true]
             refine wd_k I_ok 1 rfl (wd_sw (zj2 ?_))
             exact zz5 (_) rfl ⟨⟨by rw [decide_eq_decide]; exact ⟨fun e => ⟨hg1, by rw [hp0, e]⟩, fun e => by rw [hp0] at e; exact (List.cons.inj e.2).1.symm⟩, hpp, h9, hlf, hR⟩, hb1, hb2, hb4, hb13, hb16, hX⟩
            ·have hg1 : ¬ t = 1 := by omega
             refine wd_k I_ok 7 rfl (wd_sw (zj2 ?_))
             exact zz5 (false) rfl ⟨⟨(decide_eq_false fun e => hg1 e.1).symm, hpp, h9, hlf, hR⟩, hb1, hb2, hb4, hb13, hb16, hX⟩
           rintro z w25 ⟨⟨rfl, hpp, h9, hlf, hR⟩, hb1, hb2, hb4, hb13, hb16, hX⟩
           refine c_if rfl (fun hc => ?_) (fun hc => ?_)
           ·obtain ⟨h1, h2⟩ := hc
            have hpd : parD ids steps[i].back = ((steps[i].back.take t).map (pickI ids)) := by
             rw [h2]
             subst h1
             exact parD_dup (by omega) (List.getElem?_eq_getElem htl) h2 rfl
            have hcd : (comT (toHp m) ids steps[i].d t) = (comD (toHp m) ids steps[i].d) := comT_done ht1 hpd
            rw [← hpd] at hpp
            rw [hcd] at hb13
            refine c_exit (fin_put 5 rfl (v' := .slice qi ids.length ki) (by rw [hqi]) ?_)
            exact zx3 (f_blockE' rfl (zx3 (zx3 (zz2 (zz5 (pp, pc) rfl ⟨⟨hpp, hppn, h9, hlf, hR⟩, hb1, hb2, hb4, hb13, hX⟩)))))
           ·refine zx7 ?_
            refine zq1 (zq5 (zq0 (wl_p I_ok rfl (wl (st_ld I_ok rfl (hb13.seg.obj hct).parents ?_)))))
            rw [show Value.slice (parP pp pc).pp (comT (toHp m) ids steps[i].d t).parents.length (parP pp pc).pc = .slice pp ((steps[i].back.take t).map (pickI ids)).length pc from rfl]
            refine wl (zj4 I_ok hb16 rfl hpi.len ?_)
            refine wl (st_bs I_ok rfl 32 rfl idZ_c.symm (by rw [zq7]; rfl) (by decide) (by decide) ⟨⟨by rw [zz3]; exact (IdIn.len hpi), by decide⟩, trivial⟩ (l' := zq6 (pickI ids steps[i].back[t])) (one_id hpi) fun b107 w26 hn107 hb107 hE26 hs26 => ?_)
            have hb1 := hb1.zq3 hE26
            have hb2 := hb2.zq3 hE26
            have hb4 := hb4.zq3 hE26
            have hb13 := hb13.zq3 hE26
            have hb16 := hb16.zq3 hE26
            have hR := hR.no hE26
            have hlf := hlf.ext hE26 fun _ _ => id
            have h9 := h9.ext hE26 fun _ _ => id
            have hpp := hpp.ext hE26 fun _ _ => id
            have hX := hX.zq4 hE26
            have hX1 := hX
            have hR1 := hR.n
            have hptl : ((steps[i].back.take t).map (pickI ids)).length = t := by rw [List.length_map, List.length_take]; omega
            refine wl (zj8 I_ok rfl 32 32 rfl rfl rfl (by decide) hpp (Src.slice (m := 1) (one_idS hpi hb107) OneC.h) (by rw [hptl]; dsimp only [maxLen]; omega) (by dsimp only; rw [hptl]; omega) fun p27 c27 w27 ho27 hE27 hB27 => ?_)
            dsimp only at ho27 hE27 hB27 ⊢
            have hX := hX1.trans hE27 fun y hy hF => by have := hppn y hF; omega
            have hb1 := hb1.zx0 hpp hE27 (by decide)
            have hb2 := hb2.zx0 hpp hE27 (by decide)
            have hb4 := hb4.zx0 hpp hE27 (by decide)
            have hb13 := hb13.zx0 hpp hE27 (by decide)
            have hb16 := hb16.ext hE27 (fun h => ne16 _ h rfl)
            have hR := hR.app hE27 hppn
            have hlf := hlf.ext hE27 (fun x hx hx2 => by obtain ⟨L1, h1⟩ := hlf.blkAt hx; obtain ⟨L2, h2⟩ := hpp.blkAt hx2; exact absurd (h1.uniq h2).2 (by decide))
            have h9 := h9.ext hE27 (fun x hx hx2 => by obtain ⟨L1, h1⟩ := h9.blkAt hx; obtain ⟨L2, h2⟩ := hpp.blkAt hx2; exact absurd (h1.uniq h2).2 (by decide))
            have e3 : ((steps[i].back.take (t + 1)).map (pickI ids)).length = ((steps[i].back.take t).map (pickI ids)).length + 1 := by rw [back_snoc htl, List.length_append]; rfl
            obtain ⟨pp2, pc2, e1, e2, hpp2⟩ : ∃ q2 k2, q2 = p27 ∧ k2 = c27 ∧ Own w27 q2 ((steps[i].back.take (t + 1)).map (pickI ids)).length k2 37 32 (((steps[i].back.take (t + 1)).map (pickI ids)).flatMap zq6) := ⟨_, _, rfl, rfl, by
             rw [e3, back_snoc htl, List.flatMap_append, List.flatMap_singleton]
             exact ho27⟩
            rw [← e1] at hB27
            rw [← e1, ← e2, show (((steps[i].back.take t).map (pickI ids)).length + 1) = ((steps[i].back.take (t + 1)).map (pickI ids)).length from e3.symm]
            have hppn2 : (∀ y, OwnB pp2 y → N ≤ y) := fun x hx => (hB27 x hx).elim (fun h => hppn x h) fun h => Nat.le_trans hR1 h
            have ne16b : ∀ x, OwnB pp2 x → ¬ x = b13 := fun x hx => hpp2.neTy hx hb13 (by decide)
            refine wl_p I_ok rfl ?_
            have hb13o := hb13
            refine wl (st_set I_ok hb13 rfl rfl (by rw [zq8 hct]; decide) fun w28 hb13 hE28 hs28 => ?_)
            have hb1 := hb1.ext1 hE28 ne1_13
            have hb2 := hb2.ext1 hE28 ne2_13
            have hb4 := hb4.ext1 hE28 ne4_13
            have hb16 := hb16.ext1 hE28 ne13_16.symm
            have hR := hR.one hE28 fN13
            have hlf := hlf.zx9 hE28 hb13o (by decide)
            have h9 := h9.ext hE28 (fun x hx => ne9_13 x hx)
            have hpp2 := hpp2.zx9 hE28 hb13o (by decide)
            have hX := hX.zx1 hE28 fr13
            have hb13 : Blk w28 b13 43 (objC { (comT (toHp m) ids steps[i].d t) with parents := ((steps[i].back.take (t + 1)).map (pickI ids)) } (parP pp2 pc2)) := (by have e : (objC (comT (toHp m) ids steps[i].d t) (parP pp pc)).set (68 + 0) (.slice pp2 ((steps[i].back.take (t + 1)).map (pickI ids)).length pc2) = objC { (comT (toHp m) ids steps[i].d t) with parents := ((steps[i].back.take (t + 1)).map (pickI ids)) } (parP pp2 pc2) := objC_par hct; rw [← e]; exact hb13)
            refine zq2 (zq1 (zq5 (zq0 (wl (zj4 I_ok hb4 rfl rfl (wl (zj4 I_ok hb16 rfl hpi.len (wl (zx2 Tryz.call24 rfl rfl rfl rfl rfl rfl (commit8_calls w28 hR.hp.now hpi) fun v29 w29 hr29 => ?_)))))))))
            obtain ⟨rfl, hE29⟩ := hr29
            have hb1 := hb1.zq3 hE29
            have hb2 := hb2.zq3 hE29
            have hb4 := hb4.zq3 hE29
            have hb13 := hb13.zq3 hE29
            have hR := hR.no hE29
            have hlf := hlf.ext hE29 fun _ _ => id
            have h9 := h9.ext hE29 fun _ _ => id
            have hpp2 := hpp2.ext hE29 fun _ _ => id
            have hX := hX.zq4 hE29
            refine wl_p I_ok rfl ?_
            have hR0 := hR.n
            have h90 := h9
            refine wl (zj0 I_ok rfl fun b17 w30 hn17 hb17 hE30 => ?_)
            have ne1_17 : b1 ≠ b17 := Nat.ne_of_lt (Nat.lt_of_lt_of_le hb1.lt hn17)
            have ne2_17 : b2 ≠ b17 := Nat.ne_of_lt (Nat.lt_of_lt_of_le hb2.lt hn17)
            have ne4_17 : b4 ≠ b17 := Nat.ne_of_lt (Nat.lt_of_lt_of_le hb4.lt hn17)
            have ne13_17 : b13 ≠ b17 := Nat.ne_of_lt (Nat.lt_of_lt_of_le hb13.lt hn17)
            have fr17 := Nat.le_trans hX.size hn17
            have hb1 := hb1.zq3 hE30
            have hb2 := hb2.zq3 hE30
            have hb4 := hb4.zq3 hE30
            have hb13 := hb13.zq3 hE30
            have hR := hR.no hE30
            have hlf := hlf.ext hE30 fun _ _ => id
            have h9 := h9.ext hE30 fun _ _ => id
            have hpp2 := hpp2.ext hE30 fun _ _ => id
            have hX := hX.zq4 hE30
            have fN17 := Nat.le_trans hR0 hn17
            have ne9_17 : ∀ x, OwnB q9 x → x ≠ b17 := fun x hx => Nat.ne_of_lt (Nat.lt_of_lt_of_le (h90.lt hx) hn17)
            have hki := hR.hp.now.kIn (pickI ids steps[i].back[t]) 3
            have hb17o := hb17
            refine wl (zj5 (l' := objC ((toHp m).kObj (pickI ids steps[i].back[t]) 3) (kObjP m (pickI ids steps[i].back[t]) 3)) I_ok hb17 rfl rfl (zq8 hki) (by rw [zq8 hki]; rfl) OneC.h fun w31 hb17 hE31 hs31 => ?_)
            have hb1 := hb1.ext1 hE31 ne1_17
            have hb2 := hb2.ext1 hE31 ne2_17
            have hb4 := hb4.ext1 hE31 ne4_17
            have hb13 := hb13.ext1 hE31 ne13_17
            have hR := hR.one hE31 fN17
            have hlf := hlf.zx9 hE31 hb17o (by decide)
            have h9 := h9.ext hE31 (fun x hx => ne9_17 x hx)
            have hpp2 := hpp2.zx9 hE31 hb17o (by decide)
            have hX := hX.zx1 hE31 fr17
            refine wl_p I_ok rfl (zq2 (zq1 (c_drawX rfl 12 12 [12] (One b13) (by kernel_rfl) fun w32 hE32 hs32 => ?_)))
            have hd17 := hb17
            have hb1 := hb1.zq3 hE32
            have hb2 := hb2.zq3 hE32
            have hb4 := hb4.zq3 hE32
            have hb13 := hb13.zq3 hE32
            have hR := hR.no hE32
            have hlf := hlf.ext hE32 fun _ _ => id
            have h9 := h9.ext hE32 fun _ _ => id
            have hpp2 := hpp2.ext hE32 fun _ _ => id
            have hX := hX.zq4 hE32
            have hC : Ext (One b13) _ w32 := hE32.no
            have hct1 := comT_in (s := steps[i].d) (ids := ids) (t := t + 1) hMS.ids (.inr (by omega)) hnu
            have hcm : ObjIn { comT (toHp m) ids steps[i].d t with parents := (steps[i].back.take (t + 1)).map (pickI ids) } := ⟨hct.tree, hct.base, hct1.parents, hct.leaves, hct.rows, hct.number, hct.author⟩
            have hcm2 : ObjIn { comT (toHp m) ids steps[i].d t with parents := (steps[i].back.take (t + 1)).map (pickI ids), style := 1 + ((t + 1 : Nat) : Int) } := ⟨hct.tree, hct.base, hct1.parents, hct.leaves, hct.rows, hct.number, hct.author⟩
            have ht6 : ∀ a b, (steps[i].back.take (t + 1)).map (pickI ids) = [a, b] → b ≠ a := fun a b e he => by
             have hl : ((steps[i].back.take (t + 1)).map (pickI ids)).length = t + 1 := by rw [List.length_map, List.length_take]; omega
             rw [e] at hl
             have h1 : t = 1 := by have : 2 = t + 1 := hl; omega
             rw [back_snoc htl] at e
             have h2 := List.append_inj' e rfl (s₂ := [a]) (t₂ := [b])
             exact hc ⟨h1, by rw [h2.1, ← he, (List.cons.inj h2.2).1]⟩
            refine wx_plan [(0, true), (3, true), (5, true), (6, true), (7, true)] 7 rfl (by kernel_rfl) (wd_k I_ok 3 rfl (zv2 I_ok rfl rfl (fun w' hw' => ((hd17.ext1 hw' ne13_17.symm).seg.obj hki).number) ?_))
            refine wd_k I_ok 1 rfl (wd_tail rfl (wx_alt [1, 4] rfl (by kernel_rfl) ⟨⟨_, rfl, ?_⟩, ⟨_, rfl, ?_⟩, trivial⟩))
            ·refine st_ld I_ok rfl (hb13.cell (show _ = some (Value.int .i64 (1 + (t : Int))) from rfl)) ⟨hC, ?_⟩
             refine wx_plan [(2, true), (4, false), (8, true), (9, true), (10, false), (11, true)] 0 rfl (by kernel_rfl) (wd_k I_ok 1 rfl ?_)
             rw [IntWalk.i64_in _ (by omega)]
             rw [show (1 + (t : Int)) + 1 = 1 + ((t + 1 : Nat) : Int) from by omega]
             refine wd_l rfl (st_ld I_ok rfl (hb13.seg.obj hcm).number ⟨hC, ?_⟩)
             refine wd_k I_ok 1 rfl ?_
             rw [max_u32 (m := 1000) (hnu _) (by decide)]
             refine wd_k I_ok 1 rfl ?_
             have hb13o := hb13
             refine wd_l rfl (st_st I_ok hb13 rfl rfl rfl fun w33 hb13 hE33 hs33 => ⟨hC.then hE33, ?_⟩)
             have hb1 := hb1.ext1 hE33 ne1_13
             have hb2 := hb2.ext1 hE33 ne2_13
             have hb4 := hb4.ext1 hE33 ne4_13
             have hR := hR.one hE33 fN13
             have hlf := hlf.zx9 hE33 hb13o (by decide)
             have h9 := h9.ext hE33 (fun x hx => ne9_13 x hx)
             have hpp2 := hpp2.zx9 hE33 hb13o (by decide)
             have hX := hX.zx1 hE33 fr13
             have hb13 : Blk w33 b13 43 (objC { comT (toHp m) ids steps[i].d t with parents := (steps[i].back.take (t + 1)).map (pickI ids), style := 1 + ((t + 1 : Nat) : Int) } (parP pp2 pc2)) := hb13
             refine wd_k I_ok 1 rfl (wd_sw ?_)
             have hb13o := hb13
             refine wb rfl (st_set I_ok hb13 rfl rfl (by rw [zq8 hcm2]; decide) fun w34 hb13 hE34 hs34 => ?_)
             have hb1 := hb1.ext1 hE34 ne1_13
             have hb2 := hb2.ext1 hE34 ne2_13
             have hb4 := hb4.ext1 hE34 ne4_13
             have hR := hR.one hE34 fN13
             have hlf := hlf.zx9 hE34 hb13o (by decide)
             have h9 := h9.ext hE34 (fun x hx => ne9_13 x hx)
             have hpp2 := hpp2.zx9 hE34 hb13o (by decide)
             have hX := hX.zx1 hE34 fr13
             have hb13 : Blk w34 b13 43 (objC (comT (toHp m) ids steps[i].d (t + 1)) (parP pp2 pc2)) := (by rw [comT_step htl]; have e := objC_nu (a := parP pp2 pc2) hcm2 (n := max (comT (toHp m) ids steps[i].d t).number (((toHp m).kObj (pickI ids steps[i].d.back[t]) 3).number + 1)); rw [← e]; exact hb13)
             refine zj2 (zx6 (zq1 (zq0 (wl_p I_ok rfl ?_))))
             rw [IntWalk.i64_in _ (by omega)]
             refine zq2 (fin_put 5 rfl (v' := .slice qi ids.length ki) (by rw [hqi]) (fin_put 70 rfl (v' := .slice steps[i].bp steps[i].back.length steps[i].bc) (by rw [hbp]) ?_))
             exact zj7 (t + 1, pp2, pc2) rfl ⟨⟨⟨htl, by omega, .inr (by omega), ht6⟩, hpp2, hppn2, h9, hlf, hR⟩, hb1, hb2, hb4, hb13, hX⟩ (by first | omega | (dsimp only; omega))
            ·refine st_ld I_ok rfl (hb13.seg.obj hcm).number ⟨hC, ?_⟩
             refine wx_plan [(8, true), (1, false), (2, true), (9, true), (10, false), (11, true)] 0 rfl (by kernel_rfl) (wd_k I_ok 1 rfl ?_)
             rw [max_u32 (m := 1000) (hnu _) (by decide)]
             refine wd_l rfl (st_ld I_ok rfl (hb13.cell (show _ = some (Value.int .i64 (1 + (t : Int))) from rfl)) ⟨hC, ?_⟩)
             refine wd_k I_ok 1 rfl ?_
             rw [IntWalk.i64_in _ (by omega)]
             rw [show (1 + (t : Int)) + 1 = 1 + ((t + 1 : Nat) : Int) from by omega]
             refine wd_k I_ok 1 rfl ?_
             have hb13o := hb13
             refine wd_l rfl (st_st I_ok hb13 rfl rfl rfl fun w35 hb13 hE35 hs35 => ⟨hC.then hE35, ?_⟩)
             have hb1 := hb1.ext1 hE35 ne1_13
             have hb2 := hb2.ext1 hE35 ne2_13
             have hb4 := hb4.ext1 hE35 ne4_13
             have hR := hR.one hE35 fN13
             have hlf := hlf.zx9 hE35 hb13o (by decide)
             have h9 := h9.ext hE35 (fun x hx => ne9_13 x hx)
             have hpp2 := hpp2.zx9 hE35 hb13o (by decide)
             have hX := hX.zx1 hE35 fr13
             have hb13 : Blk w35 b13 43 (objC { comT (toHp m) ids steps[i].d t with parents := (steps[i].back.take (t + 1)).map (pickI ids), style := 1 + ((t + 1 : Nat) : Int) } (parP pp2 pc2)) := hb13
             refine wd_k I_ok 1 rfl (wd_sw ?_)
             have hb13o := hb13
             refine wb rfl (st_set I_ok hb13 rfl rfl (by rw [zq8 hcm2]; decide) fun w36 hb13 hE36 hs36 => ?_)
             have hb1 := hb1.ext1 hE36 ne1_13
             have hb2 := hb2.ext1 hE36 ne2_13
             have hb4 := hb4.ext1 hE36 ne4_13
             have hR := hR.one hE36 fN13
             have hlf := hlf.zx9 hE36 hb13o (by decide)
             have h9 := h9.ext hE36 (fun x hx => ne9_13 x hx)
             have hpp2 := hpp2.zx9 hE36 hb13o (by decide)
             have hX := hX.zx1 hE36 fr13
             have hb13 : Blk w36 b13 43 (objC (comT (toHp m) ids steps[i].d (t + 1)) (parP pp2 pc2)) := (by rw [comT_step htl]; have e := objC_nu (a := parP pp2 pc2) hcm2 (n := max (comT (toHp m) ids steps[i].d t).number (((toHp m).kObj (pickI ids steps[i].d.back[t]) 3).number + 1)); rw [← e]; exact hb13)
             refine zj2 (zx6 (zq1 (zq0 (wl_p I_ok rfl ?_))))
             rw [IntWalk.i64_in _ (by omega)]
             refine zq2 (fin_put 5 rfl (v' := .slice qi ids.length ki) (by rw [hqi]) (fin_put 70 rfl (v' := .slice steps[i].bp steps[i].back.length steps[i].bc) (by rw [hbp]) ?_))
             exact zj7 (t + 1, pp2, pc2) rfl ⟨⟨⟨htl, by omega, .inr (by omega), ht6⟩, hpp2, hppn2, h9, hlf, hR⟩, hb1, hb2, hb4, hb13, hX⟩ (by first | omega | (dsimp only; omega))
         ·have htz : t = steps[i].back.length := by omega
          have hpd : parD ids steps[i].back = ((steps[i].back.take t).map (pickI ids)) := by
           by_cases h0 : ids.length = 0
           ·rw [parD_none h0]
            rcases ht3 with k | k
            ·rw [k]; rfl
            ·exact absurd h0 k
           ·exact parD_all h0 (.inr ⟨htz, ht2⟩) ht4
          have hcd : (comT (toHp m) ids steps[i].d t) = (comD (toHp m) ids steps[i].d) := comT_done ht1 hpd
          rw [← hpd] at hpp
          rw [hcd] at hb13
          refine c_exit ?_
          exact zx3 (zx3 (zz2 (zz5 (pp, pc) rfl ⟨⟨hpp, hppn, h9, hlf, hR⟩, hb1, hb2, hb4, hb13, hX⟩)))
        rintro ⟨pp, pc⟩ w37 ⟨⟨hpp, hppn, h9, hlf, hR⟩, hb1, hb2, hb4, hb13, hX⟩
        try dsimp only
        dsimp only at hpp hppn
        have hcdi : ObjIn (comD (toHp m) ids steps[i].d) := comD_in hMS.ids (by have : (toHp m).top (parD ids steps[i].back) ≤ 1000 := top_le fun p _ => hnu p; show (toHp m).top (parD ids steps[i].back) < 2 ^ 32; omega)
        refine zq5 (c_draw rfl 6 [(0, true), (1, true), (2, true), (3, false), (4, false), (5, false)] [6] (OwnB q9) (by kernel_rfl) fun w38 hE38 hs38 => ?_)
        have hd4 := hb4
        have hd13 := hb13
        have h9d := h9
        have hb1 := hb1.zq3 hE38
        have hb2 := hb2.zq3 hE38
        have hb4 := hb4.zq3 hE38
        have hb13 := hb13.zq3 hE38
        have hR := hR.no hE38
        have hlf := hlf.ext hE38 fun _ _ => id
        have h9 := h9.ext hE38 fun _ _ => id
        have hpp := hpp.ext hE38 fun _ _ => id
        have hX := hX.zq4 hE38
        have hC : Ext (OwnB q9) _ w38 := hE38.no
        refine wd_ldN I_ok rfl rfl (fun w' hw' => ((hd4.ext (show Ext (OwnB q9) _ w' from hw') (fun e => h9d.neTy e hd4 (by decide) rfl)).seg)) rfl ?_
        refine wd_k I_ok 1 rfl (wd_ldN I_ok rfl rfl (fun w' hw' => ((hd13.ext (show Ext (OwnB q9) _ w' from hw') (fun e => ne9_13 _ e rfl)).seg)) (zq8 hcdi) ?_)
        refine wd_l rfl (st_bs I_ok rfl 73 rfl objZ_c.symm (by rw [zq8 objZ_in]) (by decide) (by decide) ⟨⟨by rw [zz3]; exact zq8 hcdi, by decide⟩, trivial⟩ (l' := objC (comD (toHp m) ids steps[i].d) (parP pp pc)) (one_obj hcdi) fun b131 w39 hn131 hb131 hE39 hs39 => ⟨hC.zq4 hE39, ?_⟩)
        have hb1 := hb1.zq3 hE39
        have hb2 := hb2.zq3 hE39
        have hb4 := hb4.zq3 hE39
        have hb13 := hb13.zq3 hE39
        have hR := hR.no hE39
        have hlf := hlf.ext hE39 fun _ _ => id
        have h9 := h9.ext hE39 fun _ _ => id
        have hpp := hpp.ext hE39 fun _ _ => id
        have hX := hX.zq4 hE39
        have hC := hC.zq4 hE39
        have hX1 := hX
        have hR1 := hR.n
        have hol : (objs (refP (tex8 steps[i].rows) (lfP lp lc))).length = (refP (tex8 steps[i].rows) (lfP lp lc)).length := List.length_map ..
        have hs131 : Sl w39 (some ⟨b131, 0, none⟩) 1 73 (objC (comD (toHp m) ids steps[i].d) (parP pp pc)) := ⟨zq8 hcdi, .inr ⟨b131, 0, rfl, hb131.seg⟩⟩
        refine wd_l rfl (zj8 I_ok rfl 73 192 rfl rfl rfl (by decide) h9 (Src.slice (m := 1) hs131 OneC.h) (by dsimp only; rw [hol]; dsimp only [maxLen]; omega) (by dsimp only; rw [hol]; omega) fun p40 c40 w40 ho40 hE40 hB40 => ⟨hC.then hE40, ?_⟩)
        have hC := hC.then hE40
        dsimp only at ho40 hE40 hB40 ⊢
        have hX := hX1.trans hE40 fun y hy hF => by have := h9n y hF; omega
        have hb1 := hb1.zx0 h9 hE40 (by decide)
        have hb2 := hb2.zx0 h9 hE40 (by decide)
        have hb4 := hb4.zx0 h9 hE40 (by decide)
        have hb13 := hb13.ext hE40 (fun h => ne9_13 _ h rfl)
        have hR := hR.app hE40 h9n
        have hlf := hlf.ext hE40 (fun x hx hx2 => by obtain ⟨L1, h1⟩ := hlf.blkAt hx; obtain ⟨L2, h2⟩ := h9.blkAt hx2; exact absurd (h1.uniq h2).2 (by decide))
        have hpp := hpp.ext hE40 (fun x hx hx2 => by obtain ⟨L1, h1⟩ := hpp.blkAt hx; obtain ⟨L2, h2⟩ := h9.blkAt hx2; exact absurd (h1.uniq h2).2 (by decide))
        obtain ⟨XS, hXS⟩ : ∃ XS, XS = objs (refP (tex8 steps[i].rows) (lfP lp lc)) ++ [((comD (toHp m) ids steps[i].d), parP pp pc)] := ⟨_, rfl⟩
        obtain ⟨q92, k92, e1, e2, h92⟩ : ∃ q2 k2, q2 = p40 ∧ k2 = c40 ∧ Own w40 q2 XS.length k2 43 73 (XS.flatMap objX) := ⟨_, _, rfl, rfl, by
         rw [hXS, List.flatMap_append, List.length_append, List.flatMap_singleton]
         exact ho40⟩
        rw [← e1, ← e2, show (objs (refP (tex8 steps[i].rows) (lfP lp lc))).length + 1 = XS.length from by rw [hXS, List.length_append]; rfl]
        have hXl : XS.length = (refP (tex8 steps[i].rows) (lfP lp lc)).length + 1 := by rw [hXS, List.length_append, hol]; rfl
        have hwl := putW_len XS m
        have hml := hMS.len
        dsimp only at hml
        have hcl : ∀ u, Sl u pp (parD ids steps[i].back).length 32 ((parD ids steps[i].back).flatMap zq6) → ObjL u (comD (toHp m) ids steps[i].d) (parP pp pc) := fun u h => ⟨Sl.nil _ _ _, h, Sl.nil _ _ _⟩
        have htl2 : ∀ u, Own u lp (leavesOf (tex8 steps[i].rows)).length lc 84 33 ((leavesOf (tex8 steps[i].rows)).flatMap zj6.cells) → ObjL u (treeOf (tex8 steps[i].rows)) (lfP lp lc) := fun u h => ⟨h.sl, Sl.nil _ _ _, Sl.nil _ _ _⟩
        have hXall : ∀ {P : ObjX → Prop}, (∀ t ∈ refT (tex8 steps[i].rows), P ((heldB t).o, (heldB t).a)) → P (treeOf (tex8 steps[i].rows), lfP lp lc) → P ((comD (toHp m) ids steps[i].d), parP pp pc) → ∀ x ∈ XS, P x := fun {P} h1 h2 h3 x hx => by
         rw [hXS] at hx
         rcases List.mem_append.1 hx with hx | hx
         ·obtain ⟨y, hy, rfl⟩ := List.mem_map.1 hx
          exact refP_all (P := fun y => P (y.o, y.a)) h1 h2 y hy
         ·rw [List.mem_singleton.1 hx]; exact h3
        have hcsh : Short (comD (toHp m) ids steps[i].d) := ⟨by show 0 < 1000000000; decide, by show (parD ids steps[i].back).length < _; have := parD_len ids steps[i].back; omega, by show 0 < 1000000000; decide, fun _ h => (by cases h), fun _ h => (by cases h)⟩
        have hoIn : ∀ x ∈ XS, ObjIn x.1 := hXall (fun t _ => blobO_in t) htin hcdi
        have hXin : ObjsIn w40 q92 XS := ⟨h92.sl, hoIn, hXall (fun t _ => blob_sh t) htsh hcsh, hXall (fun t _ => blob_l _ _) (htl2 _ hlf) (hcl _ hpp.sl), hXall (fun t ht => (held_okB w40 ht).2.1) (bytes_of hok.1) (comD_bytes _ _ _)⟩
        have hXlk : ∀ x ∈ XS, (zz9 x.1).length ≤ 40 := hXall (fun t _ => Nat.zero_le _) (tree_few _) (com_few _ _ _)
        have hpk : ∀ y ∈ putW m XS, (zz9 y.o).length ≤ 40 := putW_mem XS hMS.few.lk fun x hx => hXlk x hx
        have hpk2 := lk_few (l := putW m XS) (by omega) hpk
        have hRc := hR
        have hlkk : (m.flatMap fun e => zz9 e.o).length + (XS.flatMap fun x => zz9 x.1).length < 100000 := by
         have h1 := flat_few (f := fun e : zx8 => zz9 e.o) (n := 40) hMS.few.lk
         have h2 := flat_few (f := fun e : ObjX => zz9 e.1) (n := 40) hXlk
         dsimp only at h1
         have h3 := Nat.mul_le_mul_right 40 (show m.length ≤ 100 by omega)
         have h4 := Nat.mul_le_mul_right 40 (show XS.length ≤ 100 by omega)
         omega
        refine wd_l rfl (zx2 Tryz.call12 rfl rfl rfl rfl rfl rfl (put8_calls w40 (l := m) hR.hp.now hXin (by omega) hlkk) fun v41 w41 hr41 => ⟨(by obtain ⟨q5, k5, rfl, h5o, h5n, h5h, hE41⟩ := hr41; exact hC.zq4 hE41), ?_⟩)
        obtain ⟨q5, k5, rfl, h5o, h5n, h5h, hE41⟩ := hr41
        have hb1 := hb1.zq3 hE41
        have hb2 := hb2.zq3 hE41
        have hb4 := hb4.zq3 hE41
        have hb13 := hb13.zq3 hE41
        have hR := hR.no hE41
        have hlf := hlf.ext hE41 fun _ _ => id
        have hpp := hpp.ext hE41 fun _ _ => id
        have hX := hX.zq4 hE41
        have hid := hR.own.now
        dsimp only at hid
        have hst := stb_put (q := q) (m := m) (xs := XS) (S := fun x => x = b2 ∨ x = b4 ∨ OwnB qi x) hRc.hp hE41 (fun _ _ k => .inl k) h5o (fun x hx k => by
          rcases k with k | k | k
          ·exact h5o.neTy hx hb2 (by decide) k
          ·exact h5o.neTy hx hb4 (by decide) k
          ·obtain ⟨L1, h1⟩ := h5o.blkAt hx; obtain ⟨L2, h2⟩ := hid.blkAt k; exact absurd (h1.uniq h2).2 (by decide))
         (hXall (fun t ht u hu => (held_okB u ht).1) (fun u hu => HeldIn.objO htin htsh (htl2 u (hlf.ext hu fun x hx k => by
          rcases k with k | k | k
          ·exact hlf.neTy hx hb2 (by decide) k
          ·exact hlf.neTy hx hb4 (by decide) k
          ·obtain ⟨L1, h1⟩ := hlf.blkAt hx; obtain ⟨L2, h2⟩ := hid.blkAt k; exact absurd (h1.uniq h2).2 (by decide))))
          (fun u hu => HeldIn.objO hcdi hcsh (hcl u (hpp.ext hu fun x hx k => by
          rcases k with k | k | k
          ·exact hpp.neTy hx hb2 (by decide) k
          ·exact hpp.neTy hx hb4 (by decide) k
          ·have := hqiL x k; have := hppn x hx; omega).sl))) (by omega) hpk2
        refine wd_sw ?_
        have hb4o := hb4
        refine wb rfl (zj5 (l' := [.slice q5 (putW m XS).length k5]) I_ok hb4 rfl rfl rfl rfl OneC.h fun w42 hb4 hE42 hs42 => ?_)
        have hb1 := hb1.ext1 hE42 ne1_4
        have hb2 := hb2.ext1 hE42 ne2_4
        have hb13 := hb13.ext1 hE42 ne4_13.symm
        have hpp := hpp.zx9 hE42 hb4o (by decide)
        have hid := hid.zx9 hE42 hb4o (by decide)
        have hst := hst.one hE42 (.inr (.inl rfl))
        have hX := hX.zx1 hE42 fr4
        refine zj2 (zq1 (zq0 (wl_p I_ok rfl (wl (zj4 I_ok hb13 rfl (zq8 hcdi) (wl (zx2 Tryz.call25 rfl rfl rfl rfl rfl rfl (id6_calls w42 hcdi (hcl _ hpp.sl) (comD_bytes _ _ _)) fun v43 w43 hr43 => ?_)))))))
        obtain ⟨rfl, hE43⟩ := hr43
        have hb1 := hb1.zq3 hE43
        have hb2 := hb2.zq3 hE43
        have hb4 := hb4.zq3 hE43
        have hid := hid.ext hE43 fun _ _ => id
        have hst := hst.no hE43
        have hX := hX.zq4 hE43
        refine wl (st_bs I_ok rfl 32 rfl idZ_c.symm (by rw [zq7]; rfl) (by decide) (by decide) ⟨⟨by rw [zz3]; exact (IdIn.len (zj9 _)), by decide⟩, trivial⟩ (l' := zq6 (idOf (comD (toHp m) ids steps[i].d))) (one_id (zj9 _)) fun b137 w44 hn137 hb137 hE44 hs44 => ?_)
        have hb1 := hb1.zq3 hE44
        have hb2 := hb2.zq3 hE44
        have hb4 := hb4.zq3 hE44
        have hid := hid.ext hE44 fun _ _ => id
        have hst := hst.no hE44
        have hX := hX.zq4 hE44
        have hX1 := hX
        refine wl (zj8 I_ok rfl 32 32 rfl rfl rfl (by decide) hid (Src.slice (m := 1) (one_idS (zj9 _) hb137) OneC.h) (by have := hMS.il; dsimp only at this; dsimp only [maxLen]; omega) (by have := hMS.il; dsimp only at this; dsimp only; omega) fun p45 c45 w45 ho45 hE45 hB45 => ?_)
        dsimp only at ho45 hE45 hB45 ⊢
        have hX := hX1.trans hE45 fun y hy hF => by have := hMS.new y hF; omega
        have hb1 := hb1.zx0 hid hE45 (by decide)
        have hb2 := hb2.zx0 hid hE45 (by decide)
        have hb4 := hb4.zx0 hid hE45 (by decide)
        obtain ⟨qi2, ki2, e1, e2, hid2⟩ : ∃ q2 k2, q2 = p45 ∧ k2 = c45 ∧ Own w45 q2 (ids ++ [idOf (comD (toHp m) ids steps[i].d)]).length k2 37 32 ((ids ++ [idOf (comD (toHp m) ids steps[i].d)]).flatMap zq6) := ⟨_, _, rfl, rfl, by
         rw [List.flatMap_append, List.length_append, List.flatMap_singleton]
         exact ho45⟩
        rw [← e1] at hB45
        have hst := hst.step (S' := fun x => x = b2 ∨ x = b4 ∨ OwnB qi2 x) hE45 (fun x _ e => .inr (.inr e)) (fun x hx k => k.elim .inl fun k => k.elim (fun k => .inr (.inl k)) fun k => (hB45 x k).elim (fun k => .inr (.inr k)) fun k => absurd hx (by omega))
        have hin2 := newW hX1 hMS.new hB45
        rw [← e1, ← e2, show ids.length + 1 = (ids ++ [idOf (comD (toHp m) ids steps[i].d)]).length from by rw [List.length_append]; rfl]
        refine wl_p I_ok rfl (zq2 ?_)
        have eD : comD (toHp m) ids (steps.map StepT.d)[i] = (comD (toHp m) ids steps[i].d) := by rw [eiD]
        exact zx6 (zz5 (⟨putW m XS, q5, k5, ids ++ [idOf (comD (toHp m) ids steps[i].d)], qi2, ki2⟩) rfl ⟨⟨h8, eD ▸ hMS.go (xs := XS) (q := q5) (k := k5) (ki := ki2) hiD (by rw [eiD]; exact ⟨hro, hok⟩) (by rw [hXS, List.map_append, refP_objs, eiD]; rfl) hin2, ⟨hst, hid2⟩⟩, hb1, hb2, hb4, hX⟩)
   rintro ⟨m2, q2, k2, ids2, qi2, ki2⟩ w46 ⟨⟨h8, hMS, hMY⟩, hb1, hb2, hb4, hX⟩
   try dsimp only
   try dsimp only at hMS hMY
   refine zq0 (wl_p I_ok rfl ?_)
   rw [IntWalk.i64_in _ (by omega)]
   refine zq2 (fin_put 22 rfl (v' := .slice ps steps.length cs) (by rw [hp1]) ?_)
   exact zj7 (i + 1, ⟨m2, q2, k2, ids2, qi2, ki2⟩) rfl ⟨⟨hi2, h8, hMS, hMY⟩, hb1, hb2, hb4, hX⟩ (by first | omega | (dsimp only; omega))
  ·refine c_exit ?_
   exact zx3 (zx3 (zz2 (zz5 (⟨m, q, k, ids, qi, ki⟩) rfl ⟨⟨hMS.done (.inr ⟨by rw [List.length_map]; omega, hi8⟩), hMY⟩, hb1, hb2, hb4, hX⟩)))
 rintro ⟨m, q, k, ids, qi, ki⟩ w47 ⟨⟨hMS, hMY⟩, hb1, hb2, hb4, hX⟩
 try dsimp only
 try dsimp only at hMS hMY
 refine c_cutK (α := List zx8 × Option Addr × Nat) [2, 4, 5] rfl (fun z => []) (fun z u => ((∃ t, TurnS (madeD (steps.map StepT.d)) t z.1 ∧ t ≤ 4 ∧ (turns = [] → t = 0)) ∧ MadeY b2 b4 ⟨z.1, z.2.1, z.2.2, ids, qi, ki⟩ u) ∧ Blk u b2 30 ([.slice none 0 0]) ∧ Blk u b4 30 ([.slice z.2.1 z.1.length z.2.2]) ∧ Ext No w u) ?_ ?_
 ·refine zq5 ?_
  refine zq0 (wl_p I_ok rfl (wl (st_ldb I_ok hb1 rfl rfl (wl_p I_ok rfl (zq2 (zq1 (zx4 ?_)))))))
  refine zv1 (α := Nat × List zx8 × Option Addr × Nat) [2, 4, 5, 141, 142] rfl (fun z => [(143, .int .i64 (z.1 : Int))]) (fun z u => ((z.1 ≤ turns.length ∧ z.1 ≤ 4 ∧ TurnS (madeD (steps.map StepT.d)) z.1 z.2.1) ∧ MadeY b2 b4 ⟨z.2.1, z.2.2.1, z.2.2.2, ids, qi, ki⟩ u) ∧ Blk u b2 30 ([.slice none 0 0]) ∧ Blk u b4 30 ([.slice z.2.2.1 z.2.1.length z.2.2.2]) ∧ Ext No w u) (fun z u => turns.length - z.1) (0, m, q, k) rfl ⟨⟨⟨Nat.zero_le _, Nat.zero_le _, TurnS.of hMS⟩, hMY⟩, hb2, hb4, hX⟩ ?_
  rintro ⟨j, m3, q3, k3⟩ w48 ⟨⟨⟨hj, hj4, hTS⟩, hMY⟩, hb2, hb4, hX⟩
  try dsimp only
  try dsimp only at hj hj4 hTS hMY hb4
  have hR := hMY.round hb2 hb4 (by decide) (by decide)
  have hqiL : ∀ x, OwnB qi x → x < w48.heap.size := fun x hx => hMY.own.lt hx
  have hl2L := hb2.lt
  have hl4L := hb4.lt
  obtain ⟨N, hN⟩ : ∃ N, N = w48.heap.size := ⟨_, rfl⟩
  rw [← hN] at hR hqiL hl2L hl4L
  have hNw : w.heap.size ≤ N := by rw [hN]; exact hX.size
  refine zq5 (zq0 (wl_p I_ok rfl (zq2 (zq1 (zq5 (c_if rfl (fun hc => ?_) (fun hc => ?_)))))))
  ·have hj2 : j < turns.length := by omega
   obtain ⟨tb, to_, hpt2, htr⟩ := ht.rowAll (fun r _ => turnC_len r) (by omega)
   have hti2 := hti _ (List.getElem_mem hj2)
   refine wc_put 141 rfl (v' := .slice (some ⟨tb, to_, none⟩) turns.length ct) (by rw [hpt2]) (zx7 (zq1 (zq5 (zx4 (zq5 (zq0 (wl_p I_ok rfl (wl (st_ix I_ok rfl 3 rfl j rfl (by omega) (to_ + j * 3) rfl ?_)))))))))
   refine wl (st_ldN I_ok rfl ((htr j hj2).zq3 hX) rfl ?_)
   have hR0 := hR.n
   refine wl (zj0 I_ok rfl fun b20 w49 hn20 hb20 hE49 => ?_)
   have ne2_20 : b2 ≠ b20 := Nat.ne_of_lt (Nat.lt_of_lt_of_le hb2.lt hn20)
   have ne4_20 : b4 ≠ b20 := Nat.ne_of_lt (Nat.lt_of_lt_of_le hb4.lt hn20)
   have fr20 := Nat.le_trans hX.size hn20
   have hb2 := hb2.zq3 hE49
   have hb4 := hb4.zq3 hE49
   have hR := hR.no hE49
   have hX := hX.zq4 hE49
   have fN20 := Nat.le_trans hR0 hn20
   refine wl_p I_ok rfl (wl (zj5 (l' := turnC turns[j]) I_ok hb20 rfl rfl rfl rfl OneC.h fun w50 hb20 hE50 hs50 => ?_))
   have hb2 := hb2.ext1 hE50 ne2_20
   have hb4 := hb4.ext1 hE50 ne4_20
   have hR := hR.one hE50 fN20
   have hX := hX.zx1 hE50 fr20
   refine zq2 (zq1 (zq5 (c_cutK (α := Bool) [2, 4, 5, 20, 141, 142, 143] rfl (fun z => [(155, .bool z)]) (fun z u => u = w50 ∧ z = decide (j = 4 ∨ m3.length = 0)) ?_ ?_)))
   ·refine zq0 ?_
    refine wl_p I_ok rfl (zj3 150 rfl (fun hg => ?_) (fun hg => ?_))
    ·have hg1 : j = 4 := by omega
     refine zz6 I_ok 5 rfl (zq2 ?_)
     exact zz5 (true) rfl ⟨rfl, (decide_eq_true (.inl hg1)).symm⟩
    ·have hg1 : ¬ j = 4 := by omega
     refine zz6 I_ok 1 rfl (wl (st_ldb I_ok hb4 rfl rfl (zz6 I_ok 3 rfl (zq2 ?_))))
     exact zz5 (_) rfl ⟨rfl, by rw [decide_eq_decide]; exact ⟨fun k => .inr (by omega), fun k => k.elim (fun k => absurd k hg1) fun k => by omega⟩⟩
   rintro z w51 ⟨hu, rfl⟩
   have hu := hu.symm
   subst hu
   refine c_if rfl (fun hc => ?_) (fun hc => ?_)
   ·refine c_exit ?_
    exact zx3 (f_blockE' rfl (zx3 (zx3 (zz2 (zz5 (m3, q3, k3) rfl ⟨⟨⟨j, hTS, hj4, fun e => by rw [e] at hj2; exact absurd hj2 (Nat.not_lt_zero _)⟩, hR.y⟩, hb2, hb4, hX⟩)))))
   ·have hj5 : j < 4 := by omega
    have hm0 : m3 ≠ [] := fun e => hc (.inr (by rw [e]; rfl))
    have hil := hTS.len
    refine zx7 (zq1 (zq0 (wl (zj4 I_ok hb4 rfl rfl (wl (zj4 I_ok hb20 rfl rfl ?_))))))
    have hRc := hR
    refine wl (zx2 Tryz.call26 rfl rfl rfl rfl rfl rfl (turned_calls w50 hR.hp.now (fun x hx => by have := (hTS.all x hx).2; omega) hm0 turns[j].at_ turns[j].fl turns[j].n hti2.a hti2.f hti2.n) fun v52 w52 hr52 => ?_)
    obtain ⟨q4, k4, m4, rfl, h4s, h4n, hT, hE52⟩ := hr52
    have hb2 := hb2.zq3 hE52
    have hb4 := hb4.zq3 hE52
    have hX := hX.zq4 hE52
    have hTS2 := hTS.turn hT
    have hl2 := hTS2.len
    have hRn := hRc.n
    have hst := stb_turn (q := q3) (m := m3) (m2 := m4) (S := fun x => x = b2 ∨ x = b4 ∨ OwnB qi x) hRc.hp hE52 (fun _ _ k => .inl k) h4s h4n (fun x k => by
      rcases k with k | k | k
      ·omega
      ·omega
      ·have := hqiL x k; omega) hT (by omega) (lk_few (l := m4) (by omega) fun x hx => (hTS2.all x hx).1)
    have hid := hRc.own.now
    dsimp only at hid
    have hid := hid.ext hE52 fun _ _ => id
    have hb4o := hb4
    refine wl (zj5 (l' := [.slice q4 m4.length k4]) I_ok hb4 rfl rfl rfl rfl OneC.h fun w53 hb4 hE53 hs53 => ?_)
    have hb2 := hb2.ext1 hE53 ne2_4
    have hid := hid.zx9 hE53 hb4o (by decide)
    have hst := hst.one hE53 (.inr (.inl rfl))
    have hX := hX.zx1 hE53 fr4
    refine zq2 (zx6 (zq1 (zq0 (wl_p I_ok rfl ?_))))
    rw [IntWalk.i64_in _ (by omega)]
    refine zq2 (fin_put 141 rfl (v' := .slice pt turns.length ct) (by rw [hpt2]) ?_)
    exact zj7 (j + 1, m4, q4, k4) rfl ⟨⟨⟨hj2, hj5, hTS2⟩, ⟨hst, hid⟩⟩, hb2, hb4, hX⟩ (by first | omega | (dsimp only; omega))
  ·refine c_exit ?_
   exact zx3 (zx3 (zz2 (zz5 (m3, q3, k3) rfl ⟨⟨⟨j, hTS, hj4, fun e => by rw [e] at hj; exact Nat.le_zero.1 hj⟩, hMY⟩, hb2, hb4, hX⟩)))
 rintro ⟨m3, q3, k3⟩ w54 ⟨⟨⟨t, hTS, ht4, htz⟩, hMY⟩, hb2, hb4, hX⟩
 try dsimp only
 try dsimp only at hTS hMY
 refine zq5 (zq0 (wl (zj4 I_ok hb4 rfl rfl (wl_p I_ok rfl ?_))))
 have hb2o := hb2
 have hMY0 := hMY
 refine wl (zj5 (l' := [.slice q3 m3.length k3]) I_ok hb2 rfl rfl rfl rfl OneC.h fun w55 hb2 hE55 hs55 => ?_)
 have hX := hX.zx1 hE55 fr2
 refine wl_p I_ok rfl (zq2 (zq1 (zz8 (f_ret [_, _] ⟨⟨b2, 0, rfl, ld_all I_ok rfl rfl hb2.seg rfl⟩, rfl, trivial⟩ ?_))))
 exact ⟨q3, k3, m3, qi, ki, ids, rfl, ⟨hMY0.hp.step hE55 (fun x _ e => .inl e) (fun x _ k => .inr (.inr k)), hMY0.own.zx9 hE55 hb2o (by decide), hMS.new, hMS.ids, hMS.il, by have := hTS.len; omega, fun x hx => (hTS.all x hx).1⟩, fun e => by rw [hTS.e (htz e)]; have := hMS.e; dsimp only at this; rw [← this], hX⟩
end Go.Proofs.YtoapldhadeoeiaaGreatDoor
namespace Go.Proofs.YtoapldhadeoeiaaGreatDoor
open Go.Vc
def Hp.waveN (h : Hp) : Nat → List IdB → List IdB
  | 0, L => L
  | n + 1, L => Hp.waveN h n (h.waveGo L L)
theorem Hp.waveN_part (h : Hp) {x : IdB} : ∀ (n : Nat) {L : List IdB}, h.Part x L → h.Part x (Hp.waveN h n L)
 | 0, _, hp => hp
 | n + 1, _, hp => Hp.waveN_part h n hp.wave
theorem Hp.led_of {h : Hp} {x : IdB} {L : List IdB} (n : Nat) (hL : Hp.waveN h n [x] = L) (hw : (h.waveGo L L).length = L.length) : h.led x = L := by
 have hp : h.Part x L := by
  rw [← hL]
  exact Hp.waveN_part h n ⟨List.pairwise_singleton _ _, List.mem_singleton.2 rfl, fun y hy => by rw [List.mem_singleton.1 hy]; exact .here⟩
 exact (hp.done hw).symm
def wkStep (n : Str) (b : List Int) : StepD := ⟨[⟨[97], [49]⟩], b, n⟩
def wkS : List StepD := [wkStep [] [], wkStep [97] [0], wkStep [98] [0]]
@[irreducible] def wkH : Hp := (madeD wkS).1
@[irreducible] def wkI : List IdB := (madeD wkS).2
@[irreducible] def wkL (x : IdB) : List IdB := Hp.waveN wkH 3 [x]
def histC (h : Hp) (L : List IdB) : List IdB := (L.filter fun y => decide (h.kErr y 3 = 0)).foldl h.hIns []
@[irreducible] def wkC (i : Nat) : IdB := wkI.getD i []
def wkOk : Bool := decide (wkI.length = 3 ∧ wkH.length = 5) && decide ((wkH.waveGo (wkL (wkC 1)) (wkL (wkC 1))).length = (wkL (wkC 1)).length) && decide ((wkH.waveGo (wkL (wkC 2)) (wkL (wkC 2))).length = (wkL (wkC 2)).length) &&
  decide (wkH.kErr (wkC 1) 3 = 0 ∧ wkH.kErr (wkC 2) 3 = 0) && (wkL (wkC 1)).all (fun y => decide (wkH.Good y)) && (wkL (wkC 2)).all (fun y => decide (wkH.Good y)) &&
  decide (histC wkH (wkL (wkC 1)) = [wkC 1, wkC 0]) && decide ((histC wkH (wkL (wkC 1))).find? (fun x => decide (x ∈ histC wkH (wkL (wkC 2)))) = some (wkC 0)) &&
  decide (wkH.mapE (wkH.getD 1 ([], objZ)).1 = 0) && decide ((wkH.map (wkH.getD 1 ([], objZ)).1).map (fun r => (r.path, r.text)) = [([97], [49])])
theorem wkH_eq : (madeD wkS).1 = wkH := by unfold wkH; rfl
theorem wkI_eq : (madeD wkS).2 = wkI := by unfold wkI; rfl
theorem wk_ok : wkOk = true := by decide +kernel
end Go.Proofs.YtoapldhadeoeiaaGreatDoor
namespace Go.Vc
open Go.Proofs Go.Sort
theorem Ext.grown {w w' : World} (h : Ext No w w') : ∃ q os', w' = grow (w.drewN q) os' := by
 refine ⟨w'.drawn - w.drawn, w'.heap.extract w.heap.size w'.heap.size, ?_⟩
 have hh : w'.heap = w.heap ++ w'.heap.extract w.heap.size w'.heap.size := by
  apply Array.ext_getElem?
  intro i
  rcases Nat.lt_or_ge i w.heap.size with hi | hi
  ·rw [Array.getElem?_append_left hi, h.same i hi id]
  ·rw [Array.getElem?_append_right hi, Array.getElem?_extract]
   have := h.size
   split
   ·rw [show w.heap.size + (i - w.heap.size) = i from by omega]
   ·rw [Array.getElem?_eq_none (by omega)]
 have h1 := h.os
 have h2 := h.tape
 have h3 := h.output
 have h4 := h.drawn
 cases w
 cases w'
 dsimp only at hh h1 h2 h3 h4
 subst h1 h2 h3
 unfold grow World.drewN
 simp only [World.mk.injEq, true_and, and_true]
 exact ⟨hh, by omega⟩
theorem flat_get {α : Type} {enc : α → List Value} {k : Nat} (hk : 0 < k) : ∀ (L : List α) (t : Nat), (∀ x ∈ L, (enc x).length = k) → (L.flatMap enc)[t]? = (L[t / k]?).bind fun x => (enc x)[t % k]?
 | [], t, _ => by simp
 | a :: L, t, h => by
  have ha := h a List.mem_cons_self
  rw [List.flatMap_cons]
  rcases Nat.lt_or_ge t k with ht | ht
  ·rw [List.getElem?_append_left (by omega), Nat.div_eq_of_lt ht, Nat.mod_eq_of_lt ht]
   rfl
  ·rw [List.getElem?_append_right (by omega), ha, flat_get hk L (t - k) fun x hx => h x (List.mem_cons_of_mem _ hx)]
   have e1 : t / k = (t - k) / k + 1 := by rw [Nat.div_eq_sub_div hk ht]
   have e2 : t % k = (t - k) % k := Nat.mod_eq_sub_mod ht
   rw [e1, e2, List.getElem?_cons_succ]
section
variable {α : Type} [Inhabited α] {enc : α → List Value} {k : Nat}
theorem flatK_list (hk : 0 < k) (hl : ∀ x, (enc x).length = k) (d : Array α) : (flatK enc k d).toList = d.toList.flatMap enc := by
 apply List.ext_getElem?
 intro t
 rw [flat_get hk _ _ fun x _ => hl x]
 rcases Nat.lt_or_ge t (d.size * k) with ht | ht
 ·have hd : t / k < d.size := (Nat.div_lt_iff_lt_mul hk).2 ht
  have hm : t % k < k := Nat.mod_lt _ hk
  rw [Array.getElem?_toList, Array.getElem?_toList, Array.getElem?_eq_getElem hd]
  have h1 := get_flatK enc k d t ht
  rw [getElem!_pos _ t (by simpa using ht), getElem!_pos d _ hd] at h1
  rw [Array.getElem?_eq_getElem (by simpa using ht), h1]
  have hx : t % k < (enc d[t / k]).length := by rw [hl]; exact hm
  rw [getElem!_pos (enc d[t / k]) (t % k) hx]
  simp [List.getElem?_eq_getElem hx]
 ·rw [List.getElem?_eq_none (by simpa using ht)]
  rw [List.getElem?_eq_none (by rw [Array.length_toList]; exact (Nat.le_div_iff_mul_le hk).2 ht)]
  rfl
theorem putCells_list {F c : Array Value} (h : F.size ≤ c.size) : (putCells id 0 F c).toList = F.toList ++ c.toList.drop F.size := by
 apply List.ext_getElem?
 intro t
 rw [Array.getElem?_toList]
 unfold putCells
 rw [Array.getElem?_mapIdx]
 rcases Nat.lt_or_ge t F.size with ht | ht
 ·rw [List.getElem?_append_left (by simpa using ht), Array.getElem?_eq_getElem (show t < c.size by omega)]
  simp [ht]
 ·rw [List.getElem?_append_right (by simpa using ht), List.getElem?_drop, Array.length_toList, Array.getElem?_toList, show F.size + (t - F.size) = t from by omega]
  cases c[t]? with
  | none => rfl
  | some v => simp [Nat.not_lt.2 ht]
theorem sortK_ext {w : World} {b T m : Nat} {lc : List Value} (hb : Blk w b T lc) (d : Array α) (os : Array Obj) (hd : d.size * k ≤ lc.length) (hk : 0 < k) (hl : ∀ x, (enc x).length = k) :
  Ext (One b) w (sortWorldK enc k w b 0 m d os) ∧ Blk (sortWorldK enc k w b 0 m d os) b T (d.toList.flatMap enc ++ lc.drop (d.size * k)) := by
 have hlt := hb.lt
 unfold sortWorldK putRowK putRow mapBlock grow Go.Sort.ahead
 refine ⟨⟨rfl, rfl, rfl, by simp, fun x hx hS => ?_, by show w.drawn ≤ w.drawn + m; omega⟩, ?_⟩
 ·show (_ ++ os)[x]? = _
  rw [Array.getElem?_append_left (by simpa using hx), Array.getElem?_modify, if_neg (fun e => hS e.symm)]
 ·unfold Blk at hb ⊢
  show (_ ++ os)[b]? = _
  rw [Array.getElem?_append_left (by simpa using hlt), Array.getElem?_modify, if_pos rfl, hb]
  simp only [Option.map_some, onCells]
  congr 2
  apply Array.ext'
  rw [putCells_list (by rw [size_flatK]; simpa using hd), flatK_list hk hl, size_flatK]
end
end Go.Vc
namespace Go.Vc
open Go.Proofs Go.Shelf Go.Sort
abbrev Id32 := { l : List UInt8 // l.length = 32 }
instance : Inhabited Id32 := ⟨⟨List.replicate 32 0, List.length_replicate⟩⟩
abbrev encI (x : Id32) : List Value := zq6 x.1
theorem encI_len (x : Id32) : (encI x).length = 32 := by rw [encI, zq7, x.2]
theorem sort_ids {P : Program} {ρ : Ren} (L : SlLaysF0.n6 P ρ) (aE : ∀ w, (isAgg (ρ.t 24)).run P w = .ok true w) (zE : ∀ w, (Go.sizeOf (ρ.t 24)).run P w = .ok 32 w) {g : Nat} {cb : Array Value} (eg : ∀ args w, (callFunc g args).run P w = .ok (.enter g args) w)
  (cf : List UInt8 → List UInt8 → Int) (hO : SWO (ltOf fun x y : Id32 => cf x.1 y.1)) {w : World} {q : Option Addr} {c T : Nat} {ids : List (List UInt8)} (hq : Own w q ids.length c T 32 (ids.flatMap zq6)) (hi : ∀ x ∈ ids, x.length = 32) (hn : ids.length < 1000000000)
  (hcmp : ∀ W, Ext (OwnB q) w W → ∀ x y, x.length = 32 → y.length = 32 → zz1 P g (.agg (zq6 x).toArray :: .agg (zq6 y).toArray :: cb.toList) W fun v w' => v = .int .i64 (cf x y) ∧ Ext No W w') :
  zz1 P (ρ.f 6) [.slice q ids.length c, .func (.func g) #[] cb] w fun v w' => v = .tuple #[] ∧ ∃ ids' : List (List UInt8), ids'.Perm ids ∧ ids'.Pairwise (fun a b => ¬ cf b a < 0) ∧ Own w' q ids.length c T 32 (ids'.flatMap zq6) ∧ Ext (OwnB q) w w' := by
 rcases hq with ⟨rfl, h0, rfl, hx⟩ | ⟨b, lc, rfl, hb, hlc, hnc, hcm, htk⟩
 ·have hnil : ids = [] := List.eq_nil_of_length_eq_zero h0
  subst hnil
  refine Calls.mono (AnyF.slices_SortFunc_none L none 0 (.func (.func g) #[] cb) w) ?_
  rintro e w' ⟨rfl, rfl⟩
  exact ⟨rfl, [], List.Perm.refl _, List.Pairwise.nil, Own.nil _ _ _, Ext.refl _ _⟩
 ·obtain ⟨d, hd⟩ : ∃ d : Array Id32, d.toList.map Subtype.val = ids := ⟨(ids.attach.map fun x => (⟨x.1, hi x.1 x.2⟩ : Id32)).toArray, by simp [List.map_attach_eq_pmap]⟩
  have hds : d.size = ids.length := by rw [← hd]; simp
  have hfl : ∀ e : Array Id32, e.toList.flatMap encI = (e.toList.map Subtype.val).flatMap zq6 := fun e => by rw [List.flatMap_map]
  have hroom : d.size * 32 ≤ lc.length := by rw [hlc, hds]; exact Nat.mul_le_mul_right _ hnc
  have hF : (flatK encI 32 d).toList = lc.take (ids.length * 32) := by rw [flatK_list (by decide) encI_len, hfl, hd, htk]
  have hH : HoldsK encI 32 w b 0 d := fun j hj => by
   refine ⟨?_, hb.free _ rfl⟩
   rw [Nat.zero_add]
   refine hb.cell ?_
   have h1 : (flatK encI 32 d).toList[j]? = some (flatK encI 32 d)[j]! := by
    rw [Array.getElem?_toList, Array.getElem?_eq_getElem hj, getElem!_pos _ j hj]
   rw [hF, List.getElem?_take] at h1
   rw [size_flatK, hds] at hj
   rw [if_pos hj] at h1
   exact h1
  have hcl : CmpLays P g cb encI 32 (fun x y : Id32 => cf x.1 y.1) b 0 d.size w := fun m os dk hs x y => by
   have hE := (sortK_ext (m := m) hb dk os (by rw [hs]; exact hroom) (by decide) encI_len).1
   have h := hcmp _ (hE.mono fun z _ e => by have e : z = b := e; rw [e]) x.1 y.1 x.2 y.2
   unfold zz1 at h
   have ea : (.agg (zq6 x.1).toArray :: .agg (zq6 y.1).toArray :: cb.toList : List Value).toArray = #[.agg (encI x).toArray, .agg (encI y).toArray] ++ cb := by apply Array.ext'; simp
   rw [ea] at h
   refine h.mono ?_
   rintro e w' he
   cases e with
   | returned v =>
    obtain ⟨rfl, hE2⟩ := he
    exact ⟨rfl, hE2.grown⟩
   | panicked _ => exact he.elim
   | outgrown => exact he.elim
  refine Calls.mono (by
   have := AnyQ.slices_SortFunc L 32 aE zE encI encI_len (fun x v hv => by obtain ⟨z, _, rfl⟩ := List.mem_map.1 hv; rfl) (fun x y : Id32 => cf x.1 y.1) hO g cb b 0 c d w eg hcl hH hb.lt (by omega)
   rw [hds] at this
   exact this) ?_
  rintro e w' ⟨rfl, d', m, os, ⟨hp1, _, hp3⟩, hs, rfl⟩
  have hd1 : d'.size = ids.length := hp1.trans hds
  have hpm : d'.toList.Perm d.toList := by
   have e1 : d'.extract 0 d.size = d' := by rw [← hp1]; simp
   have e2 : d.extract 0 d.size = d := by simp
   rw [hds] at e1 e2
   rw [e1, e2] at hp3
   exact hp3
  obtain ⟨hE, hB⟩ := sortK_ext (m := m) hb d' os (by rw [hp1]; exact hroom) (by decide) encI_len
  refine ⟨rfl, d'.toList.map Subtype.val, hd ▸ hpm.map _, ?_, ?_, hE.mono fun z _ e => by have e : z = b := e; rw [e]⟩
  ·rw [List.pairwise_map, List.pairwise_iff_getElem]
   intro i j hi' hj' hij
   have hi2 : i < d'.size := by simpa using hi'
   have hj2 : j < d'.size := by simpa using hj'
   have := hs i j (Nat.zero_le _) hij (by rw [← hd1]; exact hj2)
   rw [getElem!_pos d' i hi2, getElem!_pos d' j hj2] at this
   simpa [ltOf] using this
  ·refine .inr ⟨b, _, rfl, hB, ?_, hnc, hcm, ?_⟩
   ·rw [List.length_append, List.length_drop, hfl, flat_len (n := 32) (fun r hr => by obtain ⟨z, _, rfl⟩ := List.mem_map.1 hr; exact encI_len z), List.length_map, Array.length_toList, hd1, hlc]
    have := Nat.mul_le_mul_right 32 hnc
    omega
   ·rw [hfl, List.take_left']
    rw [flat_len (n := 32) (fun r hr => by obtain ⟨z, _, rfl⟩ := List.mem_map.1 hr; exact encI_len z), List.length_map, Array.length_toList, hd1]
end Go.Vc
namespace Go.Proofs
set_option maxRecDepth 100000
def Tryz.sortI_ren : Go.Shelf.Ren := ⟨fun | 6 => 55 | 15 => 75 | 14 => 74 | 28 => 97 | 29 => 98 | 20 => 89 | 21 => 90 | 22 => 91 | 23 => 92 | 24 => 93 | 25 => 94 | 26 => 95 | 27 => 96 | 46 => 108 | 47 => 109 | 48 => 110 | 49 => 111 | 50 => 112 | 57 => 123 | n => n, fun | 22 => 31 | 24 => 37 | 25 => 123 | 3 => 3 | 39 => 76 | 0 => 0 | 53 => 41 | 55 => 108 | 4 => 4 | 46 => 163 | 45 => 162 | 50 => 167 | 5 => 5 | 9 => 9 | 66 => 180 | 70 => 184 | 76 => 200 | 77 => 201 | n => n, fun | n => n⟩
theorem Tryz.sortI : Go.Proofs.SlLaysF0.n6 Tryz.prog Tryz.sortI_ren := {
 mixed := by kernel_rfl
 f6 := ⟨Tryz.f55.name, by decide, Tryz.func55.trans (congrArg some (by kernel_rfl))⟩
 f14 := ⟨Tryz.f74.name, by decide, Tryz.func74.trans (congrArg some (by kernel_rfl))⟩
 f15 := Tryz.func75.trans (congrArg some (by kernel_rfl))
 f20 := ⟨Tryz.f89.name, by decide, Tryz.func89.trans (congrArg some (by kernel_rfl))⟩
 f21 := ⟨Tryz.f90.name, by decide, Tryz.func90.trans (congrArg some (by kernel_rfl))⟩
 f22 := ⟨Tryz.f91.name, by decide, Tryz.func91.trans (congrArg some (by kernel_rfl))⟩
 f23 := ⟨Tryz.f92.name, by decide, Tryz.func92.trans (congrArg some (by kernel_rfl))⟩
 f24 := ⟨Tryz.f93.name, by decide, Tryz.func93.trans (congrArg some (by kernel_rfl))⟩
 f25 := ⟨Tryz.f94.name, by decide, Tryz.func94.trans (congrArg some (by kernel_rfl))⟩
 f26 := ⟨Tryz.f95.name, by decide, Tryz.func95.trans (congrArg some (by kernel_rfl))⟩
 f27 := ⟨Tryz.f96.name, by decide, Tryz.func96.trans (congrArg some (by kernel_rfl))⟩
 f28 := Tryz.func97.trans (congrArg some (by kernel_rfl))
 f29 := Tryz.func98.trans (congrArg some (by kernel_rfl))
 f46 := ⟨Tryz.f108.name, by decide, Tryz.func108.trans (congrArg some (by kernel_rfl))⟩
 f47 := Tryz.func109.trans (congrArg some (by kernel_rfl))
 f48 := Tryz.func110.trans (congrArg some (by kernel_rfl))
 f49 := ⟨Tryz.f111.name, by decide, Tryz.func111.trans (congrArg some (by kernel_rfl))⟩
 f50 := ⟨Tryz.f112.name, by decide, Tryz.func112.trans (congrArg some (by kernel_rfl))⟩
 f57 := ⟨Tryz.f123.name, by decide, Tryz.func123.trans (congrArg some (by kernel_rfl))⟩
 t0 := Tryz.underlying0
 a0 := Tryz.isAgg0
 z0 := Tryz.sizeOf0
 v0 := Tryz.zeroValue0
 t3 := Tryz.underlying3
 a3 := Tryz.isAgg3
 z3 := Tryz.sizeOf3
 v3 := Tryz.zeroValue3
 t4 := Tryz.underlying4
 a4 := Tryz.isAgg4
 z4 := Tryz.sizeOf4
 v4 := Tryz.zeroValue4
 t5 := Tryz.underlying5
 a5 := Tryz.isAgg5
 z5 := Tryz.sizeOf5
 v5 := Tryz.zeroValue5
 t9 := Tryz.underlying9
 a9 := Tryz.isAgg9
 z9 := Tryz.sizeOf9
 v9 := Tryz.zeroValue9
 t22 := Tryz.underlying31
 a22 := Tryz.isAgg31
 z22 := Tryz.sizeOf31
 v22 := Tryz.zeroValue31
 t25 := Tryz.underlying123
 a25 := Tryz.isAgg123
 z25 := Tryz.sizeOf123
 v25 := Tryz.zeroValue123
 t39 := Tryz.underlying76
 a39 := Tryz.isAgg76
 z39 := Tryz.sizeOf76
 v39 := Tryz.zeroValue76
 t45 := Tryz.underlying162
 a45 := Tryz.isAgg162
 z45 := Tryz.sizeOf162
 v45 := Tryz.zeroValue162
 t46 := Tryz.underlying163
 a46 := Tryz.isAgg163
 z46 := Tryz.sizeOf163
 v46 := Tryz.zeroValue163
 t50 := Tryz.underlying167
 a50 := Tryz.isAgg167
 z50 := Tryz.sizeOf167
 v50 := Tryz.zeroValue167
 t53 := Tryz.underlying41
 a53 := Tryz.isAgg41
 z53 := Tryz.sizeOf41
 v53 := Tryz.zeroValue41
 t55 := Tryz.underlying108
 a55 := Tryz.isAgg108
 z55 := Tryz.sizeOf108
 v55 := Tryz.zeroValue108
 t66 := Tryz.underlying180
 a66 := Tryz.isAgg180
 z66 := Tryz.sizeOf180
 v66 := Tryz.zeroValue180
 t70 := Tryz.underlying184
 a70 := Tryz.isAgg184
 z70 := Tryz.sizeOf184
 v70 := Tryz.zeroValue184
 t76 := Tryz.underlying200
 a76 := Tryz.isAgg200
 z76 := Tryz.sizeOf200
 v76 := Tryz.zeroValue200
 t77 := Tryz.underlying201
 a77 := Tryz.isAgg201
 z77 := Tryz.sizeOf201
 v77 := Tryz.zeroValue201 }
end Go.Proofs
namespace Go.Proofs.YtoapldhadeoeiaaGreatDoor
open Go.Vc Go.Sort
theorem sortI_calls {g : Nat} {cb : Array Value} (eg : ∀ args w, (callFunc g args).run Tryz.prog w = .ok (.enter g args) w)
  (cf : IdB → IdB → Int) (hO : SWO (ltOf fun x y : Id32 => cf x.1 y.1)) {w : World} {q : Option Addr} {c : Nat} {ids : List IdB} (hq : Own w q ids.length c 37 32 (ids.flatMap zq6)) (hi : ∀ x ∈ ids, x.length = 32) (hn : ids.length < 1000000000)
  (hcmp : ∀ W, Ext (OwnB q) w W → ∀ x y, x.length = 32 → y.length = 32 → zz1 Tryz.prog g (.agg (zq6 x).toArray :: .agg (zq6 y).toArray :: cb.toList) W fun v w' => v = .int .i64 (cf x y) ∧ Ext No W w') :
  zz1 Tryz.prog 55 [.slice q ids.length c, .func (.func g) #[] cb] w fun v w' => v = .tuple #[] ∧ ∃ ids' : List IdB, ids'.Perm ids ∧ ids'.Pairwise (fun a b => ¬ cf b a < 0) ∧ Own w' q ids.length c 37 32 (ids'.flatMap zq6) ∧ Ext (OwnB q) w w' :=
 sort_ids Tryz.sortI Tryz.isAgg37 Tryz.sizeOf37 eg cf hO hq hi hn hcmp
/-- what stands ahead -/
def aheadN (n : IdB → Nat) (x y : IdB) : Prop := n y < n x ∨ n x = n y ∧ idLt x y
theorem cmpH_neg (l : List zx8) (x y : IdB) : cmpH l x y < 0 ↔ aheadN (bnum l) x y := by
 unfold cmpH cmpN cmpI aheadN
 by_cases h1 : bnum l y < bnum l x
 ·simp [h1]
 ·by_cases h2 : bnum l x < bnum l y
  ·have : bnum l x ≠ bnum l y := by omega
   simp [h1, h2, this]
  ·have : bnum l x = bnum l y := by omega
   by_cases h3 : idLt x y
   ·simp [this, h3]
   ·by_cases h4 : x = y
    ·subst h4; simp [h3]
    ·simp [this, h3, h4]
theorem aheadN_swo (n : IdB → Nat) {cf : IdB → IdB → Int} (h : ∀ x y, cf x y < 0 ↔ aheadN n x y) : SWO (ltOf fun x y : Id32 => cf x.1 y.1) := by
 have hl : ∀ x y : Id32, ltOf (fun x y : Id32 => cf x.1 y.1) x y = true ↔ aheadN n x.1 y.1 := fun x y => by
  unfold ltOf
  rw [decide_eq_true_eq]
  exact h _ _
 have hf : ∀ x y : Id32, ltOf (fun x y : Id32 => cf x.1 y.1) x y = false ↔ ¬ aheadN n x.1 y.1 := fun x y => by
  rw [← hl]; cases ltOf (fun x y : Id32 => cf x.1 y.1) x y <;> simp
 refine ⟨fun x => (hf x x).2 fun k => ?_, fun x y z h1 h2 => ?_, fun x y z h1 h2 => ?_⟩
 ·rcases k with k | k
  ·omega
  ·exact idLt_irrefl _ k.2
 ·rw [hl] at h1 h2 ⊢
  rcases h1 with h1 | ⟨h1, h1'⟩ <;> rcases h2 with h2 | ⟨h2, h2'⟩
  ·exact .inl (by omega)
  ·exact .inl (by omega)
  ·exact .inl (by omega)
  ·exact .inr ⟨by omega, idLt_trans h1' h2'⟩
 ·rw [hf] at h1 h2 ⊢
  rintro (k | ⟨k, k'⟩)
  ·have a1 : ¬ n y.1 < n x.1 := fun e => h1 (.inl e)
   have a2 : ¬ n z.1 < n y.1 := fun e => h2 (.inl e)
   omega
  ·have a1 : ¬ n y.1 < n x.1 := fun e => h1 (.inl e)
   have a2 : ¬ n z.1 < n y.1 := fun e => h2 (.inl e)
   have e1 : n x.1 = n y.1 := by omega
   have e2 : n y.1 = n z.1 := by omega
   have b1 : ¬ idLt x.1 y.1 := fun e => h1 (.inr ⟨e1, e⟩)
   have b2 : ¬ idLt y.1 z.1 := fun e => h2 (.inr ⟨e2, e⟩)
   rcases idLt_total x.1 y.1 with c1 | c1 | c1
   ·exact b1 c1
   ·rw [c1] at k'; exact b2 k'
   ·rcases idLt_total y.1 z.1 with c2 | c2 | c2
    ·exact b2 c2
    ·rw [← c2] at k'; exact b1 k'
    ·exact idLt_asymm k' (idLt_trans c2 c1)
end Go.Proofs.YtoapldhadeoeiaaGreatDoor
namespace Go.Proofs.YtoapldhadeoeiaaGreatDoor
open Go.Vc
theorem closed_good {h : Hp} {x : IdB} (hc : h.closed x = 0) : h.kErr x 3 = 0 ∧ ∀ y ∈ h.led x, h.Good y := by
 unfold Hp.closed at hc
 split at hc
 ·rename_i k; exact absurd hc k
 ·rename_i k
  split at hc
  ·rename_i k2; exact ⟨Decidable.not_not.1 k, k2⟩
  ·cases hc
def outF (l : List zx8) (dn : List IdB) : List IdB := dn.filter fun y => decide ((bkO l y).1.kind = 3)
theorem outF_on {l : List zx8} {dn : List IdB} {y : IdB} (h : (bkO l y).1.kind = 3) : outF l (dn ++ [y]) = outF l dn ++ [y] := by
 unfold outF
 rw [List.filter_append, List.filter_cons_of_pos (by simpa using h)]; rfl
theorem outF_off {l : List zx8} {dn : List IdB} {y : IdB} (h : ¬ (bkO l y).1.kind = 3) : outF l (dn ++ [y]) = outF l dn := by
 unfold outF
 rw [List.filter_append, List.filter_cons_of_neg (by simpa using h), List.filter_nil, List.append_nil]
theorem good_bk {l : List zx8} {y : IdB} (hg : (toHp l).Good y) : (bkO l y).1 = (toHp l).obj y ∧ ((bkO l y).1.kind = 3 ↔ (toHp l).kErr y 3 = 0) ∧ ((toHp l).kErr y 3 = 0 → bnum l y = (toHp l).num y) := by
 have e := book_ok hg.1
 have e1 : (bkO l y).1 = (toHp l).obj y := by rw [bkO, e]
 refine ⟨e1, ?_, fun hk => ?_⟩
 ·rw [e1]
  unfold Hp.kErr
  rw [hg.1]
  by_cases hk : ((toHp l).obj y).kind = 3
  ·simp [hk]
  ·simp [hk]
 ·unfold bnum Hp.num Hp.kObj
  rw [e1, if_neg]
  rintro ⟨_, k⟩
  unfold Hp.kErr at hk
  rw [if_pos ⟨hg.1, k⟩] at hk
  cases hk
theorem hist_of {l : List zx8} {x : IdB} {dn ids : List IdB} (hc : (toHp l).closed x = 0) (hd : dn.Nodup) (hm : ∀ y, y ∈ dn ↔ y ∈ (toHp l).led x) (hp : ids.Perm (outF l dn)) (hs : ids.Pairwise fun a b => ¬ cmpH l b a < 0) : ids = (toHp l).hist x := by
 obtain ⟨_, hg⟩ := closed_good hc
 have hmem : ∀ y, y ∈ ids ↔ (toHp l).Leads x y ∧ (toHp l).kErr y 3 = 0 := fun y => by
  rw [hp.mem_iff, outF, List.mem_filter, hm, (toHp l).led_mem]
  constructor
  ·rintro ⟨h1, h2⟩
   exact ⟨h1, (good_bk (hg y (((toHp l).led_mem x y).2 h1))).2.1.1 (by simpa using h2)⟩
  ·rintro ⟨h1, h2⟩
   exact ⟨h1, by simpa using (good_bk (hg y (((toHp l).led_mem x y).2 h1))).2.1.2 h2⟩
 have hnd : ids.Nodup := hp.symm.nodup (List.Pairwise.filter _ hd)
 have hnum : ∀ y ∈ ids, bnum l y = (toHp l).num y := fun y hy => by
  obtain ⟨h1, h2⟩ := (hmem y).1 hy
  exact (good_bk (hg y (((toHp l).led_mem x y).2 h1))).2.2 h2
 refine Hp.hist_eq ?_ hmem
 rw [List.pairwise_iff_getElem] at hs ⊢
 intro i j hi hj hij
 have h1 := hs i j hi hj hij
 rw [cmpH_neg] at h1
 have hne : ids[i] ≠ ids[j] := fun e => by have := (List.getElem_inj hnd).1 e; omega
 have hni := hnum _ (List.getElem_mem hi)
 have hnj := hnum _ (List.getElem_mem hj)
 rcases (toHp l).ahead_total ids[i] ids[j] with k | k | k
 ·exact k
 ·exact absurd k hne
 ·refine absurd ?_ h1
  unfold aheadN
  rw [hni, hnj]
  exact k
theorem iterB_nodup {β : Type} {w : World} {it m N : Nat} {enc : β → Value} {g : List UInt8 → Option β} {done : List (List UInt8)} (h : IterB w it m enc g N done) : done.Nodup := by
 obtain ⟨es, c, s, se, la, h1, h2, a1, a2, a3, a4, a5, a6, a7, b1, _⟩ := h
 exact b1
theorem historyB_calls (w : World) {p : Option Addr} {r : Nat} {l : List zx8} {x : IdB} (hB : BkIn w p l r) (hx : IdIn x) (hcl : (toHp l).closed x = 0) :
  zz1 Tryz.prog 35 [.map (some r), idV x] w fun v w' => ∃ q k, v = .slice q ((toHp l).hist x).length k ∧ Own w' q ((toHp l).hist x).length k 37 32 (((toHp l).hist x).flatMap zq6) ∧ (∀ y, OwnB q y → w.heap.size ≤ y) ∧ Ext No w w' := by
 have h := hB.h
 have hled := h.ledIn hx
 have hll := h.ledLen x
 have hOb : ∀ x, ObjIn (bkO l x).1 := fun x => (h.bookIn x).1
 refine zq9 Tryz.func35 rfl rfl rfl rfl ?_
 have hX := Ext.refl No w
 refine zq5 (zq0 (wl (zj0 I_ok rfl fun b2 w1 hn2 hb2 hE1 => ?_)))
 have hX := hX.zq4 hE1
 have hb2 : Blk w1 b2 91 ([.map (some r)]) := hb2
 refine wl (zj0 I_ok rfl fun b3 w2 hn3 hb3 hE2 => ?_)
 have hb2 := hb2.zq3 hE2
 have hX := hX.zq4 hE2
 have hb3 : Blk w2 b3 37 (zq6 x) := hb3
 refine wl_p I_ok rfl (zq2 (zq1 (zq5 (zq0 (wl_p I_ok rfl (zq2 (zq1 (zq5 (zq5 (zq0 (wl (st_ldb I_ok hb2 rfl rfl (wl (zj4 I_ok hb3 rfl hx.len ?_))))))))))))))
 have hX4 := hX.size
 refine wl (zx2 Tryz.call54 rfl rfl rfl rfl rfl rfl (leadsB_calls w2 (hB.zq3 hX) hx) fun v3 w3 hr3 => ?_)
 obtain ⟨m, rfl, hmn, hM, hE3⟩ := hr3
 have hb2 := hb2.zq3 hE3
 have hX := hX.zq4 hE3
 refine wl (st_rg I_ok rfl hM fun it N w4 hitn hIt hE4 => ?_)
 have hmw := Nat.le_trans hX4 hmn
 have hitw := Nat.le_trans hX.size hitn
 have hX := hX.zq4 hE4
 have hb2 := hb2.zq3 hE4
 refine zq2 (zq1 (zx4 ?_))
 refine zv1 (α := List IdB × Option Addr × Nat) [2, 10] rfl (fun z => [(5, .slice z.2.1 (outF l z.1).length z.2.2)]) (fun z u => ((∀ y ∈ z.1, y ∈ (toHp l).led x) ∧ Own u z.2.1 (outF l z.1).length z.2.2 37 32 ((outF l z.1).flatMap zq6) ∧ (∀ y, OwnB z.2.1 y → w.heap.size ≤ y) ∧ IterB u it m Value.bool (ledF (toHp l) x) N z.1) ∧ Blk u b2 91 ([.map (some r)]) ∧ Ext No w u) (fun z u => N - z.1.length) ([], none, 0) rfl ⟨⟨fun _ hy => (by cases hy), Own.nil _ _ _, noOwn, hIt⟩, hb2, hX⟩ ?_
 rintro ⟨dn, q, k⟩ w5 ⟨⟨hdn, hq, hqn, hIt⟩, hb2, hX⟩
 try dsimp only
 dsimp only at hdn hq hqn hIt
 refine zq5 (zq0 (wl (st_nx rfl hIt (fun hall => ?_) (fun y bk w6 hgk hx32 hxd hltN hIt2 hCur hE6 hs6 => ?_))))
 ·have hdd := (iterB_nodup hIt)
  have hdm : ∀ y, y ∈ dn ↔ y ∈ (toHp l).led x := fun y => ⟨hdn y, fun hy => hall y _ (ledF_on hy)⟩
  have hol : (outF l dn).length ≤ dn.length := List.length_filter_le _ _
  have hdl : dn.length ≤ ((toHp l).led x).length := sub_len hdd hdn
  have hoi : ∀ y ∈ outF l dn, y.length = 32 := fun y hy => hled y (hdn y (List.mem_filter.1 hy).1)
  have n2 : ¬ OwnB q b2 := fun e => hq.neTy e hb2 (by decide) rfl
  refine wl_p I_ok rfl (zq2 (zq1 (zq5 (c_condF rfl (c_exit (zx3 (zx3 (zz2 (zq1 (zq5 (zq0 (wl_p I_ok rfl ?_))))))))))))
  have hq0 := hq
  refine wl (zx2 Tryz.call55 rfl rfl rfl rfl rfl rfl (sortI_calls Tryz.call56 (cmpH l) (aheadN_swo (bnum l) (cmpH_neg l)) hq hoi (by omega) (fun W hE a c ha hc => histCmp_calls W (hb2.ext hE n2) ((hB.zq3 hX).m.zx0 hq hE) hOb ha hc)) fun v7 w7 hr7 => ?_)
  obtain ⟨rfl, ids, hpm, hpw, hq2, hE7⟩ := hr7
  have hX := hX.trans hE7 fun y hy hF => by have := hqn y hF; omega
  have eH := hist_of hcl hdd hdm hpm hpw
  have eL : (outF l dn).length = ((toHp l).hist x).length := by rw [← eH, hpm.length_eq]
  rw [eL, eH] at hq2
  rw [eL]
  refine zq2 (zq1 (zq5 (zq0 (wl_p I_ok rfl (zq2 (zq1 (zz8 (zz0 rfl rfl ?_))))))))
  exact ⟨q, k, rfl, hq2, hqn, hX⟩
 ·have hb2 := hb2.ext1 hE6 (hIt.neB hb2).1.symm
  have hq := hq.ext hE6 (fun z hz e => by obtain ⟨L, hL⟩ := hq.blkAt hz; exact (hIt.neB hL).1 e.symm)
  have hIt := hIt2
  have hX := hX.zx1 hE6 hitw
  obtain ⟨hym, hbk⟩ := ledF_some hgk
  have hlen : (dn ++ [y]).length = dn.length + 1 := by rw [List.length_append]; rfl
  have hy := hled y hym
  have hdn2 : ∀ z ∈ dn ++ [y], z ∈ (toHp l).led x := fun z hz => by rcases List.mem_append.1 hz with hz | hz; exact hdn z hz; rw [List.mem_singleton.1 hz]; exact hym
  have hol : (outF l dn).length ≤ dn.length := List.length_filter_le _ _
  have hdl : dn.length ≤ ((toHp l).led x).length := sub_len (List.nodup_append.1 (iterB_nodup hIt)).1 hdn
  refine wl_p I_ok rfl (zq2 (zq1 (zq5 (c_condT rfl (zx7 (zq1 (zx4 (zq5 (zq0 (wl (st_en rfl hCur (wl_p I_ok rfl ?_))))))))))))
  have hq0 := hq
  refine wl (zj0 I_ok rfl fun b6 w8 hn6 hb6 hE8 => ?_)
  have ne2_6 : b2 ≠ b6 := Nat.ne_of_lt (Nat.lt_of_lt_of_le hb2.lt hn6)
  have fr6 := Nat.le_trans hX.size hn6
  have hb2 := hb2.zq3 hE8
  have hIt := hIt.zq3 hE8
  have hq := hq.ext hE8 fun _ _ => id
  have hX := hX.zq4 hE8
  have hb6o := hb6
  have ne6 : ∀ z, OwnB q z → z ≠ b6 := fun z hz => Nat.ne_of_lt (Nat.lt_of_lt_of_le (hq0.lt hz) hn6)
  refine wl (zj5 (l' := zq6 y) I_ok hb6 rfl rfl hy.len (by rw [zq7, hy]; rfl) OneC.h fun w9 hb6 hE9 hs9 => ?_)
  have hb2 := hb2.ext1 hE9 ne2_6
  have hIt := hIt.ext hE9 (hIt.neB hb6o).1 (hIt.neB hb6o).2
  have hq := hq.ext hE9 (fun z hz => ne6 z hz)
  have hX := hX.zx1 hE9 fr6
  refine zq2 (zq1 (zq5 (zq0 (wl (st_ldb I_ok hb2 rfl rfl (wl (zj4 I_ok hb6 rfl hy.len (wl (st_lu I_ok rfl idK hy rfl (hB.zq3 hX).m ?_)))))))))
  simp only [Bool.false_eq_true, if_false]
  rw [book_tell]
  refine wl (st_fd I_ok rfl objC_kind (wl_p I_ok rfl (zq2 (zq1 (c_if rfl (fun hc => ?_) (fun hc => ?_))))))
  ·have eO := outF_on (dn := dn) hc
   refine zq0 (wl_p I_ok rfl (wl (zj4 I_ok hb6 rfl hy.len ?_)))
   refine wl (st_bs I_ok rfl 32 rfl idZ_c.symm (by rw [zq7]; rfl) (by decide) (by decide) ⟨⟨by rw [zz3]; exact (IdIn.len hy), by decide⟩, trivial⟩ (l' := zq6 y) (one_id hy) fun b22 w10 hn22 hb22 hE10 hs10 => ?_)
   have hb2 := hb2.zq3 hE10
   have hIt := hIt.zq3 hE10
   have hq := hq.ext hE10 fun _ _ => id
   have hX := hX.zq4 hE10
   have hX0 := hX
   refine wl (zj8 I_ok rfl 32 32 rfl rfl rfl (by decide) hq (Src.slice (m := 1) (one_idS hy hb22) OneC.h) (by dsimp only [maxLen]; omega) (by dsimp only; omega) fun p11 c11 w11 ho11 hE11 hB11 => ?_)
   dsimp only at ho11 hE11 hB11 ⊢
   have hX := hX0.trans hE11 fun z hz hF => by have := hqn z hF; omega
   have hb2 := hb2.zx0 hq hE11 (by decide)
   have hIt := hIt.ext hE11 (fun e => by obtain ⟨L, hL⟩ := hq.blkAt e; exact (hIt.neB hL).1 rfl) (fun e => by obtain ⟨L, hL⟩ := hq.blkAt e; exact (hIt.neB hL).2 rfl)
   have hqn2 := newW hX0 hqn hB11
   have hl2 : (outF l dn).length + 1 = (outF l (dn ++ [y])).length := by rw [eO, List.length_append]; rfl
   have hq2 : Own w11 p11 (outF l (dn ++ [y])).length c11 37 32 ((outF l (dn ++ [y])).flatMap zq6) := by
    rw [← hl2, eO, List.flatMap_append]
    simpa using ho11
   rw [hl2]
   refine wl_p I_ok rfl (zq2 ?_)
   exact zx6 (zj7 (dn ++ [y], p11, c11) rfl ⟨⟨hdn2, hq2, hqn2, hIt⟩, hb2, hX⟩ (by first | omega | (dsimp only; omega)))
  ·have eO := outF_off (dn := dn) hc
   refine zx7 ?_
   exact zx6 (zj7 (dn ++ [y], q, k) (by rw [eO]; rfl) ⟨⟨hdn2, by rw [eO]; exact hq, hqn, hIt⟩, hb2, hX⟩ (by first | omega | (dsimp only; omega)))
end Go.Proofs.YtoapldhadeoeiaaGreatDoor
