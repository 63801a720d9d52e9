/-
  Walks and laws towards: UploadOrdersSaid , walked
-/
import Derived.Test.YtpcdihkcenfgkaaGreatLoC
namespace Go.Proofs.YtpcdihkcenfgkaaGreat
open Go.Vc
theorem laid_le {x : ObjD} (hx : ObjIn x) (hf : BytesIn x) : (laidB x).length ≤ 100000 := by
  rcases hf.k with h1 | h1 | h1
  · have := hf.text h1
    rw [laidB, if_pos h1, List.length_append, be_len, strB_len]
    omega
  · obtain ⟨hl, hp⟩ := hf.leaves h1
    have h2 : (x.leaves.flatMap leafB).length ≤ x.leaves.length * 100 := flat_le fun r hr => leafB_le (hp r hr) (hx.leaves r hr).2
    rw [laidB, if_neg (by omega), if_pos h1, treeB, List.length_append, List.length_append, be_len, be_len]
    omega
  · obtain ⟨hl, hp⟩ := hf.rows h1
    obtain ⟨hpl, _⟩ := hf.com h1
    have hnl := hf.note h1
    have h2 : (x.rows.flatMap chgB).length ≤ x.rows.length * 400 := flat_le fun r hr => chgB_le (hp r hr)
    have htr := hx.tree
    have hba := hx.base
    have hpf := flatten_len (n := 32) hx.parents
    rw [laidB, if_neg (by omega), if_neg (by omega), comB]
    simp only [List.length_append, be_len, strB_len]
    omega
theorem right6_calls (w : World) {x : ObjD} {a : ObjP} (hx : ObjIn x) (hxl : ObjL w x a) (hsx : Short x) :
    CallsV Tryz.prog 59 [.agg (objC x a).toArray] w fun v w' => v = .bool (decide (ObjOk x)) ∧ Ext No w w' := by
  refine calls_enter Tryz.func59 rfl rfl rfl rfl ?_
  have hX := Ext.refl No w
  refine c_seq (c_region (wl (st_al I_ok rfl fun b1 w1 hn1 hb1 hE1 => ?_)))
  have hX := hX.thenNo hE1
  have hb1 : Blk w1 b1 48 (objC x a) := hb1
  refine wl_p I_ok rfl (wl_nil (f_then (c_cutK (α := Bool) [] rfl (fun z => [(2, .bool z)]) (fun z u => (z = decide (ObjOk x)) ∧ Ext No w u) ?_ ?_)))
  · refine c_region ?_
    refine wl (st_ldB I_ok hb1 rfl (objC_len hx) (wl (st_call Tryz.call87 rfl rfl rfl rfl rfl rfl (fields6_calls w1 hx (hxl.extNo hX) hsx) fun v2 w2 hr2 => ?_)))
    obtain ⟨rfl, hE2⟩ := hr2
    have hb1 := hb1.extNo hE2
    have hX := hX.thenNo hE2
    refine wl_p I_ok rfl (wl_caseD 5 rfl (fun hg => ?_) (fun hg => ?_))
    · have hf := hg
      refine wl (st_ldB I_ok hb1 rfl (objC_len hx) (wl (st_call Tryz.call60 rfl rfl rfl rfl rfl rfl (bytes6_calls w2 hx (hxl.extNo hX) (bytes_of hf)) fun v3 w3 hr3 => ?_)))
      obtain ⟨q, k, rfl, hq, hqn, hE3⟩ := hr3
      have hX := hX.thenNo hE3
      refine wl_pk I_ok 4 rfl (wl_nil ?_)
      exact f_cut (_) rfl ⟨by rw [decide_eq_decide]; exact ⟨fun h => ⟨hf, by omega⟩, fun h => by have := h.2; omega⟩, hX⟩
    · have hf := hg
      refine wl_pk I_ok 6 rfl (wl_nil ?_)
      exact f_cut (false) rfl ⟨by symm; rw [decide_eq_false_iff_not]; exact fun h => hf h.1, hX⟩
  rintro z w4 ⟨rfl, hX⟩
  refine c_ret (f_ret1 rfl rfl ?_)
  exact ⟨rfl, hX⟩

theorem id6_calls (w : World) {x : ObjD} {a : ObjP} (hx : ObjIn x) (hxl : ObjL w x a) (hf : BytesIn x) :
    CallsV Tryz.prog 33 [.agg (objC x a).toArray] w fun v w' => v = .agg (bytesU (idOf x)).toArray ∧ Ext No w w' := by
  have hle := laid_le hx hf
  refine calls_enter Tryz.func33 rfl rfl rfl rfl ?_
  have hX := Ext.refl No w
  refine c_seq (c_region (wl (st_al I_ok rfl fun b1 w1 hn1 hb1 hE1 => ?_)))
  have hX := hX.thenNo hE1
  have hb1 : Blk w1 b1 48 (objC x a) := hb1
  refine wl (st_al I_ok rfl fun b2 w2 hn2 hb2 hE2 => ?_)
  have fr2 := Nat.le_trans hX.size hn2
  have hb1 := hb1.extNo hE2
  have hX := hX.thenNo hE2
  refine wl_nil (f_then (c_seq (c_region (wl (st_ldB I_ok hb1 rfl (objC_len hx) (wl (st_call Tryz.call60 rfl rfl rfl rfl rfl rfl (bytes6_calls w2 hx (hxl.extNo hX) hf) fun v3 w3 hr3 => ?_)))))))
  obtain ⟨q, k, rfl, hq, hqn, hE3⟩ := hr3
  have hb2 := hb2.extNo hE3
  have hX := hX.thenNo hE3
  refine wl (st_call Tryz.call68 rfl rfl rfl rfl rfl rfl (refSum_calls w3 hq.sl (by omega)) fun v4 w4 hr4 => ?_)
  obtain ⟨rfl, hE4⟩ := hr4
  have hb2 := hb2.extNo hE4
  have hX := hX.thenNo hE4
  refine wl (st_stW (l' := bytesU (idOf x)) I_ok hb2 rfl rfl (by rw [bytesU_len, idOf_len]) (by rw [bytesU_len, idOf_len]; rfl) OneC.h fun w5 hb2 hE5 hs5 => ?_)
  have hX := hX.thenNew hE5 fr2
  refine wl_nil (f_then (c_ret (f_ret [_] ⟨⟨b2, 0, rfl, ld_all I_ok rfl rfl hb2.seg (by rw [bytesU_len, idOf_len]; rfl)⟩, trivial⟩ ?_)))
  exact ⟨rfl, hX⟩

theorem links6_calls (w : World) {x : ObjD} {a : ObjP} (hx : ObjIn x) (hxl : ObjL w x a) (hsx : Short x) :
    CallsV Tryz.prog 74 [.agg (objC x a).toArray] w fun v w' => ∃ q k, v = .slice q (linksOf x).length k ∧ Own w' q (linksOf x).length k 31 32 ((linksOf x).flatMap bytesU) ∧ (∀ b, OwnB q b → w.heap.size ≤ b) ∧ Ext No w w' := by
  refine calls_enter Tryz.func74 rfl rfl rfl rfl ?_
  have hX := Ext.refl No w
  refine c_seq (c_region (wl (st_al I_ok rfl fun b1 w1 hn1 hb1 hE1 => ?_)))
  have hX := hX.thenNo hE1
  have hb1 : Blk w1 b1 48 (objC x a) := hb1
  refine wl_p I_ok rfl (wl_nil (f_then (c_seq (c_region (wl_p I_ok rfl (wl_nil (f_then ?_)))))))
  refine c_cutK (α := Option Addr × Nat) [] rfl (fun z => [(3, .slice z.1 (linksOf x).length z.2)]) (fun z u => (Own u z.1 (linksOf x).length z.2 31 32 ((linksOf x).flatMap bytesU) ∧ ∀ b, OwnB z.1 b → w.heap.size ≤ b) ∧ Ext No w u) ?_ ?_
  · refine c_seq ?_
    refine c_region (wl_p I_ok rfl (wl (st_ld I_ok rfl (hb1.seg.obj hx).kind (wl_nil (f_then (c_block (c_seq (c_region (wl_p I_ok rfl (wl_nil (f_then (c_if rfl (fun hc => ?_) (fun hc => ?_)))))))))))))
    · have h2 : x.kind = 2 := hc
      refine c_seq (c_region (wl_p I_ok rfl (wl (st_ld I_ok rfl (hb1.seg.obj hx).leaves (wl_p I_ok rfl (wl_nil (f_then (c_block ?_))))))))
      refine c_loopK (α := Nat × Option Addr × Nat) [11, 12] rfl (fun z => [(3, .slice z.2.1 z.1 z.2.2), (13, .int .i64 (z.1 : Int))]) (fun z u => (z.1 ≤ x.leaves.length ∧ Own u z.2.1 z.1 z.2.2 31 32 (((x.leaves.take z.1).map LeafD.id).flatMap bytesU) ∧ (∀ y, OwnB z.2.1 y → w.heap.size ≤ y)) ∧ Ext No w u) (fun z u => x.leaves.length - z.1) (0, none, 0) rfl ⟨⟨Nat.zero_le _, Own.nil _ _ _, noOwn⟩, hX⟩ ?_
      rintro ⟨i, q, k⟩ w2 ⟨⟨hi, hq, hqn⟩, hX⟩
      try dsimp only
      dsimp only at hi hq hqn
      refine c_seq (c_region (wl_p I_ok rfl (wl_nil (f_then (c_seq (c_if rfl (fun hc => ?_) (fun hc => ?_)))))))
      · have hi : i < x.leaves.length := by omega
        obtain ⟨qb, qoff, hp, hsq⟩ := hxl.leaves.rowAll (fun r hr => LeafD.len (hx.leaves r hr).2) (by omega)
        rw [hp]
        have hll := hsx.leaves
        have ha1 := hx.leaves _ (List.getElem_mem hi)
        refine c_skip (f_then (c_seq (c_block (c_seq (c_region (wl (st_ix I_ok rfl 33 rfl i rfl (by omega) (qoff + i * 33) rfl (wl (st_ldN I_ok rfl ((hsq i hi).extNo hX) (LeafD.len ha1.2) (wl (st_al I_ok rfl fun b5 w3 hn5 hb5 hE3 => ?_)))))))))))
        have fr5 := Nat.le_trans hX.size hn5
        have hq := hq.ext hE3 fun _ _ => id
        have hX := hX.thenNo hE3
        have hb5o := hb5
        refine wl (st_stW (l' := (x.leaves[i]).cells) I_ok hb5 rfl rfl (LeafD.len ha1.2) (LeafD.len ha1.2) OneC.h fun w4 hb5 hE4 hs4 => ?_)
        have hq := hq.extTy hE4 hb5o (by decide)
        have hX := hX.thenNew hE4 fr5
        refine wl_nil (f_then (c_region (wl_p I_ok rfl (wl (st_ldN I_ok rfl (by have := hb5.seg.drop 1; exact this) (IdIn.len ha1.2) ?_)))))
        have ha5 : IdIn (x.leaves[i]).id := ha1.2
        refine wl (st_bs I_ok rfl 32 rfl idZ_c.symm (by rw [bytesU_len]; rfl) (by decide) (by decide) ⟨⟨by rw [cellsOf_agg]; exact (IdIn.len ha1.2), by decide⟩, trivial⟩ (l' := bytesU (x.leaves[i]).id) (one_id ha1.2) fun b20 w5 hn20 hb20 hE5 hs5 => ?_)
        have hq := hq.ext hE5 fun _ _ => id
        have hX := hX.thenNo hE5
        have hX0 := hX
        refine wl (st_app I_ok rfl 32 32 rfl rfl rfl (by decide) hq (Src.slice (m := 1) (one_idS ha5 hb20) OneC.h) (by dsimp only [maxLen]; omega) (by dsimp only; omega) fun p6 c6 w6 ho6 hE6 hB6 => ?_)
        dsimp only at ho6 hE6 hB6 ⊢
        have hX := hX0.trans hE6 fun y hy hF => by have := hqn y hF; omega
        have hqn2 := newW hX0 hqn hB6
        have hq2 : Own w6 p6 (i + 1) c6 31 32 (((x.leaves.take (i + 1)).map LeafD.id).flatMap bytesU) := by
          have e1 : ((x.leaves.take (i + 1)).map LeafD.id).flatMap bytesU = ((x.leaves.take i).map LeafD.id).flatMap bytesU ++ bytesU (x.leaves[i]).id := by
            rw [List.take_succ_eq_append_getElem hi, List.map_append, List.flatMap_append]
            simp
          rw [e1]
          exact ho6
        refine wl_p I_ok rfl (wl_nil (f_blockN (f_then (c_region (wl_p I_ok rfl ?_)))))
        rw [IntWalk.i64_in _ (by omega)]
        refine wl_nil ?_
        exact f_round (i + 1, p6, c6) rfl ⟨⟨hi, hq2, hqn2⟩, hX⟩ (by first | omega | (dsimp only; omega))
      · have h0 : i = x.leaves.length := by omega
        subst h0
        rw [List.take_length] at hq
        have e2 : linksOf x = x.leaves.map LeafD.id := by rw [linksOf, if_pos h2]
        have e3 : (linksOf x).length = x.leaves.length := by rw [e2, List.length_map]
        refine c_exit ?_
        exact f_thenE (f_thenE (f_blockE (f_blockN (f_cut (q, k) (by rw [e3]; rfl) ⟨⟨by rw [e3, e2]; exact hq, hqn⟩, hX⟩))))
    · have h2 : ¬ x.kind = 2 := hc
      refine c_seq (c_region (wl_p I_ok rfl (wl_nil (f_then (c_if rfl (fun hc => ?_) (fun hc => ?_))))))
      · have h3 : x.kind = 3 := hc
        have hpl := hsx.parents
        have e2 : linksOf x = x.tree :: x.parents := by rw [linksOf, if_neg h2, if_pos h3]
        have e3 : 1 + x.parents.length = (linksOf x).length := by rw [e2, List.length_cons]; omega
        refine c_draw rfl 9 [(0, true), (1, true), (2, true), (5, true), (6, true), (3, false), (4, false), (7, false), (8, true)] [] (No) (by kernel_rfl) fun w7 hE7 hs7 => ?_
        have hd1 := hb1
        have hX := hX.thenNo hE7
        have hC : Ext (No) _ w7 := hE7.no
        refine wd_k I_ok 2 rfl (wd_ldN I_ok rfl rfl (fun w' hw' => ((hd1.extNo hw').seg.obj hx).tree) (IdIn.len hx.tree) ?_)
        refine wd_k I_ok 1 rfl (wd_ld I_ok rfl rfl (fun w' hw' => ((hd1.extNo hw').seg.obj hx).parents) ?_)
        have ha5 : IdIn x.tree := hx.tree
        refine wd_l rfl (st_bs I_ok rfl 32 rfl idZ_c.symm (by rw [bytesU_len]; rfl) (by decide) (by decide) ⟨⟨by rw [cellsOf_agg]; exact (IdIn.len hx.tree), by decide⟩, trivial⟩ (l' := bytesU x.tree) (one_id hx.tree) fun b28 w8 hn28 hb28 hE8 hs8 => ⟨hC.thenNo hE8, ?_⟩)
        have hX := hX.thenNo hE8
        have hC := hC.thenNo hE8
        have hX0 := hX
        have hC0 := hC
        refine wd_l rfl (st_app I_ok rfl 32 32 rfl rfl rfl (by decide) (Own.nil _ _ _) (Src.slice (m := 1) (one_idS ha5 hb28) OneC.h) (by dsimp only [maxLen]; omega) (by dsimp only; omega) fun p9 c9 w9 ho9 hE9 hB9 => ⟨hC.trans hE9 (fun y hy hF => (by cases hF)), ?_⟩)
        have hC := hC.trans hE9 (fun y hy hF => (by cases hF))
        dsimp only at ho9 hE9 hB9 ⊢
        have hX := hX0.trans hE9 fun y hy hF => by cases hF
        have hn1 : ∀ y, OwnB p9 y → w.heap.size ≤ y := fun y hy => (hB9 y hy).elim (fun h => by cases h) fun h => Nat.le_trans hX0.size h
        have hnc : ∀ y, OwnB p9 y → _ := fun y hy => (hB9 y hy).elim (fun h => by cases h) fun h => Nat.le_trans hC0.size h
        have ho1 : Own w9 p9 1 c9 31 32 (bytesU x.tree) := by have := ho9; rw [List.nil_append] at this; exact this
        have hX0 := hX
        refine wd_l rfl (st_app I_ok rfl 32 32 rfl rfl rfl (by decide) ho1 (Src.slice (hxl.parents.extNo hX) OneC.h) (by dsimp only [maxLen]; omega) (by dsimp only; omega) fun p10 c10 w10 ho10 hE10 hB10 => ⟨hC.trans hE10 (fun y hy hF => (by have := hnc y hF; omega)), ?_⟩)
        dsimp only at ho10 hE10 hB10 ⊢
        have hX := hX0.trans hE10 fun y hy hF => by have := hn1 y hF; omega
        have hqn2 := newW hX0 hn1 hB10
        rw [e3] at ho10 ⊢
        refine wd_k I_ok 1 rfl (wd_sw (wb_nil ?_))
        exact f_blockN (f_cut (p10, c10) rfl ⟨⟨by rw [show (linksOf x).flatMap bytesU = bytesU x.tree ++ x.parents.flatMap bytesU from by rw [e2]; rfl]; exact ho10, hqn2⟩, hX⟩)
      · have h3 : ¬ x.kind = 3 := hc
        have e2 : linksOf x = [] := by rw [linksOf, if_neg h2, if_neg h3]
        refine c_skip ?_
        exact f_blockN (f_cut (none, 0) (by rw [e2]; rfl) ⟨⟨by rw [e2]; exact Own.nil _ _ _, noOwn⟩, hX⟩)
  rintro ⟨q, k⟩ w11 ⟨⟨hq, hqn⟩, hX⟩
  try dsimp only
  dsimp only at hq hqn
  refine c_seq (c_region (wl_p I_ok rfl (wl_nil (f_then (c_ret (f_ret1 rfl rfl ?_))))))
  exact ⟨q, k, rfl, hq, hqn, hX⟩

theorem same6_calls (w : World) {x y : ObjD} {a b : ObjP} (hx : ObjIn x) (hy : ObjIn y) (hxl : ObjL w x a) (hyl : ObjL w y b) (hsx : Short x) :
    CallsV Tryz.prog 15 [.agg (objC x a).toArray, .agg (objC y b).toArray] w fun v w' => v = .bool (decide (x = y)) ∧ Ext No w w' := by
  have hlx1 := hsx.leaves
  have hlx2 := hsx.parents
  have hlx3 := hsx.rows
  refine calls_enter Tryz.func15 rfl rfl rfl rfl ?_
  have hX := Ext.refl No w
  refine c_seq (c_region (wl (st_al I_ok rfl fun b2 w1 hn2 hb2 hE1 => ?_)))
  have hX := hX.thenNo hE1
  have hb2 : Blk w1 b2 48 (objC x a) := hb2
  have oa := hb2.seg.obj hx
  refine wl (st_al I_ok rfl fun b3 w2 hn3 hb3 hE2 => ?_)
  have hb2 := hb2.extNo hE2
  have oa := oa.extNo hE2
  have hX := hX.thenNo hE2
  have hb3 : Blk w2 b3 48 (objC y b) := hb3
  have ob := hb3.seg.obj hy
  refine wl_p I_ok rfl (wl_nil (f_then (c_seq ?_)))
  refine c_cutK (α := Bool) [2, 3] rfl (fun z => [(34, .bool z)]) (fun z u => (z = decide (¬ (x.leaves.length = y.leaves.length ∧ x.parents.length = y.parents.length ∧ x.rows.length = y.rows.length))) ∧ Blk u b2 48 (objC x a) ∧ Blk u b3 48 (objC y b) ∧ Ext No w u) ?_ ?_
  · refine c_region ?_
    refine wl_p I_ok rfl (wl (st_ld I_ok rfl oa.leaves (wl_p I_ok rfl (wl (st_ld I_ok rfl ob.leaves (wl_p I_ok rfl (wl_caseD 15 rfl (fun hg => ?_) (fun hg => ?_))))))))
    · refine wl_pk I_ok 19 rfl ?_
      refine wl_nil ?_
      exact f_cut (true) rfl ⟨by symm; rw [decide_eq_true_eq]; intro h; omega, hb2, hb3, hX⟩
    · refine wl_pk I_ok 1 rfl ?_
      refine wl (st_ld I_ok rfl oa.parents (wl_pk I_ok 2 rfl (wl (st_ld I_ok rfl ob.parents (wl_pk I_ok 4 rfl (wl_caseD 24 rfl (fun hg => ?_) (fun hg => ?_)))))))
      · refine wl_pk I_ok 10 rfl ?_
        refine wl_nil ?_
        exact f_cut (true) rfl ⟨by symm; rw [decide_eq_true_eq]; intro h; omega, hb2, hb3, hX⟩
      · refine wl_pk I_ok 2 rfl ?_
        refine wl (st_ld I_ok rfl oa.rows (wl_pk I_ok 3 rfl (wl (st_ld I_ok rfl ob.rows (wl_pk I_ok 3 rfl (wl_nil ?_))))))
        exact f_cut (_) rfl ⟨by rw [decide_eq_decide]; omega, hb2, hb3, hX⟩
  rintro z w3 ⟨rfl, hb2, hb3, hX⟩
  have oa := hb2.seg.obj hx
  have ob := hb3.seg.obj hy
  refine c_if rfl (fun hc => ?_) (fun hc => ?_)
  · refine c_seq ?_
    refine c_region (wl_p I_ok rfl (wl_nil (f_then (c_ret (f_thenR (f_ret1 rfl rfl ?_))))))
    exact ⟨congrArg Value.bool (by symm; rw [decide_eq_false_iff_not]; intro e; subst e; exact hc ⟨rfl, rfl, rfl⟩), hX⟩
  · obtain ⟨hl1, hl2, hl3⟩ := Decidable.not_not.1 hc
    refine c_skip (f_then (c_seq (c_seq (c_region (wl_p I_ok rfl (wl (st_ld I_ok rfl oa.leaves (wl_p I_ok rfl (wl_nil (f_then (c_block ?_)))))))))))
    refine c_loopK (α := Nat) [2, 3, 37] rfl (fun z => [(38, .int .i64 (z : Int))]) (fun z u => (z ≤ x.leaves.length ∧ ∀ k (hk : k < x.leaves.length), k < z → x.leaves[k] = y.leaves[k]'(by omega)) ∧ Blk u b2 48 (objC x a) ∧ Blk u b3 48 (objC y b) ∧ Ext No w u) (fun z u => x.leaves.length - z) (0) rfl ⟨⟨Nat.zero_le _, fun k _ h => absurd h (Nat.not_lt_zero _)⟩, hb2, hb3, hX⟩ ?_
    rintro i w4 ⟨⟨hi, hok⟩, hb2, hb3, hX⟩
    have oa := hb2.seg.obj hx
    have ob := hb3.seg.obj hy
    refine c_seq (c_region (wl_p I_ok rfl (wl_nil (f_then (c_seq (c_if rfl (fun hc => ?_) (fun hc => ?_)))))))
    · have hi : i < x.leaves.length := by omega
      have him : i < y.leaves.length := by omega
      obtain ⟨ba, oa1, hpa, hsa⟩ := hxl.leaves.rowAll (fun r hr => LeafD.len (hx.leaves r hr).2) (by omega)
      obtain ⟨bb, ob1, hpb, hsb⟩ := hyl.leaves.rowAll (fun r hr => LeafD.len (hy.leaves r hr).2) (by omega)
      have ha1 := hx.leaves _ (List.getElem_mem hi)
      have ha2 := hy.leaves _ (List.getElem_mem him)
      refine c_skip (f_then (c_seq (c_block (c_seq (c_region (wl_p I_ok rfl (wl_nil (f_then (c_seq ?_)))))))))
      refine c_draw rfl 11 [(0, true), (1, true), (2, true), (3, true), (4, true), (5, true), (6, true), (7, true), (8, true), (9, true), (10, true)] [] (No) (by kernel_rfl) fun w5 hE5 hs5 => ?_
      have oad := oa
      have obd := ob
      have hXd := hX
      have hb2 := hb2.extNo hE5
      have hb3 := hb3.extNo hE5
      have hX := hX.thenNo hE5
      refine wd_k I_ok 1 rfl (wd_ld I_ok rfl rfl (fun w' hw' => (oad.extNo hw').leaves) ?_)
      rw [hpa]
      refine wd_k I_ok 1 rfl (wd_ix I_ok rfl rfl 33 rfl i rfl (by omega) (oa1 + i * 33) rfl (wd_ldN I_ok rfl rfl (fun w' hw' => ((hsa i hi).extNo (hXd.thenNo hw'))) (LeafD.len ha1.2) ?_))
      refine wd_k I_ok 1 rfl (wd_ld I_ok rfl rfl (fun w' hw' => (obd.extNo hw').leaves) ?_)
      rw [hpb]
      refine wd_k I_ok 1 rfl (wd_ix I_ok rfl rfl 33 rfl i rfl (by omega) (ob1 + i * 33) rfl (wd_ldN I_ok rfl rfl (fun w' hw' => ((hsb i him).extNo (hXd.thenNo hw'))) (LeafD.len ha2.2) ?_))
      refine wd_eqK rfl rfl gLeafD 10 (by decide) kLeafD (leafForm (LeafD.len ha1.2)) (leafForm (LeafD.len ha2.2)) (leafKey ha1.1 ha1.2) (leafKey ha2.1 ha2.2) leaf_eq ?_
      simp only [Bool.false_eq_true, if_false]
      refine wd_sw (wb_nil (f_then (c_if rfl (fun hc => ?_) (fun hc => ?_))))
      · refine c_seq ?_
        refine c_region (wl_p I_ok rfl (wl_nil (f_then (c_ret (f_blockR (f_thenR (f_thenR (f_blockR (f_thenR (f_ret1 rfl rfl ?_))))))))))
        exact ⟨congrArg Value.bool (by symm; rw [decide_eq_false_iff_not]; intro e; subst e; exact hc rfl), hX⟩
      · have hei := Decidable.not_not.1 hc
        refine c_skip (f_blockN (f_then (c_region (wl_p I_ok rfl ?_))))
        rw [IntWalk.i64_in _ (by omega)]
        refine wl_nil ?_
        exact f_round (i + 1) rfl ⟨⟨by omega, fun k hk hlt => (by rcases Nat.lt_or_ge k i with h0 | h0; exact hok k hk h0; (have e : k = i := (by omega)); subst e; exact hei)⟩, hb2, hb3, hX⟩ (by first | omega | (dsimp only; omega))
    · have e1 : x.leaves = y.leaves := list_ext hl1 fun k hk => hok k hk (by omega)
      refine c_exit (f_thenE (f_thenE (f_blockE (f_then (c_seq (c_seq (c_region (wl_p I_ok rfl (wl (st_ld I_ok rfl oa.parents (wl_p I_ok rfl (wl_nil (f_then (c_block ?_))))))))))))))
      refine c_loopK (α := Nat) [2, 3, 55] rfl (fun z => [(56, .int .i64 (z : Int))]) (fun z u => (z ≤ x.parents.length ∧ ∀ k (hk : k < x.parents.length), k < z → x.parents[k] = y.parents[k]'(by omega)) ∧ Blk u b2 48 (objC x a) ∧ Blk u b3 48 (objC y b) ∧ Ext No w u) (fun z u => x.parents.length - z) (0) rfl ⟨⟨Nat.zero_le _, fun k _ h => absurd h (Nat.not_lt_zero _)⟩, hb2, hb3, hX⟩ ?_
      rintro i w6 ⟨⟨hi, hok⟩, hb2, hb3, hX⟩
      have oa := hb2.seg.obj hx
      have ob := hb3.seg.obj hy
      refine c_seq (c_region (wl_p I_ok rfl (wl_nil (f_then (c_seq (c_if rfl (fun hc => ?_) (fun hc => ?_)))))))
      · have hi : i < x.parents.length := by omega
        have him : i < y.parents.length := by omega
        obtain ⟨ba, oa1, hpa, hsa⟩ := hxl.parents.rowAll (fun r hr => IdIn.len (hx.parents r hr)) (by omega)
        obtain ⟨bb, ob1, hpb, hsb⟩ := hyl.parents.rowAll (fun r hr => IdIn.len (hy.parents r hr)) (by omega)
        have ha1 : IdIn _ := hx.parents _ (List.getElem_mem hi)
        have ha2 : IdIn _ := hy.parents _ (List.getElem_mem him)
        refine c_skip (f_then (c_seq (c_block (c_seq (c_region (wl_p I_ok rfl (wl_nil (f_then (c_seq ?_)))))))))
        refine c_draw rfl 11 [(0, true), (1, true), (2, true), (3, true), (4, true), (5, true), (6, true), (7, true), (8, true), (9, true), (10, true)] [] (No) (by kernel_rfl) fun w7 hE7 hs7 => ?_
        have oad := oa
        have obd := ob
        have hXd := hX
        have hb2 := hb2.extNo hE7
        have hb3 := hb3.extNo hE7
        have hX := hX.thenNo hE7
        refine wd_k I_ok 1 rfl (wd_ld I_ok rfl rfl (fun w' hw' => (oad.extNo hw').parents) ?_)
        rw [hpa]
        refine wd_k I_ok 1 rfl (wd_ix I_ok rfl rfl 32 rfl i rfl (by omega) (oa1 + i * 32) rfl (wd_ldN I_ok rfl rfl (fun w' hw' => ((hsa i hi).extNo (hXd.thenNo hw'))) ha1.len ?_))
        refine wd_k I_ok 1 rfl (wd_ld I_ok rfl rfl (fun w' hw' => (obd.extNo hw').parents) ?_)
        rw [hpb]
        refine wd_k I_ok 1 rfl (wd_ix I_ok rfl rfl 32 rfl i rfl (by omega) (ob1 + i * 32) rfl (wd_ldN I_ok rfl rfl (fun w' hw' => ((hsb i him).extNo (hXd.thenNo hw'))) ha2.len ?_))
        refine wd_eqK rfl rfl gId 10 (by decide) kId (idForm ha1) (idForm ha2) (idKey ha1) (idKey ha2) idLits_inj ?_
        simp only [Bool.false_eq_true, if_false]
        refine wd_sw (wb_nil (f_then (c_if rfl (fun hc => ?_) (fun hc => ?_))))
        · refine c_seq ?_
          refine c_region (wl_p I_ok rfl (wl_nil (f_then (c_ret (f_blockR (f_thenR (f_thenR (f_blockR (f_thenR (f_ret1 rfl rfl ?_))))))))))
          exact ⟨congrArg Value.bool (by symm; rw [decide_eq_false_iff_not]; intro e; subst e; exact hc rfl), hX⟩
        · have hei := Decidable.not_not.1 hc
          refine c_skip (f_blockN (f_then (c_region (wl_p I_ok rfl ?_))))
          rw [IntWalk.i64_in _ (by omega)]
          refine wl_nil ?_
          exact f_round (i + 1) rfl ⟨⟨by omega, fun k hk hlt => (by rcases Nat.lt_or_ge k i with h0 | h0; exact hok k hk h0; (have e : k = i := (by omega)); subst e; exact hei)⟩, hb2, hb3, hX⟩ (by first | omega | (dsimp only; omega))
      · have e2 : x.parents = y.parents := list_ext hl2 fun k hk => hok k hk (by omega)
        refine c_exit (f_thenE (f_thenE (f_blockE (f_then (c_seq (c_seq (c_region (wl_p I_ok rfl (wl (st_ld I_ok rfl oa.rows (wl_p I_ok rfl (wl_nil (f_then (c_block ?_))))))))))))))
        refine c_loopK (α := Nat) [2, 3, 74] rfl (fun z => [(75, .int .i64 (z : Int))]) (fun z u => (z ≤ x.rows.length ∧ ∀ k (hk : k < x.rows.length), k < z → x.rows[k] = y.rows[k]'(by omega)) ∧ Blk u b2 48 (objC x a) ∧ Blk u b3 48 (objC y b) ∧ Ext No w u) (fun z u => x.rows.length - z) (0) rfl ⟨⟨Nat.zero_le _, fun k _ h => absurd h (Nat.not_lt_zero _)⟩, hb2, hb3, hX⟩ ?_
        rintro i w8 ⟨⟨hi, hok⟩, hb2, hb3, hX⟩
        have oa := hb2.seg.obj hx
        have ob := hb3.seg.obj hy
        refine c_seq (c_region (wl_p I_ok rfl (wl_nil (f_then (c_seq (c_if rfl (fun hc => ?_) (fun hc => ?_)))))))
        · have hi : i < x.rows.length := by omega
          have him : i < y.rows.length := by omega
          obtain ⟨ba, oa1, hpa, hsa⟩ := hxl.rows.rowAll (fun r _ => r.len) (by omega)
          obtain ⟨bb, ob1, hpb, hsb⟩ := hyl.rows.rowAll (fun r _ => r.len) (by omega)
          have ha1 := hx.rows _ (List.getElem_mem hi)
          have ha2 := hy.rows _ (List.getElem_mem him)
          refine c_skip (f_then (c_seq (c_block (c_seq (c_region (wl_p I_ok rfl (wl_nil (f_then (c_seq ?_)))))))))
          refine c_draw rfl 13 [(0, true), (1, true), (2, true), (3, true), (4, true), (5, true), (6, true), (7, true), (8, true), (9, true), (10, true), (11, true), (12, true)] [] (No) (by kernel_rfl) fun w9 hE9 hs9 => ?_
          have oad := oa
          have obd := ob
          have hXd := hX
          have hb2 := hb2.extNo hE9
          have hb3 := hb3.extNo hE9
          have hX := hX.thenNo hE9
          refine wd_k I_ok 2 rfl (wd_ld I_ok rfl rfl (fun w' hw' => (oad.extNo hw').rows) ?_)
          rw [hpa]
          refine wd_k I_ok 1 rfl (wd_ix I_ok rfl rfl 3 rfl i rfl (by omega) (oa1 + i * 3) rfl (wd_ldN I_ok rfl rfl (fun w' hw' => ((hsa i hi).extNo (hXd.thenNo hw'))) rfl ?_))
          refine wd_k I_ok 2 rfl (wd_ld I_ok rfl rfl (fun w' hw' => (obd.extNo hw').rows) ?_)
          rw [hpb]
          refine wd_k I_ok 1 rfl (wd_ix I_ok rfl rfl 3 rfl i rfl (by omega) (ob1 + i * 3) rfl (wd_ldN I_ok rfl rfl (fun w' hw' => ((hsb i him).extNo (hXd.thenNo hw'))) rfl ?_))
          refine wd_eqK rfl rfl gChgD 10 (by decide) kChgD (chgForm rfl) (chgForm rfl) (chgKey ha1.1 ha1.2) (chgKey ha2.1 ha2.2) chg_eq ?_
          simp only [Bool.false_eq_true, if_false]
          refine wd_sw (wb_nil (f_then (c_if rfl (fun hc => ?_) (fun hc => ?_))))
          · refine c_seq ?_
            refine c_region (wl_p I_ok rfl (wl_nil (f_then (c_ret (f_blockR (f_thenR (f_thenR (f_blockR (f_thenR (f_ret1 rfl rfl ?_))))))))))
            exact ⟨congrArg Value.bool (by symm; rw [decide_eq_false_iff_not]; intro e; subst e; exact hc rfl), hX⟩
          · have hei := Decidable.not_not.1 hc
            refine c_skip (f_blockN (f_then (c_region (wl_p I_ok rfl ?_))))
            rw [IntWalk.i64_in _ (by omega)]
            refine wl_nil ?_
            exact f_round (i + 1) rfl ⟨⟨by omega, fun k hk hlt => (by rcases Nat.lt_or_ge k i with h0 | h0; exact hok k hk h0; (have e : k = i := (by omega)); subst e; exact hei)⟩, hb2, hb3, hX⟩ (by first | omega | (dsimp only; omega))
        · have e3 : x.rows = y.rows := list_ext hl3 fun k hk => hok k hk (by omega)
          refine c_exit (f_thenE (f_thenE (f_blockE (f_then (c_cutK (α := Bool) [] rfl (fun z => [(4, .bool z)]) (fun z u => (z = decide (x = y)) ∧ Ext No w u) ?_ ?_)))))
          · refine c_region ?_
            refine wl_p I_ok rfl (wl (st_ld I_ok rfl oa.kind (wl_p I_ok rfl (wl (st_ld I_ok rfl ob.kind (wl_p I_ok rfl (wl_caseD 97 rfl (fun hg => ?_) (fun hg => ?_))))))))
            · have t1 : x.kind = y.kind := by exact hg
              refine wl_pk I_ok 1 rfl (wl (st_ld I_ok rfl oa.text (wl_pk I_ok 1 rfl (wl (st_ld I_ok rfl ob.text (wl_pk I_ok 3 rfl (wl_caseD 104 rfl (fun hg => ?_) (fun hg => ?_))))))))
              · have t2 : x.text = y.text := by exact str_iff.1 hg
                refine wl_pk I_ok 1 rfl (wl (st_ld I_ok rfl oa.style (wl_pk I_ok 1 rfl (wl (st_ld I_ok rfl ob.style (wl_pk I_ok 3 rfl (wl_caseD 111 rfl (fun hg => ?_) (fun hg => ?_))))))))
                · have t3 : x.style = y.style := by exact hg
                  refine wl_pk I_ok 1 rfl (wl (st_ldN I_ok rfl oa.tree (IdIn.len hx.tree) (wl_pk I_ok 1 rfl (wl (st_ldN I_ok rfl ob.tree (IdIn.len hy.tree) ?_)))))
                  refine wl (st_eqK rfl gId 10 (by decide) kId (idForm hx.tree) (idForm hy.tree) (idKey hx.tree) (idKey hy.tree) idLits_inj ?_)
                  simp only [if_true]
                  refine wl_p I_ok rfl (wl_caseD 118 rfl (fun hg => ?_) (fun hg => ?_))
                  · have t4 : x.tree = y.tree := by exact hg
                    refine wl_pk I_ok 1 rfl (wl (st_ldN I_ok rfl oa.base (IdIn.len hx.base) (wl_pk I_ok 1 rfl (wl (st_ldN I_ok rfl ob.base (IdIn.len hy.base) ?_)))))
                    refine wl (st_eqK rfl gId 10 (by decide) kId (idForm hx.base) (idForm hy.base) (idKey hx.base) (idKey hy.base) idLits_inj ?_)
                    simp only [if_true]
                    refine wl_p I_ok rfl (wl_caseD 125 rfl (fun hg => ?_) (fun hg => ?_))
                    · have t5 : x.base = y.base := by exact hg
                      refine wl_pk I_ok 1 rfl (wl (st_ld I_ok rfl oa.number (wl_pk I_ok 1 rfl (wl (st_ld I_ok rfl ob.number (wl_pk I_ok 3 rfl (wl_caseD 132 rfl (fun hg => ?_) (fun hg => ?_))))))))
                      · have t6 : x.number = y.number := by omega
                        refine wl_pk I_ok 1 rfl (wl (st_ld I_ok rfl oa.author (wl_pk I_ok 1 rfl (wl (st_ld I_ok rfl ob.author (wl_pk I_ok 3 rfl (wl_caseD 139 rfl (fun hg => ?_) (fun hg => ?_))))))))
                        · have t7 : x.author = y.author := by omega
                          refine wl_pk I_ok 1 rfl (wl (st_ld I_ok rfl oa.note (wl_pk I_ok 1 rfl (wl (st_ld I_ok rfl ob.note (wl_pk I_ok 3 rfl (wl_nil ?_)))))))
                          exact f_cut (_) rfl ⟨by rw [decide_eq_decide, str_iff]; exact ⟨fun h => same_iff.2 ⟨⟨t1, t2, t3, t4, t5, t6, t7, h⟩, e1, e2, e3⟩, fun h => (same_iff.1 h).1.2.2.2.2.2.2.2⟩, hX⟩
                        · have n7 : ¬ x.author = y.author := fun e => hg (by rw [e])
                          refine wl_pk I_ok 7 rfl (wl_nil ?_)
                          exact f_cut (false) rfl ⟨by symm; rw [decide_eq_false_iff_not]; intro e; have h := (same_iff.1 e).1; exact n7 h.2.2.2.2.2.2.1, hX⟩
                      · have n6 : ¬ x.number = y.number := fun e => hg (by rw [e])
                        refine wl_pk I_ok 14 rfl (wl_nil ?_)
                        exact f_cut (false) rfl ⟨by symm; rw [decide_eq_false_iff_not]; intro e; have h := (same_iff.1 e).1; exact n6 h.2.2.2.2.2.1, hX⟩
                    · have n5 : ¬ x.base = y.base := fun e => hg (by rw [e])
                      refine wl_pk I_ok 21 rfl (wl_nil ?_)
                      exact f_cut (false) rfl ⟨by symm; rw [decide_eq_false_iff_not]; intro e; have h := (same_iff.1 e).1; exact n5 h.2.2.2.2.1, hX⟩
                  · have n4 : ¬ x.tree = y.tree := fun e => hg (by rw [e])
                    refine wl_pk I_ok 28 rfl (wl_nil ?_)
                    exact f_cut (false) rfl ⟨by symm; rw [decide_eq_false_iff_not]; intro e; have h := (same_iff.1 e).1; exact n4 h.2.2.2.1, hX⟩
                · have n3 : ¬ x.style = y.style := fun e => hg (by rw [e])
                  refine wl_pk I_ok 35 rfl (wl_nil ?_)
                  exact f_cut (false) rfl ⟨by symm; rw [decide_eq_false_iff_not]; intro e; have h := (same_iff.1 e).1; exact n3 h.2.2.1, hX⟩
              · have n2 : ¬ x.text = y.text := fun e => hg (by rw [e])
                refine wl_pk I_ok 42 rfl (wl_nil ?_)
                exact f_cut (false) rfl ⟨by symm; rw [decide_eq_false_iff_not]; intro e; have h := (same_iff.1 e).1; exact n2 h.2.1, hX⟩
            · have n1 : ¬ x.kind = y.kind := fun e => hg (by rw [e])
              refine wl_pk I_ok 49 rfl (wl_nil ?_)
              exact f_cut (false) rfl ⟨by symm; rw [decide_eq_false_iff_not]; intro e; have h := (same_iff.1 e).1; exact n1 h.1, hX⟩
          rintro z w10 ⟨rfl, hX⟩
          refine c_ret (f_ret1 rfl rfl ?_)
          exact ⟨rfl, hX⟩
end Go.Proofs.YtpcdihkcenfgkaaGreat
namespace Go.Proofs.YtpcdihkcenfgkaaGreat
open Go.Vc
theorem objC_parents {o : ObjD} {a : ObjP} (h : ObjIn o) {p : Option Addr} {c : Nat} : (objC o a).set (68 + 0) (.slice p o.parents.length c) = objC o ⟨a.lp, a.lc, p, c, a.rp, a.rc⟩ := objC_set h 0 _
theorem objC_rows {o : ObjD} {a : ObjP} (h : ObjIn o) {p : Option Addr} {c : Nat} : (objC o a).set (68 + 1) (.slice p o.rows.length c) = objC o ⟨a.lp, a.lc, a.pp, a.pc, p, c⟩ := objC_set h 1 _
theorem newB {n b : Nat} (h : n ≤ b) : ∀ x, OwnB (some ⟨b, 0, none⟩) x → n ≤ x := fun x hx => by have e : b = x := congrArg Addr.block (Option.some.inj hx); omega
end Go.Proofs.YtpcdihkcenfgkaaGreat
namespace Go.Vc
abbrev IdB := List UInt8
abbrev Hp := List (IdB × ObjD)
def Hp.get (h : Hp) (x : IdB) : Option ObjD := (h.find? fun e => decide (e.1 = x)).map (·.2)
def Hp.err (h : Hp) (x : IdB) : Int := match h.get x with
  | none => 4
  | some o => if ObjOk o then 0 else 160
def Hp.obj (h : Hp) (x : IdB) : ObjD := match h.get x with
  | none => objZ
  | some o => if ObjOk o then o else objZ
/-- the object of a kind -/
def Hp.kErr (h : Hp) (x : IdB) (k : Int) : Int := if h.err x = 0 ∧ (h.obj x).kind ≠ k then 160 else h.err x
def Hp.kObj (h : Hp) (x : IdB) (k : Int) : ObjD := if h.err x = 0 ∧ (h.obj x).kind ≠ k then objZ else h.obj x
/-- the map of a tree -/
def Hp.txErr (h : Hp) (L : List LeafD) : Int := match L.find? (fun l => decide (h.kErr l.id 1 ≠ 0)) with
  | none => 0
  | some l => h.kErr l.id 1
def Hp.rowsOf (h : Hp) (L : List LeafD) : List RowD := L.map fun l => ⟨l.path, (h.kObj l.id 1).text⟩
def Hp.mapE (h : Hp) (x : IdB) : Int := if h.kErr x 2 ≠ 0 then h.kErr x 2 else h.txErr (h.kObj x 2).leaves
def Hp.map (h : Hp) (x : IdB) : List RowD := if h.mapE x ≠ 0 then [] else h.rowsOf (h.kObj x 2).leaves
theorem Hp.txErr_ok {h : Hp} {L : List LeafD} (hL : ∀ l ∈ L, h.kErr l.id 1 = 0) : h.txErr L = 0 := by
  unfold Hp.txErr
  rw [List.find?_eq_none.2 fun l hl => by simp [hL l hl]]
theorem Hp.txErr_bad {h : Hp} {L : List LeafD} {i : Nat} (hi : i < L.length) (hL : ∀ l ∈ L.take i, h.kErr l.id 1 = 0) (hb : h.kErr L[i].id 1 ≠ 0) : h.txErr L = h.kErr L[i].id 1 := by
  unfold Hp.txErr
  have e : L.find? (fun l => decide (h.kErr l.id 1 ≠ 0)) = some L[i] := by
    rw [List.find?_eq_some_iff_append]
    refine ⟨by simpa using hb, L.take i, L.drop (i + 1), by simp, fun l hl => by simp [hL l hl]⟩
  rw [e]
/-- where links lead -/
def Hp.links (h : Hp) (x : IdB) : List IdB := linksOf (h.obj x)
inductive Hp.Leads (h : Hp) (x : IdB) : IdB → Prop
  | here : Hp.Leads h x x
  | on {y z : IdB} : Hp.Leads h x y → z ∈ h.links y → Hp.Leads h x z
def Hp.all (h : Hp) (x : IdB) : List IdB := x :: h.flatMap fun e => linksOf e.2
theorem Hp.obj_mem (h : Hp) (x : IdB) : h.obj x = objZ ∨ ∃ e ∈ h, h.obj x = e.2 := by
  unfold Hp.obj Hp.get
  cases hf : h.find? fun e => decide (e.1 = x) with
  | none => exact .inl rfl
  | some e =>
    simp only [Option.map_some]
    split
    · exact .inr ⟨e, List.mem_of_find?_eq_some hf, rfl⟩
    · exact .inl rfl
theorem linksOf_objZ : linksOf objZ = [] := rfl
theorem Hp.links_all (h : Hp) (x y : IdB) : ∀ z ∈ h.links y, z ∈ h.all x := fun z hz => by
  unfold Hp.links at hz
  rcases h.obj_mem y with e | ⟨e, he, e'⟩
  · rw [e, linksOf_objZ] at hz; cases hz
  · rw [e'] at hz
    exact List.mem_cons_of_mem _ (List.mem_flatMap.2 ⟨e, he, hz⟩)
theorem Hp.Leads.all {h : Hp} {x y : IdB} (hl : h.Leads x y) : y ∈ h.all x := by
  cases hl with
  | here => exact List.mem_cons_self
  | on _ hz => exact h.links_all x _ _ hz
theorem Hp.Leads.sub {h : Hp} {x : IdB} {S : IdB → Prop} (hx : S x) (hS : ∀ y, S y → ∀ z ∈ h.links y, S z) : ∀ y, h.Leads x y → S y := fun y hy => by
  induction hy with
  | here => exact hx
  | on _ hz ih => exact hS _ ih _ hz

/-! ### Rising rows of Ids -/
def idLt (a b : IdB) : Prop := Op.bytesLess a b = true
instance (a b : IdB) : Decidable (idLt a b) := inferInstanceAs (Decidable (_ = true))
theorem idLt_irrefl (a : IdB) : ¬ idLt a a := fun h => bl_asymm a a h h
theorem idLt_asymm {a b : IdB} (h : idLt a b) : ¬ idLt b a := fun k => bl_asymm a b h k
theorem idLt_total (a b : IdB) : idLt a b ∨ a = b ∨ idLt b a := by
  rcases bl_total a b with (h | h) | h
  · exact .inl h
  · exact .inr (.inl h)
  · exact .inr (.inr h)
theorem bl_trans : ∀ (x y z : List UInt8), Op.bytesLess x y = true → Op.bytesLess y z = true → Op.bytesLess x z = true
  | [], [], _, h, _ => by cases h
  | [], _ :: _, [], _, h => by cases h
  | [], _ :: _, _ :: _, _, _ => rfl
  | _ :: _, [], _, h, _ => by cases h
  | _ :: _, _ :: _, [], _, h => by cases h
  | a :: x, b :: y, c :: z, h, k => by
    simp only [Op.bytesLess, Bool.or_eq_true, Bool.and_eq_true, decide_eq_true_eq, beq_iff_eq] at h k ⊢
    rcases h with h | ⟨rfl, h⟩
    · rcases k with k | ⟨rfl, k⟩
      · exact .inl (UInt8.lt_trans h k)
      · exact .inl h
    · rcases k with k | ⟨rfl, k⟩
      · exact .inl k
      · exact .inr ⟨rfl, bl_trans x y z h k⟩
theorem idLt_trans {a b c : IdB} (h : idLt a b) (k : idLt b c) : idLt a c := bl_trans a b c h k
def Rise (l : List IdB) : Prop := l.Pairwise idLt
/-- two sorted rows with the same in them are one -/
theorem sorted_one {α : Type} {R : α → α → Prop} (hirr : ∀ a, ¬ R a a) (hasym : ∀ a b, R a b → ¬ R b a) : ∀ {l m : List α}, l.Pairwise R → m.Pairwise R → (∀ x, x ∈ l ↔ x ∈ m) → l = m
  | [], [], _, _, _ => rfl
  | [], b :: m, _, _, h => by have := (h b).2 List.mem_cons_self; cases this
  | a :: l, [], _, _, h => by have := (h a).1 List.mem_cons_self; cases this
  | a :: l, b :: m, hl, hm, h => by
    have hl' := List.pairwise_cons.1 hl
    have hm' := List.pairwise_cons.1 hm
    have hab : a = b := by
      rcases List.mem_cons.1 ((h a).1 List.mem_cons_self) with e | e
      · exact e
      · rcases List.mem_cons.1 ((h b).2 List.mem_cons_self) with e' | e'
        · exact e'.symm
        · exact absurd (hl'.1 b e') (hasym _ _ (hm'.1 a e))
    subst hab
    congr 1
    refine sorted_one hirr hasym hl'.2 hm'.2 fun x => ⟨fun hx => ?_, fun hx => ?_⟩
    · rcases List.mem_cons.1 ((h x).1 (List.mem_cons_of_mem _ hx)) with e | e
      · subst e; exact absurd (hl'.1 _ hx) (hirr _)
      · exact e
    · rcases List.mem_cons.1 ((h x).2 (List.mem_cons_of_mem _ hx)) with e | e
      · subst e; exact absurd (hm'.1 _ hx) (hirr _)
      · exact e
theorem rise_one {l m : List IdB} (hl : Rise l) (hm : Rise m) (h : ∀ x, x ∈ l ↔ x ∈ m) : l = m := sorted_one idLt_irrefl (fun _ _ h => idLt_asymm h) hl hm h
def insId : List IdB → IdB → List IdB
  | [], x => [x]
  | y :: r, x => if idLt x y then x :: y :: r else y :: insId r x
def withId (l : List IdB) (x : IdB) : List IdB := if x ∈ l then l else insId l x
theorem insId_mem (x : IdB) : ∀ (l : List IdB) (y : IdB), y ∈ insId l x ↔ y = x ∨ y ∈ l
  | [], y => by simp [insId]
  | z :: r, y => by
    unfold insId
    split
    · simp
    · simp only [List.mem_cons, insId_mem x r y]
      constructor
      · rintro (h | h | h); exact .inr (.inl h); exact .inl h; exact .inr (.inr h)
      · rintro (h | h | h); exact .inr (.inl h); exact .inl h; exact .inr (.inr h)
theorem insId_len (x : IdB) : ∀ (l : List IdB), (insId l x).length = l.length + 1
  | [] => rfl
  | z :: r => by
    unfold insId
    split
    · rfl
    · rw [List.length_cons, insId_len x r]; rfl
theorem insId_rise (x : IdB) : ∀ {l : List IdB}, Rise l → x ∉ l → Rise (insId l x)
  | [], _, _ => by unfold insId Rise; simp
  | z :: r, h, hx => by
    have h' := List.pairwise_cons.1 h
    unfold insId
    split
    · rename_i hlt
      refine List.pairwise_cons.2 ⟨fun y hy => ?_, h⟩
      rcases List.mem_cons.1 hy with rfl | hy
      · exact hlt
      · exact idLt_trans hlt (h'.1 y hy)
    · rename_i hlt
      refine List.pairwise_cons.2 ⟨fun y hy => ?_, insId_rise x h'.2 fun e => hx (List.mem_cons_of_mem _ e)⟩
      rcases (insId_mem x r y).1 hy with rfl | hy
      · rcases idLt_total z y with e | e | e
        · exact e
        · exact absurd (e ▸ List.mem_cons_self) hx
        · exact absurd e hlt
      · exact h'.1 y hy
theorem withId_mem (l : List IdB) (x y : IdB) : y ∈ withId l x ↔ y = x ∨ y ∈ l := by
  unfold withId
  split
  · rename_i h; exact ⟨.inr, fun e => e.elim (fun e => e ▸ h) id⟩
  · exact insId_mem x l y
theorem withId_rise {l : List IdB} (h : Rise l) (x : IdB) : Rise (withId l x) := by
  unfold withId
  split
  · exact h
  · rename_i hx; exact insId_rise x h hx
theorem withId_len (l : List IdB) (x : IdB) : l.length ≤ (withId l x).length ∧ (withId l x).length ≤ l.length + 1 := by
  unfold withId
  split
  · omega
  · rw [insId_len]; omega
/-- step by step: what stands ahead, with x put in as soon as something greater has come -/
theorem insId_snoc (x : IdB) (y : IdB) : ∀ (l : List IdB), (∃ z ∈ l, idLt x z) → insId (l ++ [y]) x = insId l x ++ [y]
  | [], h => by obtain ⟨_, h, _⟩ := h; cases h
  | z :: r, h => by
    rw [List.cons_append]
    unfold insId
    by_cases hz : idLt x z
    · rw [if_pos hz, if_pos hz]; rfl
    · rw [if_neg hz, if_neg hz, List.cons_append]
      congr 1
      obtain ⟨u, hu, hl⟩ := h
      rcases List.mem_cons.1 hu with rfl | hu
      · exact absurd hl hz
      · exact insId_snoc x y r ⟨u, hu, hl⟩
theorem insId_end (x : IdB) : ∀ (l : List IdB), (∀ z ∈ l, ¬ idLt x z) → insId l x = l ++ [x]
  | [], _ => rfl
  | z :: r, h => by
    unfold insId
    rw [if_neg (h z List.mem_cons_self), insId_end x r fun u hu => h u (List.mem_cons_of_mem _ hu)]
    rfl
theorem insId_now (x y : IdB) (hxy : idLt x y) : ∀ (l : List IdB), (∀ z ∈ l, ¬ idLt x z) → insId (l ++ [y]) x = l ++ [x, y]
  | [], _ => by show insId [y] x = [x, y]; unfold insId; rw [if_pos hxy]
  | z :: r, h => by
    rw [List.cons_append]
    unfold insId
    rw [if_neg (h z List.mem_cons_self), insId_now x y hxy r fun u hu => h u (List.mem_cons_of_mem _ hu)]
    rfl
theorem foldWith_mem : ∀ (xs l : List IdB) (y : IdB), y ∈ xs.foldl withId l ↔ y ∈ xs ∨ y ∈ l
  | [], l, y => by simp
  | x :: r, l, y => by
    rw [List.foldl_cons, foldWith_mem r, withId_mem, List.mem_cons]
    constructor
    · rintro (h | h | h); exact .inl (.inr h); exact .inl (.inl h); exact .inr h
    · rintro ((h | h) | h); exact .inr (.inl h); exact .inl h; exact .inr (.inr h)
theorem foldWith_rise : ∀ (xs : List IdB) {l : List IdB}, Rise l → Rise (xs.foldl withId l)
  | [], _, h => h
  | x :: r, _, h => foldWith_rise r (withId_rise h x)
theorem foldWith_len : ∀ (xs l : List IdB), l.length ≤ (xs.foldl withId l).length
  | [], _ => Nat.le_refl _
  | x :: r, l => Nat.le_trans (withId_len l x).1 (foldWith_len r (withId l x))
/-- a rising row that has as many as another one in which all of it is, is that -/
theorem rise_nodup {l : List IdB} (h : Rise l) : l.Nodup := List.Pairwise.imp (fun {a b} (hab : idLt a b) (e : a = b) => idLt_irrefl b (e ▸ hab)) h
theorem sub_len {l m : List IdB} (hl : l.Nodup) (hs : ∀ x ∈ l, x ∈ m) : l.length ≤ m.length := by
  induction l generalizing m with
  | nil => exact Nat.zero_le _
  | cons a l ih =>
    have hl' := List.nodup_cons.1 hl
    have ha := hs a List.mem_cons_self
    have := ih hl'.2 (m := m.erase a) fun x hx => by
      have hne : x ≠ a := fun e => hl'.1 (e ▸ hx)
      exact (List.mem_erase_of_ne hne).2 (hs x (List.mem_cons_of_mem _ hx))
    rw [List.length_erase_of_mem ha] at this
    have h0 : 0 < m.length := List.length_pos_of_mem ha
    rw [List.length_cons]
    omega
theorem sub_all {l m : List IdB} (hl : l.Nodup) (_hm : m.Nodup) (hs : ∀ x ∈ l, x ∈ m) (hn : m.length ≤ l.length) : ∀ x ∈ m, x ∈ l := fun x hx => by
  refine Classical.byContradiction fun hnl => ?_
  have := sub_len (l := x :: l) (m := m) (List.nodup_cons.2 ⟨hnl, hl⟩) fun y hy => by
    rcases List.mem_cons.1 hy with rfl | hy
    · exact hx
    · exact hs y hy
  rw [List.length_cons] at this
  omega

/-! ### All that an Id leads to -/
open Classical in
noncomputable def Hp.led (h : Hp) (x : IdB) : List IdB := ((h.all x).filter fun y => decide (h.Leads x y)).foldl withId []
theorem Hp.led_rise (h : Hp) (x : IdB) : Rise (h.led x) := foldWith_rise _ List.Pairwise.nil
theorem Hp.led_mem (h : Hp) (x y : IdB) : y ∈ h.led x ↔ h.Leads x y := by
  unfold Hp.led
  rw [foldWith_mem]
  simp only [List.mem_filter, decide_eq_true_eq, List.not_mem_nil, or_false]
  exact ⟨fun e => e.2, fun e => ⟨e.all, e⟩⟩
theorem Hp.led_eq {h : Hp} {x : IdB} {L : List IdB} (hr : Rise L) (hm : ∀ y, y ∈ L ↔ h.Leads x y) : L = h.led x := rise_one hr (h.led_rise x) fun y => (hm y).trans (h.led_mem x y).symm
def Hp.waveGo (h : Hp) (ys acc : List IdB) : List IdB := ys.foldl (fun acc y => (h.links y).foldl withId acc) acc
theorem Hp.waveGo_mem (h : Hp) : ∀ (ys acc : List IdB) (z : IdB), z ∈ h.waveGo ys acc ↔ z ∈ acc ∨ ∃ y ∈ ys, z ∈ h.links y
  | [], acc, z => by simp [Hp.waveGo]
  | y :: r, acc, z => by
    show z ∈ h.waveGo r ((h.links y).foldl withId acc) ↔ _
    rw [Hp.waveGo_mem h r, foldWith_mem]
    constructor
    · rintro ((e | e) | ⟨u, hu, e⟩)
      · exact .inr ⟨y, List.mem_cons_self, e⟩
      · exact .inl e
      · exact .inr ⟨u, List.mem_cons_of_mem _ hu, e⟩
    · rintro (e | ⟨u, hu, e⟩)
      · exact .inl (.inr e)
      · rcases List.mem_cons.1 hu with rfl | hu
        · exact .inl (.inl e)
        · exact .inr ⟨u, hu, e⟩
theorem Hp.waveGo_rise (h : Hp) : ∀ (ys : List IdB) {acc : List IdB}, Rise acc → Rise (h.waveGo ys acc)
  | [], _, ha => ha
  | _y :: r, _, ha => Hp.waveGo_rise h r (foldWith_rise _ ha)
theorem Hp.waveGo_len (h : Hp) : ∀ (ys acc : List IdB), acc.length ≤ (h.waveGo ys acc).length
  | [], _ => Nat.le_refl _
  | y :: r, acc => Nat.le_trans (foldWith_len (h.links y) acc) (Hp.waveGo_len h r _)
theorem Hp.waveGo_snoc (h : Hp) (ys : List IdB) (y : IdB) (acc : List IdB) : h.waveGo (ys ++ [y]) acc = (h.links y).foldl withId (h.waveGo ys acc) := by
  unfold Hp.waveGo
  rw [List.foldl_append]
  rfl
/-- what is on the way -/
structure Hp.Part (h : Hp) (x : IdB) (L : List IdB) : Prop where
  rise : Rise L
  has : x ∈ L
  led : ∀ y ∈ L, h.Leads x y
theorem Hp.Part.wave {h : Hp} {x : IdB} {L : List IdB} (hp : h.Part x L) : h.Part x (h.waveGo L L) := by
  refine ⟨h.waveGo_rise L hp.rise, (h.waveGo_mem L L x).2 (.inl hp.has), fun y hy => ?_⟩
  rcases (h.waveGo_mem L L y).1 hy with e | ⟨u, hu, e⟩
  · exact hp.led y e
  · exact .on (hp.led u hu) e
theorem Hp.Part.len {h : Hp} {x : IdB} {L : List IdB} (hp : h.Part x L) : L.length ≤ (h.all x).length := sub_len (rise_nodup hp.rise) fun y hy => (hp.led y hy).all
theorem Hp.Part.done {h : Hp} {x : IdB} {L : List IdB} (hp : h.Part x L) (hn : (h.waveGo L L).length = L.length) : L = h.led x := by
  refine Hp.led_eq hp.rise fun y => ⟨hp.led y, fun hy => ?_⟩
  have hall := sub_all (rise_nodup hp.rise) (rise_nodup hp.wave.rise) (fun z hz => (h.waveGo_mem L L z).2 (.inl hz)) (by omega)
  exact Hp.Leads.sub (S := fun z => z ∈ L) hp.has (fun u hu z hz => hall z ((h.waveGo_mem L L z).2 (.inr ⟨u, hu, hz⟩))) y hy
/-! ### Closed commits -/
def Hp.top (h : Hp) (l : List IdB) : Nat := l.foldl (fun t p => max t ((h.kObj p 3).number + 1)) 0
def Hp.ParOk (h : Hp) (o : ObjD) : Prop := (∀ p ∈ o.parents, h.kErr p 3 = 0 ∧ (h.kObj p 3).number < o.number) ∧ h.top o.parents = o.number
instance (h : Hp) (o : ObjD) : Decidable (h.ParOk o) := inferInstanceAs (Decidable (_ ∧ _))
def Hp.Good (h : Hp) (x : IdB) : Prop := h.err x = 0 ∧ ((h.obj x).kind = 3 → h.mapE (h.obj x).tree = 0 ∧ h.ParOk (h.obj x))
instance (h : Hp) (x : IdB) : Decidable (h.Good x) := inferInstanceAs (Decidable (_ ∧ _))
noncomputable def Hp.closed (h : Hp) (x : IdB) : Int := if h.kErr x 3 ≠ 0 then h.kErr x 3 else if ∀ y ∈ h.led x, h.Good y then 0 else 180
def Hp.num (h : Hp) (x : IdB) : Nat := (h.kObj x 3).number
end Go.Vc
namespace Go.Proofs.YtpcdihkcenfgkaaGreat
open Go.Vc
abbrev toHp (l : List HeldT) : Hp := l.map fun h => (h.id, h.o)
/-- a heap's row -/
structure HpIn (w : World) (p : Option Addr) (l : List HeldT) : Prop where
  sl : Sl w p l.length 105 (l.flatMap heldC)
  ins : ∀ h ∈ l, HeldIn w h
  len : l.length < 1000000
  lk : (l.flatMap fun e => linksOf e.o).length < 100000
theorem HpIn.extNo {w w' : World} {p : Option Addr} {l : List HeldT} (h : HpIn w p l) (hE : Ext No w w') : HpIn w' p l := ⟨h.sl.extNo hE, fun x hx => (h.ins x hx).extNo hE, h.len, h.lk⟩
theorem HpIn.c {w : World} {p : Option Addr} {l : List HeldT} (h : HpIn w p l) : ∀ x ∈ l, (heldC x).length = 105 := fun x hx => (h.ins x hx).c
/-- where the lists of an Id's object lie -/
def objP (l : List HeldT) (x : IdB) : ObjP := match l.find? fun h => decide (h.id = x) with
  | none => noP
  | some h => if ObjOk h.o then h.a else noP
def kObjP (l : List HeldT) (x : IdB) (k : Int) : ObjP := if (toHp l).err x = 0 ∧ ((toHp l).obj x).kind ≠ k then noP else objP l x
theorem find_at {l : List HeldT} {x : IdB} {i : Nat} (hi : i < l.length) (hno : ∀ k (hk : k < l.length), k < i → ¬ l[k].id = x) (he : l[i].id = x) : l.find? (fun h => decide (h.id = x)) = some l[i] := by
  rw [List.find?_eq_some_iff_append]
  refine ⟨by simpa using he, l.take i, l.drop (i + 1), ?_, fun e hm => ?_⟩
  · rw [← List.drop_eq_getElem_cons hi, List.take_append_drop]
  · obtain ⟨k, hk, rfl⟩ := List.mem_iff_getElem.1 hm
    rw [List.length_take] at hk
    have hk2 : k < l.length := by omega
    have := hno k hk2 (by omega)
    simp [this]
theorem find_no {l : List HeldT} {x : IdB} (hno : ∀ k (hk : k < l.length), k < l.length → ¬ l[k].id = x) : l.find? (fun h => decide (h.id = x)) = none := by
  rw [List.find?_eq_none]
  intro e hm
  obtain ⟨k, hk, rfl⟩ := List.mem_iff_getElem.1 hm
  have := hno k hk hk
  simp [this]
theorem get_find (l : List HeldT) (x : IdB) : (toHp l).get x = (l.find? fun h => decide (h.id = x)).map HeldT.o := by
  unfold Hp.get toHp
  rw [List.find?_map, Option.map_map]
  rfl
theorem get_at {l : List HeldT} {x : IdB} {i : Nat} (hi : i < l.length) (hno : ∀ k (hk : k < l.length), k < i → ¬ l[k].id = x) (he : l[i].id = x) : (toHp l).get x = some l[i].o := by rw [get_find, find_at hi hno he]; rfl
theorem get_no {l : List HeldT} {x : IdB} (hno : ∀ k (hk : k < l.length), k < l.length → ¬ l[k].id = x) : (toHp l).get x = none := by rw [get_find, find_no hno]; rfl
theorem objP_at {l : List HeldT} {x : IdB} {i : Nat} (hi : i < l.length) (hno : ∀ k (hk : k < l.length), k < i → ¬ l[k].id = x) (he : l[i].id = x) : (ObjOk l[i].o → objP l x = l[i].a) ∧ (¬ ObjOk l[i].o → objP l x = noP) := by
  unfold objP
  rw [find_at hi hno he]
  exact ⟨fun k => if_pos k, fun k => if_neg k⟩
theorem objP_no {l : List HeldT} {x : IdB} (hno : ∀ k (hk : k < l.length), k < l.length → ¬ l[k].id = x) : objP l x = noP := by
  unfold objP
  rw [find_no hno]
theorem Hp.obj_held {l : List HeldT} {x : IdB} : (toHp l).obj x = objZ ∨ ∃ h ∈ l, (toHp l).obj x = h.o := by
  rcases (toHp l).obj_mem x with e | ⟨e, he, e'⟩
  · exact .inl e
  · obtain ⟨h, hh, rfl⟩ := List.mem_map.1 he
    exact .inr ⟨h, hh, e'⟩
theorem HpIn.objIn {w : World} {p : Option Addr} {l : List HeldT} (h : HpIn w p l) (x : IdB) : ObjIn ((toHp l).obj x) := by
  rcases Hp.obj_held (l := l) (x := x) with e | ⟨y, hy, e⟩
  · rw [e]; exact objZ_in
  · rw [e]; exact (h.ins y hy).o
theorem HpIn.objSh {w : World} {p : Option Addr} {l : List HeldT} (h : HpIn w p l) (x : IdB) : Short ((toHp l).obj x) := by
  rcases Hp.obj_held (l := l) (x := x) with e | ⟨y, hy, e⟩
  · rw [e]; exact objZ_sh
  · rw [e]; exact (h.ins y hy).sh
theorem Hp.err_at {h : Hp} {x : IdB} {o : ObjD} (hg : h.get x = some o) : (ObjOk o → h.err x = 0 ∧ h.obj x = o) ∧ (¬ ObjOk o → h.err x = 160 ∧ h.obj x = objZ) := by
  unfold Hp.err Hp.obj
  rw [hg]
  exact ⟨fun k => ⟨if_pos k, if_pos k⟩, fun k => ⟨if_neg k, if_neg k⟩⟩
theorem HpIn.objL {w : World} {p : Option Addr} {l : List HeldT} (h : HpIn w p l) (x : IdB) : ObjL w ((toHp l).obj x) (objP l x) := by
  unfold Hp.obj objP
  rw [get_find]
  cases hf : l.find? fun h => decide (h.id = x) with
  | none => exact objZ_l w
  | some e =>
    simp only [Option.map_some]
    split
    · exact (h.ins e (List.mem_of_find?_eq_some hf)).l
    · exact objZ_l w
theorem HpIn.kObjL {w : World} {p : Option Addr} {l : List HeldT} (h : HpIn w p l) (x : IdB) (k : Int) : ObjL w ((toHp l).kObj x k) (kObjP l x k) := by
  unfold Hp.kObj kObjP
  split
  · exact objZ_l w
  · exact h.objL x
theorem Hp.err_no {h : Hp} {x : IdB} (hg : h.get x = none) : h.err x = 4 ∧ h.obj x = objZ := by
  unfold Hp.err Hp.obj
  rw [hg]
  exact ⟨rfl, rfl⟩
theorem get8_calls (w : World) {p : Option Addr} {c : Nat} {l : List HeldT} {x : IdB} (h : HpIn w p l) (hx : IdIn x) :
    CallsV Tryz.prog 41 [.agg #[.slice p l.length c], .agg (bytesU x).toArray] w fun v w' => v = .tuple #[.agg (objC ((toHp l).obj x) (objP l x)).toArray, .int .i64 ((toHp l).err x)] ∧ Ext No w w' := by
  have hlen := h.len
  refine calls_enter Tryz.func41 rfl rfl rfl rfl ?_
  have hX := Ext.refl No w
  refine c_seq (c_region (wl (st_al I_ok rfl fun b2 w1 hn2 hb2 hE1 => ?_)))
  have hX := hX.thenNo hE1
  have hb2 : Blk w1 b2 26 ([.slice p l.length c]) := hb2
  refine wl (st_al I_ok rfl fun b3 w2 hn3 hb3 hE2 => ?_)
  have hb2 := hb2.extNo hE2
  have hX := hX.thenNo hE2
  have hb3 : Blk w2 b3 31 (bytesU x) := hb3
  refine wl (st_al I_ok rfl fun b4 w3 hn4 hb4 hE3 => ?_)
  have fr4 := Nat.le_trans hX.size hn4
  have hb2 := hb2.extNo hE3
  have hb3 := hb3.extNo hE3
  have hX := hX.thenNo hE3
  refine wl_p I_ok rfl (wl_nil (f_then (c_seq (c_seq (c_region (wl_p I_ok rfl (wl (st_ldb I_ok hb2 rfl rfl (wl_p I_ok rfl (wl_nil (f_then (c_block ?_))))))))))))
  refine c_loopK (α := Nat) [3, 4, 9, 10] rfl (fun z => [(11, .int .i64 (z : Int))]) (fun z u => (z ≤ l.length ∧ ∀ k (hk : k < l.length), k < z → ¬ l[k].id = x) ∧ Blk u b2 26 ([.slice p l.length c]) ∧ Blk u b3 31 (bytesU x) ∧ Blk u b4 48 (cellsOf ti48.zero) ∧ Ext No w u) (fun z u => l.length - z) (0) rfl ⟨⟨Nat.zero_le _, fun k _ h => absurd h (Nat.not_lt_zero _)⟩, hb2, hb3, hb4, hX⟩ ?_
  rintro i w4 ⟨⟨hi, hno⟩, hb2, hb3, hb4, hX⟩
  refine c_seq (c_region (wl_p I_ok rfl (wl_nil (f_then (c_seq (c_if rfl (fun hc => ?_) (fun hc => ?_)))))))
  · have hi : i < l.length := by omega
    obtain ⟨qb, qoff, hp, hsq⟩ := h.sl.rowAll h.c (by omega)
    rw [hp] at hb2 ⊢
    have hni := h.ins _ (List.getElem_mem hi)
    refine c_skip (f_then (c_seq (c_block (c_seq (c_region (wl (st_ix I_ok rfl 105 rfl i rfl (by omega) (qoff + i * 105) rfl (wl (st_ldN I_ok rfl ((hsq i hi).extNo hX) hni.c (wl (st_al I_ok rfl fun b7 w5 hn7 hb7 hE5 => ?_)))))))))))
    have ne2_7 : b2 ≠ b7 := Nat.ne_of_lt (Nat.lt_of_lt_of_le hb2.lt hn7)
    have ne3_7 : b3 ≠ b7 := Nat.ne_of_lt (Nat.lt_of_lt_of_le hb3.lt hn7)
    have ne4_7 : b4 ≠ b7 := Nat.ne_of_lt (Nat.lt_of_lt_of_le hb4.lt hn7)
    have fr7 := Nat.le_trans hX.size hn7
    have hb2 := hb2.extNo hE5
    have hb3 := hb3.extNo hE5
    have hb4 := hb4.extNo hE5
    have hX := hX.thenNo hE5
    refine wl (st_stW (l' := heldC l[i]) I_ok hb7 rfl rfl hni.c (by rw [hni.c]; rfl) OneC.h fun w6 hb7 hE6 hs6 => ?_)
    have hb2 := hb2.ext1 hE6 ne2_7
    have hb3 := hb3.ext1 hE6 ne3_7
    have hb4 := hb4.ext1 hE6 ne4_7
    have hX := hX.thenNew hE6 fr7
    refine wl_nil (f_then (c_seq (c_seq (c_region (wl_p I_ok rfl (wl (st_ldN I_ok rfl (held_id hb7.seg) (IdIn.len hni.id) (wl (st_ldB I_ok hb3 rfl hx.len ?_)))))))))
    refine wl (st_eqK rfl gId 10 (by decide) kId (idForm hni.id) (idForm hx) (idKey hni.id) (idKey hx) idLits_inj ?_)
    simp only [Bool.false_eq_true, if_false]
    refine wl_nil (f_then (c_if rfl (fun hc => ?_) (fun hc => ?_)))
    · refine c_exit ?_
      refine f_thenE (f_blockE (f_then (c_region (wl_p I_ok rfl ?_))))
      rw [IntWalk.i64_in _ (by omega)]
      refine wl_nil ?_
      exact f_round (i + 1) rfl ⟨⟨by omega, fun k hk hlt => (Nat.lt_or_eq_of_le (Nat.le_of_lt_succ hlt)).elim (fun h => hno k hk h) fun h => by subst h; exact hc⟩, hb2, hb3, hb4, hX⟩ (by first | omega | (dsimp only; omega))
    · have he : l[i].id = x := Decidable.not_not.1 hc
      have hg := get_at hi hno he
      obtain ⟨e1, e2⟩ := Hp.err_at hg
      obtain ⟨e3, e4⟩ := objP_at hi hno he
      refine c_skip (f_then (c_seq (c_seq (c_region (wl_p I_ok rfl (wl (st_ldN I_ok rfl (held_obj hb7.seg hni.id) (objC_len hni.o) ?_)))))))
      refine wl (st_call Tryz.call59 rfl rfl rfl rfl rfl rfl (right6_calls w6 hni.o (hni.l.extNo hX) hni.sh) fun v7 w7 hr7 => ?_)
      obtain ⟨rfl, hE7⟩ := hr7
      have hb4 := hb4.extNo hE7
      have hb7 := hb7.extNo hE7
      have hX := hX.thenNo hE7
      refine wl_p I_ok rfl (wl_nil (f_then (c_cond rfl (fun hc => ?_) (fun hc => ?_))))
      · have hk : ¬ ObjOk l[i].o := by simpa using hc
        obtain ⟨e1, e2⟩ := e2 hk
        have e3 := e4 hk
        refine c_seq (c_region (wl (st_bd I_ok rfl trivial (l' := objC objZ noP) objZ_c.symm (wl (st_stW (l' := objC objZ noP) I_ok hb4 rfl rfl rfl rfl OneC.h fun w8 hb4 hE8 hs8 => ?_)))))
        have hX := hX.thenNew hE8 fr4
        refine wl_p I_ok rfl (wl_nil (f_then (c_ret (f_thenR (f_blockR (f_thenR (f_thenR (f_blockR (f_thenR (f_ret [_, _] ⟨⟨b4, 0, rfl, ld_all I_ok rfl rfl hb4.seg rfl⟩, rfl, trivial⟩ ?_))))))))))
        exact ⟨by rw [e1, e2, e3]; rfl, hX⟩
      · have hk : ObjOk l[i].o := by simpa using hc
        obtain ⟨e1, e2⟩ := e1 hk
        have e3 := e3 hk
        refine c_skip (f_then (c_seq (c_region (wl_p I_ok rfl (wl (st_ldN I_ok rfl (held_obj hb7.seg hni.id) (objC_len hni.o) ?_))))))
        refine wl (st_stW (l' := objC l[i].o l[i].a) I_ok hb4 rfl rfl (objC_len hni.o) (by rw [objC_len hni.o]; rfl) OneC.h fun w9 hb4 hE9 hs9 => ?_)
        have hX := hX.thenNew hE9 fr4
        refine wl_p I_ok rfl (wl_nil (f_then (c_ret (f_blockR (f_thenR (f_thenR (f_blockR (f_thenR (f_ret [_, _] ⟨⟨b4, 0, rfl, ld_all I_ok rfl rfl hb4.seg (by rw [objC_len hni.o]; rfl)⟩, rfl, trivial⟩ ?_)))))))))
        exact ⟨by rw [e1, e2, e3]; rfl, hX⟩
  · have hi0 : i = l.length := by omega
    subst hi0
    have hg := get_no hno
    obtain ⟨e1, e2⟩ := Hp.err_no hg
    have e3 := objP_no hno
    refine c_exit (f_thenE (f_thenE (f_blockE (f_then (c_seq (c_region (wl (st_bd I_ok rfl trivial (l' := objC objZ noP) objZ_c.symm (wl (st_stW (l' := objC objZ noP) I_ok hb4 rfl rfl rfl rfl OneC.h fun w10 hb4 hE10 hs10 => ?_))))))))))
    have hX := hX.thenNew hE10 fr4
    refine wl_p I_ok rfl (wl_nil (f_then (c_ret (f_ret [_, _] ⟨⟨b4, 0, rfl, ld_all I_ok rfl rfl hb4.seg rfl⟩, rfl, trivial⟩ ?_))))
    exact ⟨by rw [e1, e2, e3]; rfl, hX⟩
end Go.Proofs.YtpcdihkcenfgkaaGreat
namespace Go.Proofs.YtpcdihkcenfgkaaGreat
open Go.Vc
theorem HpIn.kIn {w : World} {p : Option Addr} {l : List HeldT} (h : HpIn w p l) (x : IdB) (k : Int) : ObjIn ((toHp l).kObj x k) := by
  unfold Hp.kObj
  split
  · exact objZ_in
  · exact h.objIn x
theorem HpIn.kSh {w : World} {p : Option Addr} {l : List HeldT} (h : HpIn w p l) (x : IdB) (k : Int) : Short ((toHp l).kObj x k) := by
  unfold Hp.kObj
  split
  · exact objZ_sh
  · exact h.objSh x
theorem of8_calls (w : World) {p : Option Addr} {c : Nat} {l : List HeldT} {x : IdB} (h : HpIn w p l) (hx : IdIn x) (kd : Int) :
    CallsV Tryz.prog 66 [.agg #[.slice p l.length c], .agg (bytesU x).toArray, .int .i64 kd] w fun v w' => v = .tuple #[.agg (objC ((toHp l).kObj x kd) (kObjP l x kd)).toArray, .int .i64 ((toHp l).kErr x kd)] ∧ Ext No w w' := by
  refine calls_enter Tryz.func66 rfl rfl rfl rfl ?_
  have hX := Ext.refl No w
  refine c_seq (c_region (wl (st_al I_ok rfl fun b3 w1 hn3 hb3 hE1 => ?_)))
  have hX := hX.thenNo hE1
  have hb3 : Blk w1 b3 26 ([.slice p l.length c]) := hb3
  refine wl (st_al I_ok rfl fun b4 w2 hn4 hb4 hE2 => ?_)
  have hb3 := hb3.extNo hE2
  have hX := hX.thenNo hE2
  have hb4 : Blk w2 b4 31 (bytesU x) := hb4
  refine wl (st_al I_ok rfl fun b6 w3 hn6 hb6 hE3 => ?_)
  have fr6 := Nat.le_trans hX.size hn6
  have hb3 := hb3.extNo hE3
  have hb4 := hb4.extNo hE3
  have hX := hX.thenNo hE3
  refine wl_p I_ok rfl (wl_nil (f_then (c_seq (c_region (wl (st_ldB I_ok hb3 rfl rfl (wl (st_ldB I_ok hb4 rfl (IdIn.len hx) (wl (st_call Tryz.call41 rfl rfl rfl rfl rfl rfl (get8_calls w3 (h.extNo hX) hx) fun v4 w4 hr4 => ?_))))))))))
  obtain ⟨rfl, hE4⟩ := hr4
  have hb6 := hb6.extNo hE4
  have hX := hX.thenNo hE4
  refine wl_p I_ok rfl (wl (st_al I_ok rfl fun b8 w5 hn8 hb8 hE5 => ?_))
  have ne6_8 : b6 ≠ b8 := Nat.ne_of_lt (Nat.lt_of_lt_of_le hb6.lt hn8)
  have fr8 := Nat.le_trans hX.size hn8
  have hb6 := hb6.extNo hE5
  have hX := hX.thenNo hE5
  refine wl (st_stW (l' := objC ((toHp l).obj x) (objP l x)) I_ok hb8 rfl rfl (objC_len (h.objIn x)) (by rw [objC_len (h.objIn x)]; rfl) OneC.h fun w6 hb8 hE6 hs6 => ?_)
  have hb6 := hb6.ext1 hE6 ne6_8
  have hX := hX.thenNew hE6 fr8
  refine wl_p I_ok rfl (wl_nil (f_then (c_seq (c_cutK (α := Bool) [6, 8, 9] rfl (fun z => [(23, .bool z)]) (fun z u => u = w6 ∧ z = decide ((toHp l).err x = 0 ∧ ((toHp l).obj x).kind ≠ kd)) ?_ ?_))))
  · refine c_region ?_
    refine wl_p I_ok rfl (wl_caseD 18 rfl (fun hg => ?_) (fun hg => ?_))
    · refine wl_pk I_ok 1 rfl ?_
      refine wl (st_ld I_ok rfl (hb8.seg.obj (h.objIn x)).kind (wl_pk I_ok 3 rfl (wl_nil ?_)))
      exact f_cut (_) rfl ⟨rfl, by rw [decide_eq_decide]; exact ⟨fun k => ⟨hg, k⟩, fun k => k.2⟩⟩
    · refine wl_pk I_ok 5 rfl ?_
      refine wl_nil ?_
      exact f_cut (false) rfl ⟨rfl, by symm; rw [decide_eq_false_iff_not]; exact fun k => hg k.1⟩
  rintro z w7 ⟨hu, rfl⟩
  have hu := hu.symm
  subst hu
  refine c_if rfl (fun hc => ?_) (fun hc => ?_)
  · have e1 : (toHp l).kErr x kd = 160 := if_pos hc
    have e2 : (toHp l).kObj x kd = objZ := if_pos hc
    have e3 : kObjP l x kd = noP := if_pos hc
    refine c_seq (c_region (wl (st_bd I_ok rfl trivial (l' := objC objZ noP) objZ_c.symm (wl (st_stW (l' := objC objZ noP) I_ok hb6 rfl rfl rfl rfl OneC.h fun w8 hb6 hE8 hs8 => ?_)))))
    have hX := hX.thenNew hE8 fr6
    refine wl_p I_ok rfl (wl_nil (f_then (c_ret (f_thenR (f_ret [_, _] ⟨⟨b6, 0, rfl, ld_all I_ok rfl rfl hb6.seg rfl⟩, rfl, trivial⟩ ?_)))))
    exact ⟨by rw [e1, e2, e3]; rfl, hX⟩
  · have e1 : (toHp l).kErr x kd = (toHp l).err x := if_neg hc
    have e2 : (toHp l).kObj x kd = (toHp l).obj x := if_neg hc
    have e3 : kObjP l x kd = objP l x := if_neg hc
    refine c_skip (f_then (c_seq (c_region (wl (st_ldB I_ok hb8 rfl (objC_len (h.objIn x)) (wl_p I_ok rfl ?_))))))
    refine wl (st_stW (l' := objC ((toHp l).obj x) (objP l x)) I_ok hb6 rfl rfl (objC_len (h.objIn x)) (by rw [objC_len (h.objIn x)]; rfl) OneC.h fun w9 hb6 hE9 hs9 => ?_)
    have hX := hX.thenNew hE9 fr6
    refine wl_p I_ok rfl (wl_nil (f_then (c_ret (f_ret [_, _] ⟨⟨b6, 0, rfl, ld_all I_ok rfl rfl hb6.seg (by rw [objC_len (h.objIn x)]; rfl)⟩, rfl, trivial⟩ ?_))))
    exact ⟨by rw [e1, e2, e3]; rfl, hX⟩

theorem commit8_calls (w : World) {p : Option Addr} {c : Nat} {l : List HeldT} {x : IdB} (h : HpIn w p l) (hx : IdIn x) :
    CallsV Tryz.prog 31 [.agg #[.slice p l.length c], .agg (bytesU x).toArray] w fun v w' => v = .tuple #[.agg (objC ((toHp l).kObj x 3) (kObjP l x 3)).toArray, .int .i64 ((toHp l).kErr x 3)] ∧ Ext No w w' := by
  refine calls_enter Tryz.func31 rfl rfl rfl rfl ?_
  have hX := Ext.refl No w
  refine c_seq (c_region (wl (st_al I_ok rfl fun b2 w1 hn2 hb2 hE1 => ?_)))
  have hX := hX.thenNo hE1
  have hb2 : Blk w1 b2 26 ([.slice p l.length c]) := hb2
  refine wl (st_al I_ok rfl fun b3 w2 hn3 hb3 hE2 => ?_)
  have hb2 := hb2.extNo hE2
  have hX := hX.thenNo hE2
  have hb3 : Blk w2 b3 31 (bytesU x) := hb3
  refine wl (st_al I_ok rfl fun b4 w3 hn4 hb4 hE3 => ?_)
  have fr4 := Nat.le_trans hX.size hn4
  have hb2 := hb2.extNo hE3
  have hb3 := hb3.extNo hE3
  have hX := hX.thenNo hE3
  refine wl_p I_ok rfl (wl_nil (f_then (c_seq (c_region (wl (st_ldB I_ok hb2 rfl rfl (wl (st_ldB I_ok hb3 rfl (IdIn.len hx) (wl (st_call Tryz.call66 rfl rfl rfl rfl rfl rfl (of8_calls w3 (h.extNo hX) hx 3) fun v4 w4 hr4 => ?_))))))))))
  obtain ⟨rfl, hE4⟩ := hr4
  have hb4 := hb4.extNo hE4
  have hX := hX.thenNo hE4
  refine wl_p I_ok rfl (wl (st_stW (l' := objC ((toHp l).kObj x 3) (kObjP l x 3)) I_ok hb4 rfl rfl (objC_len (h.kIn x 3)) (by rw [objC_len (h.kIn x 3)]; rfl) OneC.h fun w5 hb4 hE5 hs5 => ?_))
  have hX := hX.thenNew hE5 fr4
  refine wl_p I_ok rfl (wl_nil (f_then (c_ret (f_ret [_, _] ⟨⟨b4, 0, rfl, ld_all I_ok rfl rfl hb4.seg (by rw [objC_len (h.kIn x 3)]; rfl)⟩, rfl, trivial⟩ ?_))))
  exact ⟨rfl, hX⟩

end Go.Proofs.YtpcdihkcenfgkaaGreat
namespace Go.Proofs.YtpcdihkcenfgkaaGreat
open Go.Vc
theorem bl_at : ∀ (i : Nat) (a b : List UInt8) (ha : i < a.length) (hb : i < b.length), (∀ k (h1 : k < a.length) (h2 : k < b.length), k < i → a[k] = b[k]) → a[i] ≠ b[i] → Op.bytesLess a b = decide (a[i] < b[i])
  | 0, x :: a, y :: b, _, _, _, hne => by
    have hne : x ≠ y := hne
    show (decide (x < y) || (x == y && Op.bytesLess a b)) = decide (x < y)
    rw [show (x == y) = false from by simpa using hne]
    simp
  | i + 1, x :: a, y :: b, ha, hb, hk, hne => by
    have h0 : x = y := hk 0 (by simp) (by simp) (by omega)
    subst h0
    have ha' : i < a.length := by simpa using ha
    have hb' : i < b.length := by simpa using hb
    show (decide (x < x) || (x == x && Op.bytesLess a b)) = decide (a[i] < b[i])
    rw [bl_at i a b (by simpa using ha) (by simpa using hb) (fun k h1 h2 hlt => by have := hk (k + 1) (by simpa using h1) (by simpa using h2) (by omega); simpa using this) (by simpa using hne)]
    simp
theorem byte_ne {a b : UInt8} : (¬ ((a.toNat : Int) = (b.toNat : Int))) ↔ a ≠ b := by
  rw [Int.ofNat_inj, UInt8.toNat_inj]
theorem byte_lt {a b : UInt8} : ((a.toNat : Int) < (b.toNat : Int)) ↔ a < b := by
  rw [Int.ofNat_lt]; exact UInt8.lt_iff_toNat_lt.symm
theorem less8_calls (w : World) {x y : IdB} (hx : x.length = 32) (hy : y.length = 32) :
    CallsV Tryz.prog 104 [.agg (bytesU x).toArray, .agg (bytesU y).toArray] w fun v w' => v = .bool (decide (idLt x y)) ∧ Ext No w w' := by
  refine calls_enter Tryz.func104 rfl rfl rfl rfl ?_
  have hX := Ext.refl No w
  refine c_seq (c_region (wl (st_al I_ok rfl fun b2 w1 hn2 hb2 hE1 => ?_)))
  have hX := hX.thenNo hE1
  have hb2 : Blk w1 b2 31 (bytesU x) := hb2
  refine wl (st_al I_ok rfl fun b3 w2 hn3 hb3 hE2 => ?_)
  have hb2 := hb2.extNo hE2
  have hX := hX.thenNo hE2
  have hb3 : Blk w2 b3 31 (bytesU y) := hb3
  refine wl_p I_ok rfl (wl_nil (f_then (c_seq (c_seq (c_region (wl_p I_ok rfl (wl_nil (f_then (c_block ?_)))))))))
  refine c_loopK (α := Nat) [2, 3] rfl (fun z => [(6, .int .i64 (z : Int))]) (fun z u => (z ≤ 32 ∧ ∀ k (h1 : k < x.length) (h2 : k < y.length), k < z → x[k] = y[k]) ∧ Blk u b2 31 (bytesU x) ∧ Blk u b3 31 (bytesU y) ∧ Ext No w u) (fun z u => 32 - z) (0) rfl ⟨⟨Nat.zero_le _, fun k _ _ h => absurd h (Nat.not_lt_zero _)⟩, hb2, hb3, hX⟩ ?_
  rintro i w3 ⟨⟨hi32, hno⟩, hb2, hb3, hX⟩
  refine c_seq (c_region (wl_p I_ok rfl (wl_nil (f_then (c_seq (c_if rfl (fun hc => ?_) (fun hc => ?_)))))))
  · have hi : i < 32 := by omega
    have hix : i < x.length := by omega
    have hiy : i < y.length := by omega
    refine c_skip (f_then (c_seq (c_block (c_seq (c_region (wl_p I_ok rfl (wl_nil (f_then (c_seq (c_draw rfl 7 [(0, true), (1, true), (2, true), (3, true), (4, true), (5, true), (6, true)] [] (No) (by kernel_rfl) fun w4 hE4 hs4 => ?_))))))))))
    have hd2 := hb2
    have hd3 := hb3
    have hb2 := hb2.extNo hE4
    have hb3 := hb3.extNo hE4
    have hX := hX.thenNo hE4
    refine wd_k I_ok 1 rfl (wd_ix I_ok rfl rfl 1 rfl i (by omega) (by omega) (0 + i) (by omega) (wd_ld I_ok rfl rfl (fun w' hw' => ((hd2.extNo hw').seg i _ (bytesU_get x (by rw [hx]; exact hi)))) ?_))
    refine wd_k I_ok 1 rfl (wd_ix I_ok rfl rfl 1 rfl i (by omega) (by omega) (0 + i) (by omega) (wd_ld I_ok rfl rfl (fun w' hw' => ((hd3.extNo hw').seg i _ (bytesU_get y (by rw [hy]; exact hi)))) ?_))
    refine wd_k I_ok 1 rfl (wd_sw (wb_nil (f_then (c_if rfl (fun hc => ?_) (fun hc => ?_)))))
    · have hne : x[i] ≠ y[i] := byte_ne.1 hc
      refine c_seq (c_draw rfl 8 [(0, true), (1, true), (2, true), (3, true), (4, true), (5, true), (6, true), (7, true)] [] (No) (by kernel_rfl) fun w5 hE5 hs5 => ?_)
      have hd2 := hb2
      have hd3 := hb3
      have hX := hX.thenNo hE5
      refine wd_k I_ok 1 rfl (wd_ix I_ok rfl rfl 1 rfl i (by omega) (by omega) (0 + i) (by omega) (wd_ld I_ok rfl rfl (fun w' hw' => ((hd2.extNo hw').seg i _ (bytesU_get x (by rw [hx]; exact hi)))) ?_))
      refine wd_k I_ok 1 rfl (wd_ix I_ok rfl rfl 1 rfl i (by omega) (by omega) (0 + i) (by omega) (wd_ld I_ok rfl rfl (fun w' hw' => ((hd3.extNo hw').seg i _ (bytesU_get y (by rw [hy]; exact hi)))) ?_))
      refine wd_k I_ok 2 rfl (wd_sw (wb_nil (f_then (c_ret (f_blockR (f_thenR (f_thenR (f_blockR (f_thenR (f_ret1 rfl rfl ?_))))))))))
      exact ⟨congrArg Value.bool (by rw [decide_eq_decide, byte_lt, idLt, bl_at i x y hix hiy hno hne, decide_eq_true_eq]), hX⟩
    · have he : x[i] = y[i] := Decidable.not_not.1 fun k => hc (byte_ne.2 k)
      refine c_skip (f_blockN (f_then (c_region (wl_p I_ok rfl ?_))))
      rw [IntWalk.i64_in _ (by omega)]
      refine wl_nil ?_
      exact f_round (i + 1) rfl ⟨⟨by omega, fun k h1 h2 hlt => (Nat.lt_or_eq_of_le (Nat.le_of_lt_succ hlt)).elim (fun h => hno k h1 h2 h) fun h => by subst h; exact he⟩, hb2, hb3, hX⟩ (by first | omega | (dsimp only; omega))
  · have h0 : i = 32 := by omega
    subst h0
    have hxy : x = y := List.ext_getElem (by omega) fun k h1 h2 => hno k h1 h2 (by omega)
    refine c_exit (f_thenE (f_thenE (f_blockE (f_then (c_seq (c_region (wl_p I_ok rfl (wl_nil (f_then (c_ret (f_ret1 rfl rfl ?_)))))))))))
    exact ⟨congrArg Value.bool (by symm; rw [decide_eq_false_iff_not, hxy]; exact idLt_irrefl y), hX⟩

theorem has8_calls (w : World) {p : Option Addr} {c : Nat} {l : List IdB} {x : IdB} (h : Sl w p l.length 32 (l.flatMap bytesU)) (hl : l.length < 1000000000) (h1 : ∀ r ∈ l, IdIn r) (hx : IdIn x) :
    CallsV Tryz.prog 47 [.slice p l.length c, .agg (bytesU x).toArray] w fun v w' => v = .bool (decide (x ∈ l)) ∧ Ext No w w' := by
  refine calls_enter Tryz.func47 rfl rfl rfl rfl ?_
  have hX := Ext.refl No w
  refine c_seq (c_region (wl (st_al I_ok rfl fun b3 w1 hn3 hb3 hE1 => ?_)))
  have hX := hX.thenNo hE1
  have hb3 : Blk w1 b3 31 (bytesU x) := hb3
  refine wl_p I_ok rfl (wl_nil (f_then (c_seq (c_seq (c_region (wl_p I_ok rfl (wl_nil (f_then (c_block ?_)))))))))
  refine c_loopK (α := Nat) [3, 7, 8] rfl (fun z => [(9, .int .i64 (z : Int))]) (fun z u => (z ≤ l.length ∧ ∀ k (hk : k < l.length), k < z → ¬ l[k] = x) ∧ Blk u b3 31 (bytesU x) ∧ Ext No w u) (fun z u => l.length - z) (0) rfl ⟨⟨Nat.zero_le _, fun k _ h => absurd h (Nat.not_lt_zero _)⟩, hb3, hX⟩ ?_
  rintro i w2 ⟨⟨hi, hno⟩, hb3, hX⟩
  refine c_seq (c_region (wl_p I_ok rfl (wl_nil (f_then (c_seq (c_if rfl (fun hc => ?_) (fun hc => ?_)))))))
  · have hi : i < l.length := by omega
    obtain ⟨qb, qoff, hp, hsq⟩ := h.rowAll (fun r hr => (h1 r hr).len) (by omega)
    subst hp
    have ha1 := h1 _ (List.getElem_mem hi)
    refine c_skip (f_then (c_seq (c_block (c_seq (c_region (wl (st_ix I_ok rfl 32 rfl i rfl (by omega) (qoff + i * 32) rfl (wl (st_ldN I_ok rfl ((hsq i hi).extNo hX) ha1.len (wl (st_al I_ok rfl fun b6 w3 hn6 hb6 hE3 => ?_)))))))))))
    have ne3_6 : b3 ≠ b6 := Nat.ne_of_lt (Nat.lt_of_lt_of_le hb3.lt hn6)
    have fr6 := Nat.le_trans hX.size hn6
    have hb3 := hb3.extNo hE3
    have hX := hX.thenNo hE3
    refine wl (st_stW (l' := bytesU l[i]) I_ok hb6 rfl rfl ha1.len (by rw [bytesU_len, ha1]; rfl) OneC.h fun w4 hb6 hE4 hs4 => ?_)
    have hb3 := hb3.ext1 hE4 ne3_6
    have hX := hX.thenNew hE4 fr6
    refine wl_nil (f_then (c_seq (c_region (wl (st_ldB I_ok hb6 rfl ha1.len (wl (st_ldB I_ok hb3 rfl hx.len (wl (st_eqK rfl gId 10 (by decide) kId (idForm ha1) (idForm hx) (idKey ha1) (idKey hx) idLits_inj ?_)))))))))
    simp only [if_true]
    refine wl_nil (f_then (c_if rfl (fun hc => ?_) (fun hc => ?_)))
    · refine c_seq ?_
      refine c_region (wl_p I_ok rfl (wl_nil (f_then (c_ret (f_blockR (f_thenR (f_thenR (f_blockR (f_thenR (f_ret1 rfl rfl ?_))))))))))
      exact ⟨congrArg Value.bool (by symm; rw [decide_eq_true_eq]; exact hc ▸ List.getElem_mem hi), hX⟩
    · refine c_skip ?_
      refine f_blockN (f_then (c_region (wl_p I_ok rfl ?_)))
      rw [IntWalk.i64_in _ (by omega)]
      refine wl_nil ?_
      exact f_round (i + 1) rfl ⟨⟨by omega, fun k hk hlt => (Nat.lt_or_eq_of_le (Nat.le_of_lt_succ hlt)).elim (fun h => hno k hk h) fun h => by subst h; exact hc⟩, hb3, hX⟩ (by first | omega | (dsimp only; omega))
  · have hall : ¬ x ∈ l := fun hr => by
      obtain ⟨k, hk, e⟩ := List.mem_iff_getElem.1 hr
      exact hno k hk (by omega) e
    refine c_exit (f_thenE (f_thenE (f_blockE (f_then (c_seq (c_region (wl_p I_ok rfl (wl_nil (f_then (c_ret (f_ret1 rfl rfl ?_)))))))))))
    exact ⟨congrArg Value.bool (by symm; rw [decide_eq_false_iff_not]; exact hall), hX⟩

theorem there8_calls (w : World) {p : Option Addr} {c : Nat} {l : List HeldT} {x : IdB} (h : HpIn w p l) (hx : IdIn x) :
    CallsV Tryz.prog 67 [.agg #[.slice p l.length c], .agg (bytesU x).toArray] w fun v w' => v = .bool (decide (x ∈ l.map HeldT.id)) ∧ Ext No w w' := by
  have hlen := h.len
  refine calls_enter Tryz.func67 rfl rfl rfl rfl ?_
  have hX := Ext.refl No w
  refine c_seq (c_region (wl (st_al I_ok rfl fun b2 w1 hn2 hb2 hE1 => ?_)))
  have hX := hX.thenNo hE1
  have hb2 : Blk w1 b2 26 ([.slice p l.length c]) := hb2
  refine wl (st_al I_ok rfl fun b3 w2 hn3 hb3 hE2 => ?_)
  have hb2 := hb2.extNo hE2
  have hX := hX.thenNo hE2
  have hb3 : Blk w2 b3 31 (bytesU x) := hb3
  refine wl_p I_ok rfl (wl_nil (f_then (c_seq (c_seq (c_region (wl_p I_ok rfl (wl (st_ldb I_ok hb2 rfl rfl (wl_p I_ok rfl (wl_nil (f_then (c_block ?_))))))))))))
  refine c_loopK (α := Nat) [3, 8, 9] rfl (fun z => [(10, .int .i64 (z : Int))]) (fun z u => (z ≤ l.length ∧ ∀ k (hk : k < l.length), k < z → ¬ l[k].id = x) ∧ Blk u b2 26 ([.slice p l.length c]) ∧ Blk u b3 31 (bytesU x) ∧ Ext No w u) (fun z u => l.length - z) (0) rfl ⟨⟨Nat.zero_le _, fun k _ h => absurd h (Nat.not_lt_zero _)⟩, hb2, hb3, hX⟩ ?_
  rintro i w3 ⟨⟨hi, hno⟩, hb2, hb3, hX⟩
  refine c_seq (c_region (wl_p I_ok rfl (wl_nil (f_then (c_seq (c_if rfl (fun hc => ?_) (fun hc => ?_)))))))
  · have hi : i < l.length := by omega
    obtain ⟨qb, qoff, hp, hsq⟩ := h.sl.rowAll h.c (by omega)
    rw [hp] at hb2 ⊢
    have hni := h.ins _ (List.getElem_mem hi)
    refine c_skip (f_then (c_seq (c_block (c_seq (c_region (wl (st_ix I_ok rfl 105 rfl i rfl (by omega) (qoff + i * 105) rfl (wl (st_ldN I_ok rfl ((hsq i hi).extNo hX) hni.c (wl (st_al I_ok rfl fun b6 w4 hn6 hb6 hE4 => ?_)))))))))))
    have ne2_6 : b2 ≠ b6 := Nat.ne_of_lt (Nat.lt_of_lt_of_le hb2.lt hn6)
    have ne3_6 : b3 ≠ b6 := Nat.ne_of_lt (Nat.lt_of_lt_of_le hb3.lt hn6)
    have fr6 := Nat.le_trans hX.size hn6
    have hb2 := hb2.extNo hE4
    have hb3 := hb3.extNo hE4
    have hX := hX.thenNo hE4
    refine wl (st_stW (l' := heldC l[i]) I_ok hb6 rfl rfl hni.c (by rw [hni.c]; rfl) OneC.h fun w5 hb6 hE5 hs5 => ?_)
    have hb2 := hb2.ext1 hE5 ne2_6
    have hb3 := hb3.ext1 hE5 ne3_6
    have hX := hX.thenNew hE5 fr6
    refine wl_nil (f_then (c_seq (c_region (wl_p I_ok rfl (wl (st_ldN I_ok rfl (held_id hb6.seg) (IdIn.len hni.id) (wl (st_ldB I_ok hb3 rfl hx.len ?_))))))))
    refine wl (st_eqK rfl gId 10 (by decide) kId (idForm hni.id) (idForm hx) (idKey hni.id) (idKey hx) idLits_inj ?_)
    simp only [if_true]
    refine wl_nil (f_then (c_if rfl (fun hc => ?_) (fun hc => ?_)))
    · refine c_seq ?_
      refine c_region (wl_p I_ok rfl (wl_nil (f_then (c_ret (f_blockR (f_thenR (f_thenR (f_blockR (f_thenR (f_ret1 rfl rfl ?_))))))))))
      exact ⟨congrArg Value.bool (by symm; rw [decide_eq_true_eq]; exact List.mem_map.2 ⟨_, List.getElem_mem hi, hc⟩), hX⟩
    · refine c_skip ?_
      refine f_blockN (f_then (c_region (wl_p I_ok rfl ?_)))
      rw [IntWalk.i64_in _ (by omega)]
      refine wl_nil ?_
      exact f_round (i + 1) rfl ⟨⟨by omega, fun k hk hlt => (Nat.lt_or_eq_of_le (Nat.le_of_lt_succ hlt)).elim (fun h => hno k hk h) fun h => by subst h; exact hc⟩, hb2, hb3, hX⟩ (by first | omega | (dsimp only; omega))
  · have hall : ¬ x ∈ l.map HeldT.id := fun hr => by
      obtain ⟨y, hy, e⟩ := List.mem_map.1 hr
      obtain ⟨k, hk, rfl⟩ := List.mem_iff_getElem.1 hy
      exact hno k hk (by omega) e
    refine c_exit (f_thenE (f_thenE (f_blockE (f_then (c_seq (c_region (wl_p I_ok rfl (wl_nil (f_then (c_ret (f_ret1 rfl rfl ?_)))))))))))
    exact ⟨congrArg Value.bool (by symm; rw [decide_eq_false_iff_not]; exact hall), hX⟩
/-- what With has of the first i -/
def doneAt (l : List IdB) (x : IdB) (i : Nat) : Bool := (l.take i).any fun z => decide (idLt x z)
def withAt (l : List IdB) (x : IdB) (i : Nat) : List IdB := if doneAt l x i = true then insId (l.take i) x else l.take i
def midAt (l : List IdB) (x : IdB) (i : Nat) (y : IdB) : List IdB := if doneAt l x i = false ∧ idLt x y then l.take i ++ [x] else withAt l x i
theorem doneAt_succ {l : List IdB} {x : IdB} {i : Nat} (hi : i < l.length) : doneAt l x (i + 1) = (doneAt l x i || decide (idLt x l[i])) := by
  unfold doneAt
  rw [List.take_succ_eq_append_getElem hi, List.any_append]
  simp
theorem doneAt_iff {l : List IdB} {x : IdB} {i : Nat} : doneAt l x i = true ↔ ∃ z ∈ l.take i, idLt x z := by
  unfold doneAt
  rw [List.any_eq_true]
  simp
theorem withAt_succ {l : List IdB} {x : IdB} {i : Nat} (hi : i < l.length) : withAt l x (i + 1) = midAt l x i l[i] ++ [l[i]] := by
  unfold midAt withAt
  rw [doneAt_succ hi, List.take_succ_eq_append_getElem hi]
  cases hd : doneAt l x i
  · have hn : ∀ z ∈ l.take i, ¬ idLt x z := fun z hz hl => by
      have := doneAt_iff.2 ⟨z, hz, hl⟩
      rw [hd] at this; cases this
    by_cases hl : idLt x l[i]
    · rw [if_pos (by simp [hl]), if_pos ⟨rfl, hl⟩, insId_now x _ hl _ hn, List.append_assoc]; rfl
    · rw [if_neg (by simp [hl]), if_neg (fun h => hl h.2), if_neg (by simp)]
  · rw [if_pos (by simp), if_neg (by simp), if_pos rfl, insId_snoc x _ _ (doneAt_iff.1 hd)]
theorem withAt_all {l : List IdB} {x : IdB} (hx : ¬ x ∈ l) : withId l x = if doneAt l x l.length = true then withAt l x l.length else withAt l x l.length ++ [x] := by
  unfold withId withAt
  rw [if_neg hx, List.take_length]
  by_cases hd : doneAt l x l.length = true
  · rw [if_pos hd, if_pos hd]
  · rw [if_neg hd, if_neg hd, insId_end x l fun z hz hl => hd (doneAt_iff.2 ⟨z, by rw [List.take_length]; exact hz, hl⟩)]
theorem withAt_len (l : List IdB) (x : IdB) (i : Nat) : (withAt l x i).length ≤ l.length + 1 := by
  unfold withAt
  split
  · rw [insId_len, List.length_take]; omega
  · rw [List.length_take]; omega
theorem midAt_len (l : List IdB) (x : IdB) (i : Nat) (y : IdB) : (midAt l x i y).length ≤ l.length + 1 := by
  unfold midAt
  split
  · rw [List.length_append, List.length_take]; simp; omega
  · exact withAt_len l x i
theorem with8_calls (w : World) {p : Option Addr} {c : Nat} {l : List IdB} {x : IdB} (h : Sl w p l.length 32 (l.flatMap bytesU)) (hl : l.length < 100000000) (h1 : ∀ r ∈ l, IdIn r) (hx : IdIn x) :
    CallsV Tryz.prog 75 [.slice p l.length c, .agg (bytesU x).toArray] w fun v w' => ∃ q k, v = .slice q (withId l x).length k ∧ Sl w' q (withId l x).length 32 ((withId l x).flatMap bytesU) ∧ Ext No w w' := by
  refine calls_enter Tryz.func75 rfl rfl rfl rfl ?_
  have hX := Ext.refl No w
  refine c_seq (c_region (wl (st_al I_ok rfl fun b3 w1 hn3 hb3 hE1 => ?_)))
  have hX := hX.thenNo hE1
  have hb3 : Blk w1 b3 31 (bytesU x) := hb3
  refine wl_p I_ok rfl (wl_nil (f_then (c_seq (c_region (wl_p I_ok rfl (wl_nil (f_then (c_seq (c_region (wl_p I_ok rfl (wl_nil (f_then (c_seq (c_seq (c_region (wl_p I_ok rfl (wl_nil (f_then (c_block ?_)))))))))))))))))))
  refine c_loopK (α := Nat × Option Addr × Nat) [0, 3, 9, 10] rfl (fun z => [(5, .slice z.2.1 (withAt l x z.1).length z.2.2), (6, .bool (doneAt l x z.1)), (11, .int .i64 (z.1 : Int))]) (fun z u => (z.1 ≤ l.length ∧ (∀ k (hk : k < l.length), k < z.1 → ¬ l[k] = x) ∧ Own u z.2.1 (withAt l x z.1).length z.2.2 31 32 ((withAt l x z.1).flatMap bytesU) ∧ (∀ y, OwnB z.2.1 y → b3 < y)) ∧ Blk u b3 31 (bytesU x) ∧ Ext No w u) (fun z u => l.length - z.1) (0, none, 0) rfl ⟨⟨Nat.zero_le _, fun k _ h => absurd h (Nat.not_lt_zero _), Own.nil _ _ _, noOwn⟩, hb3, hX⟩ ?_
  rintro ⟨i, q, k⟩ w2 ⟨⟨hi, hno, hq, hqn⟩, hb3, hX⟩
  try dsimp only
  dsimp only at hi hno hq hqn
  refine c_seq (c_region (wl_p I_ok rfl (wl_nil (f_then (c_seq (c_if rfl (fun hc => ?_) (fun hc => ?_)))))))
  · have hi : i < l.length := by omega
    obtain ⟨qb, qoff, hp, hsq⟩ := h.rowAll (fun r hr => (h1 r hr).len) (by omega)
    subst hp
    have ha1 := h1 _ (List.getElem_mem hi)
    have hq0 := hq
    refine c_skip (f_then (c_seq (c_block (c_seq (c_region (wl (st_ix I_ok rfl 32 rfl i rfl (by omega) (qoff + i * 32) rfl (wl (st_ldN I_ok rfl ((hsq i hi).extNo hX) ha1.len (wl (st_al I_ok rfl fun b8 w3 hn8 hb8 hE3 => ?_)))))))))))
    have ne3_8 : b3 ≠ b8 := Nat.ne_of_lt (Nat.lt_of_lt_of_le hb3.lt hn8)
    have fr8 := Nat.le_trans hX.size hn8
    have hb3 := hb3.extNo hE3
    have hq := hq.ext hE3 fun _ _ => id
    have hX := hX.thenNo hE3
    have ne8 : ∀ y, OwnB q y → y ≠ b8 := fun y hy => Nat.ne_of_lt (Nat.lt_of_lt_of_le (hq0.lt hy) hn8)
    refine wl (st_stW (l' := bytesU l[i]) I_ok hb8 rfl rfl ha1.len (by rw [bytesU_len, ha1]; rfl) OneC.h fun w4 hb8 hE4 hs4 => ?_)
    have hb3 := hb3.ext1 hE4 ne3_8
    have hq := hq.ext hE4 (fun y hy => ne8 y hy)
    have hX := hX.thenNew hE4 fr8
    refine wl_nil (f_then (c_seq (c_seq (c_region (wl (st_ldB I_ok hb8 rfl ha1.len (wl (st_ldB I_ok hb3 rfl hx.len (wl (st_eqK rfl gId 10 (by decide) kId (idForm ha1) (idForm hx) (idKey ha1) (idKey hx) idLits_inj ?_))))))))))
    simp only [if_true]
    refine wl_nil (f_then (c_if rfl (fun hc => ?_) (fun hc => ?_)))
    · have hin : x ∈ l := hc ▸ List.getElem_mem hi
      have hwi : withId l x = l := if_pos hin
      refine c_seq (c_region (wl_p I_ok rfl (wl_nil (f_then (c_ret (f_thenR (f_blockR (f_thenR (f_thenR (f_blockR (f_thenR (f_ret1 rfl rfl ?_))))))))))))
      exact ⟨_, c, by rw [hwi], by rw [hwi]; exact h.extNo hX, hX⟩
    · have hml := midAt_len l x i l[i]
      refine c_skip (f_then ?_)
      refine c_cutK (α := Option Addr × Nat) [0, 3, 8, 9, 10, 11] rfl (fun z => [(5, .slice z.1 (midAt l x i l[i]).length z.2), (6, .bool (doneAt l x (i + 1)))]) (fun z u => (Own u z.1 (midAt l x i l[i]).length z.2 31 32 ((midAt l x i l[i]).flatMap bytesU) ∧ (∀ y, OwnB z.1 y → b3 < y)) ∧ Blk u b3 31 (bytesU x) ∧ Blk u b8 31 (bytesU l[i]) ∧ Ext No w u) ?_ ?_
      · refine c_cutK (α := Bool) [0, 3, 5, 6, 8, 9, 10, 11] rfl (fun z => [(25, .bool z)]) (fun z u => (z = (!doneAt l x i && decide (idLt x l[i])) ∧ Own u q (withAt l x i).length k 31 32 ((withAt l x i).flatMap bytesU)) ∧ Blk u b3 31 (bytesU x) ∧ Blk u b8 31 (bytesU l[i]) ∧ Ext No w u) ?_ ?_
        · refine c_region ?_
          refine wl_p I_ok rfl (wl_case 21 rfl (fun hg => ?_) (fun hg => ?_))
          · refine wl (st_ldB I_ok hb3 rfl hx.len ?_)
            refine wl (st_ldB I_ok hb8 rfl ha1.len (wl (st_call Tryz.call104 rfl rfl rfl rfl rfl rfl (less8_calls w4 hx ha1) fun v5 w5 hr5 => ?_)))
            obtain ⟨rfl, hE5⟩ := hr5
            have hb3 := hb3.extNo hE5
            have hb8 := hb8.extNo hE5
            have hq := hq.ext hE5 fun _ _ => id
            have hX := hX.thenNo hE5
            refine wl_p I_ok rfl (wl_nil ?_)
            exact f_cut (_) rfl ⟨⟨by rw [hg]; rfl, hq⟩, hb3, hb8, hX⟩
          · refine wl_pk I_ok 4 rfl ?_
            refine wl_nil ?_
            exact f_cut (false) rfl ⟨⟨by rw [hg]; rfl, hq⟩, hb3, hb8, hX⟩
        rintro z w6 ⟨⟨rfl, hq⟩, hb3, hb8, hX⟩
        refine c_cond rfl (fun hc => ?_) (fun hc => ?_)
        · have hd0 : doneAt l x i = false := by simp at hc; exact hc.1
          have hlt : idLt x l[i] := by simp at hc; exact hc.2
          have eA : withAt l x i = l.take i := if_neg (by rw [hd0]; decide)
          have eM : midAt l x i l[i] = withAt l x i ++ [x] := by rw [eA]; exact if_pos ⟨hd0, hlt⟩
          have hds : doneAt l x (i + 1) = true := by rw [doneAt_succ hi, hd0, decide_eq_true hlt]; rfl
          have hwl := withAt_len l x i
          refine c_region (wl_p I_ok rfl (wl (st_ldB I_ok hb3 rfl hx.len ?_)))
          refine wl (st_bs I_ok rfl 32 rfl idZ_c.symm (by rw [bytesU_len]; rfl) (by decide) (by decide) ⟨⟨by rw [cellsOf_agg]; exact (IdIn.len hx), by decide⟩, trivial⟩ (l' := bytesU x) (one_id hx) fun b28 w7 hn28 hb28 hE7 hs7 => ?_)
          have hb3 := hb3.extNo hE7
          have hb8 := hb8.extNo hE7
          have hq := hq.ext hE7 fun _ _ => id
          have hX := hX.thenNo hE7
          have hX0 := hX
          refine wl (st_app I_ok rfl 32 32 rfl rfl rfl (by decide) hq (Src.slice (m := 1) (one_idS hx hb28) OneC.h) (by dsimp only [maxLen]; omega) (by dsimp only; omega) fun p8 c8 w8 ho8 hE8 hB8 => ?_)
          dsimp only at ho8 hE8 hB8 ⊢
          have hX := hX0.trans hE8 fun y hy hF => by have := hqn y hF; omega
          have hb3l := hb3.lt
          have hb3 := hb3.ext hE8 (fun h => absurd (hqn _ h) (Nat.lt_irrefl _))
          have hb8 := hb8.ext hE8 (fun h => ne8 _ h rfl)
          have hqn2 : ∀ y, OwnB p8 y → b3 < y := fun y hy => (hB8 y hy).elim (fun h => hqn y h) fun h => by omega
          have hl2 : (withAt l x i).length + 1 = (midAt l x i l[i]).length := by rw [eM, List.length_append]; rfl
          have hq2 : Own w8 p8 (midAt l x i l[i]).length c8 31 32 ((midAt l x i l[i]).flatMap bytesU) := by
            rw [← hl2, eM, List.flatMap_append]
            simpa using ho8
          rw [hl2]
          refine wl_p I_ok rfl (wl_nil ?_)
          exact f_cut (p8, c8) (by rw [hds]; rfl) ⟨⟨hq2, hqn2⟩, hb3, hb8, hX⟩
        · have eM : midAt l x i l[i] = withAt l x i := if_neg (fun k => by simp [k.1, k.2] at hc)
          have hds : doneAt l x (i + 1) = doneAt l x i := by
            rw [doneAt_succ hi]
            cases hd : doneAt l x i
            · have : ¬ idLt x l[i] := by simpa [hd] using hc
              simp [this]
            · rfl
          refine c_skip ?_
          exact f_cut (q, k) (by rw [hds, eM]; rfl) ⟨⟨by rw [eM]; exact hq, hqn⟩, hb3, hb8, hX⟩
      rintro ⟨q, k⟩ w9 ⟨⟨hq, hqn⟩, hb3, hb8, hX⟩
      try dsimp only
      dsimp only at hq hqn
      refine c_region (wl_p I_ok rfl (wl (st_ldB I_ok hb8 rfl ha1.len ?_)))
      refine wl (st_bs I_ok rfl 32 rfl idZ_c.symm (by rw [bytesU_len]; rfl) (by decide) (by decide) ⟨⟨by rw [cellsOf_agg]; exact (IdIn.len ha1), by decide⟩, trivial⟩ (l' := bytesU l[i]) (one_id ha1) fun b32 w10 hn32 hb32 hE10 hs10 => ?_)
      have hb3 := hb3.extNo hE10
      have hq := hq.ext hE10 fun _ _ => id
      have hX := hX.thenNo hE10
      have hX0 := hX
      refine wl (st_app I_ok rfl 32 32 rfl rfl rfl (by decide) hq (Src.slice (m := 1) (one_idS ha1 hb32) OneC.h) (by dsimp only [maxLen]; omega) (by dsimp only; omega) fun p11 c11 w11 ho11 hE11 hB11 => ?_)
      dsimp only at ho11 hE11 hB11 ⊢
      have hX := hX0.trans hE11 fun y hy hF => by have := hqn y hF; omega
      have hb3l := hb3.lt
      have hb3 := hb3.ext hE11 (fun h => absurd (hqn _ h) (Nat.lt_irrefl _))
      skip
      have hqn2 : ∀ y, OwnB p11 y → b3 < y := fun y hy => (hB11 y hy).elim (fun h => hqn y h) fun h => by omega
      have hl2 : (midAt l x i l[i]).length + 1 = (withAt l x (i + 1)).length := by rw [(withAt_succ hi), List.length_append]; rfl
      have hq2 : Own w11 p11 (withAt l x (i + 1)).length c11 31 32 ((withAt l x (i + 1)).flatMap bytesU) := by
        rw [← hl2, (withAt_succ hi), List.flatMap_append]
        simpa using ho11
      rw [hl2]
      refine wl_p I_ok rfl (wl_nil (f_blockN (f_then (c_region (wl_p I_ok rfl ?_)))))
      rw [IntWalk.i64_in _ (by omega)]
      refine wl_nil ?_
      exact f_round (i + 1, p11, c11) rfl ⟨⟨hi, fun k hk hlt => (Nat.lt_or_eq_of_le (Nat.le_of_lt_succ hlt)).elim (fun h => hno k hk h) (fun h => by subst h; exact hc), hq2, hqn2⟩, hb3, hX⟩ (by first | omega | (dsimp only; omega))
  · have h0 : i = l.length := by omega
    subst h0
    have hall : ¬ x ∈ l := fun hr => by
      obtain ⟨k, hk, e⟩ := List.mem_iff_getElem.1 hr
      exact hno k hk (by omega) e
    have hwl := withAt_len l x l.length
    have hwa := withAt_all hall
    refine c_exit (f_thenE (f_thenE (f_blockE (f_then ?_))))
    refine c_cutK (α := Option Addr × Nat) [] rfl (fun z => [(5, .slice z.1 (withId l x).length z.2)]) (fun z u => (Own u z.1 (withId l x).length z.2 31 32 ((withId l x).flatMap bytesU)) ∧ Blk u b3 31 (bytesU x) ∧ Ext No w u) ?_ ?_
    · refine c_seq ?_
      refine c_region (wl_p I_ok rfl (wl_nil (f_then (c_cond rfl (fun hc => ?_) (fun hc => ?_)))))
      · have hd0 : ¬ doneAt l x l.length = true := by simpa using hc
        have eM : withId l x = withAt l x l.length ++ [x] := by rw [hwa, if_neg hd0]
        refine c_region (wl_p I_ok rfl (wl (st_ldB I_ok hb3 rfl hx.len ?_)))
        refine wl (st_bs I_ok rfl 32 rfl idZ_c.symm (by rw [bytesU_len]; rfl) (by decide) (by decide) ⟨⟨by rw [cellsOf_agg]; exact (IdIn.len hx), by decide⟩, trivial⟩ (l' := bytesU x) (one_id hx) fun b39 w12 hn39 hb39 hE12 hs12 => ?_)
        have hb3 := hb3.extNo hE12
        have hq := hq.ext hE12 fun _ _ => id
        have hX := hX.thenNo hE12
        have hX0 := hX
        refine wl (st_app I_ok rfl 32 32 rfl rfl rfl (by decide) hq (Src.slice (m := 1) (one_idS hx hb39) OneC.h) (by dsimp only [maxLen]; omega) (by dsimp only; omega) fun p13 c13 w13 ho13 hE13 hB13 => ?_)
        dsimp only at ho13 hE13 hB13 ⊢
        have hX := hX0.trans hE13 fun y hy hF => by have := hqn y hF; omega
        have hb3l := hb3.lt
        have hb3 := hb3.ext hE13 (fun h => absurd (hqn _ h) (Nat.lt_irrefl _))
        skip
        have hqn2 : ∀ y, OwnB p13 y → b3 < y := fun y hy => (hB13 y hy).elim (fun h => hqn y h) fun h => by omega
        have hl2 : (withAt l x l.length).length + 1 = (withId l x).length := by rw [eM, List.length_append]; rfl
        have hq2 : Own w13 p13 (withId l x).length c13 31 32 ((withId l x).flatMap bytesU) := by
          rw [← hl2, eM, List.flatMap_append]
          simpa using ho13
        rw [hl2]
        refine wl_p I_ok rfl (wl_nil ?_)
        exact f_cut (p13, c13) rfl ⟨hq2, hb3, hX⟩
      · have hd0 : doneAt l x l.length = true := by simpa using hc
        have eM : withId l x = withAt l x l.length := by rw [hwa, if_pos hd0]
        refine c_skip ?_
        exact f_cut (q, k) (by rw [eM]; rfl) ⟨by rw [eM]; exact hq, hb3, hX⟩
    rintro ⟨q, k⟩ w14 ⟨hq, hb3, hX⟩
    try dsimp only
    dsimp only at hq
    refine c_seq (c_region (wl_p I_ok rfl (wl_nil (f_then (c_ret (f_ret1 rfl rfl ?_))))))
    exact ⟨q, k, rfl, hq.sl, hX⟩
end Go.Proofs.YtpcdihkcenfgkaaGreat
namespace Go.Proofs.YtpcdihkcenfgkaaGreat
open Go.Vc
theorem linksOf_in {o : ObjD} (h : ObjIn o) : ∀ z ∈ linksOf o, IdIn z := fun z hz => by
  unfold linksOf at hz
  split at hz
  · obtain ⟨y, hy, rfl⟩ := List.mem_map.1 hz; exact (h.leaves y hy).2
  · split at hz
    · rcases List.mem_cons.1 hz with rfl | hz
      · exact h.tree
      · exact h.parents z hz
    · cases hz
theorem HpIn.leadsIn {w : World} {p : Option Addr} {l : List HeldT} (h : HpIn w p l) {x : IdB} (hx : IdIn x) : ∀ y, (toHp l).Leads x y → IdIn y := fun y hy => by
  cases hy with
  | here => exact hx
  | on _ hz => exact linksOf_in (h.objIn _) _ hz
theorem HpIn.allLen {w : World} {p : Option Addr} {l : List HeldT} (h : HpIn w p l) (x : IdB) : ((toHp l).all x).length < 10000001 := by
  have e : (toHp l).flatMap (fun e => linksOf e.2) = l.flatMap fun e => linksOf e.o := by rw [toHp, List.flatMap_map]
  have := h.lk
  rw [Hp.all, e, List.length_cons]
  omega
theorem _root_.Go.Vc.Hp.Part.one {h : Hp} {x : IdB} {M : List IdB} (hp : h.Part x M) {y : IdB} (hy : h.Leads x y) : h.Part x (withId M y) :=
  ⟨withId_rise hp.rise y, (withId_mem M y x).2 (.inr hp.has), fun z hz => by rcases (withId_mem M y z).1 hz with rfl | hz; exact hy; exact hp.led z hz⟩
theorem part_fold {h : Hp} {x : IdB} : ∀ (ys : List IdB) {M : List IdB}, h.Part x M → (∀ y ∈ ys, h.Leads x y) → h.Part x (ys.foldl withId M)
  | [], _, hp, _ => hp
  | y :: r, _, hp, hy => part_fold r (hp.one (hy y List.mem_cons_self)) fun z hz => hy z (List.mem_cons_of_mem _ hz)
theorem part_go {h : Hp} {x : IdB} : ∀ (ys : List IdB) {M : List IdB}, h.Part x M → (∀ y ∈ ys, h.Leads x y) → h.Part x (h.waveGo ys M)
  | [], _, hp, _ => hp
  | y :: r, _, hp, hy => part_go r (part_fold _ hp fun _ hz => .on (hy y List.mem_cons_self) hz) fun z hz => hy z (List.mem_cons_of_mem _ hz)
theorem _root_.Go.Vc.Hp.Part.start (h : Hp) (x : IdB) : h.Part x [x] := ⟨List.pairwise_singleton _ _, List.mem_singleton.2 rfl, fun y hy => by rw [List.mem_singleton.1 hy]; exact .here⟩
theorem foldWith_take {ys M : List IdB} {m : Nat} (hm : m < ys.length) : (ys.take (m + 1)).foldl withId M = withId ((ys.take m).foldl withId M) ys[m] := by
  rw [List.take_succ_eq_append_getElem hm, List.foldl_append]; rfl
theorem waveGo_take {h : Hp} {ys M : List IdB} {m : Nat} (hm : m < ys.length) : h.waveGo (ys.take (m + 1)) M = (h.links ys[m]).foldl withId (h.waveGo (ys.take m) M) := by
  rw [List.take_succ_eq_append_getElem hm, Hp.waveGo_snoc]
theorem links_len (h : Hp) (y : IdB) : ∀ x, (h.links y).length ≤ (h.all x).length := fun x => by
  unfold Hp.links
  rcases h.obj_mem y with e | ⟨e, he, e'⟩
  · rw [e]; exact Nat.zero_le _
  · rw [e', Hp.all, List.length_cons]
    obtain ⟨a, b, hab⟩ := List.append_of_mem he
    rw [hab, List.flatMap_append, List.flatMap_cons]
    simp only [List.length_append]
    omega
theorem obj_err {h : Hp} {x : IdB} (he : ¬ h.err x = 0) : h.obj x = objZ := by
  unfold Hp.err at he
  unfold Hp.obj
  cases hg : h.get x with
  | none => rfl
  | some o =>
    rw [hg] at he
    by_cases hk : ObjOk o
    · exact absurd (if_pos hk) he
    · exact if_neg hk
theorem part_end {h : Hp} {x : IdB} {L : List IdB} (hp : h.Part x L) (hn : (h.waveGo L L).length = L.length) : h.waveGo L L = h.led x := by
  have hPw := hp.wave
  have hd := hp.done hn
  refine Hp.led_eq hPw.rise fun y => ⟨hPw.led y, fun hy => (h.waveGo_mem L L y).2 (.inl ?_)⟩
  rw [hd]
  exact (h.led_mem x y).2 hy
theorem leads8_calls (w : World) {p : Option Addr} {c : Nat} {l : List HeldT} {x : IdB} (h : HpIn w p l) (hx : IdIn x) :
    CallsV Tryz.prog 40 [.agg #[.slice p l.length c], .agg (bytesU x).toArray] w fun v w' => ∃ q k, v = .slice q ((toHp l).led x).length k ∧ Sl w' q ((toHp l).led x).length 32 (((toHp l).led x).flatMap bytesU) ∧ Ext No w w' := by
  have hall := h.allLen x
  have hidn := h.leadsIn hx
  refine calls_enter Tryz.func40 rfl rfl rfl rfl ?_
  have hX := Ext.refl No w
  refine c_seq (c_region (wl (st_al I_ok rfl fun b2 w1 hn2 hb2 hE1 => ?_)))
  have fr2 := Nat.le_trans hX.size hn2
  have hX := hX.thenNo hE1
  have hb2 : Blk w1 b2 26 ([.slice p l.length c]) := hb2
  refine wl (st_al I_ok rfl fun b3 w2 hn3 hb3 hE2 => ?_)
  have fr3 := Nat.le_trans hX.size hn3
  have hb2 := hb2.extNo hE2
  have hX := hX.thenNo hE2
  have hb3 : Blk w2 b3 31 (bytesU x) := hb3
  refine wl_p I_ok rfl (wl_nil (f_then (c_seq (c_region (wl (st_ldB I_ok hb3 rfl hx.len ?_))))))
  refine wl (st_bs I_ok rfl 32 rfl idZ_c.symm (by rw [bytesU_len]; rfl) (by decide) (by decide) ⟨⟨by rw [cellsOf_agg]; exact (IdIn.len hx), by decide⟩, trivial⟩ (l' := bytesU x) (one_id hx) fun b14 w3 hn14 hb14 hE3 hs3 => ?_)
  have fr14 := Nat.le_trans hX.size hn14
  have hb2 := hb2.extNo hE3
  have hb3 := hb3.extNo hE3
  have hX := hX.thenNo hE3
  refine wl_p I_ok rfl (wl_nil (f_then (c_block ?_)))
  refine c_loopK (α := List IdB × Option Addr × Nat) [2] rfl (fun z => [(5, .slice z.2.1 z.1.length z.2.2)]) (fun z u => ((toHp l).Part x z.1 ∧ Sl u z.2.1 z.1.length 32 (z.1.flatMap bytesU)) ∧ Blk u b2 26 ([.slice p l.length c]) ∧ Blk u b3 31 (bytesU x) ∧ Ext No w u) (fun z u => ((toHp l).all x).length - z.1.length) ([x], some ⟨b14, 0, none⟩, 1) rfl ⟨⟨Hp.Part.start _ _, by show Sl _ _ 1 32 ([x].flatMap bytesU); rw [List.flatMap_singleton]; exact one_idS hx hb14⟩, hb2, hb3, hX⟩ ?_
  rintro ⟨L, q, k⟩ w4 ⟨⟨hP, hs⟩, hb2, hb3, hX⟩
  try dsimp only
  dsimp only at hP hs
  refine c_block (c_seq (c_region (wl_p I_ok rfl (wl_nil (f_then (c_seq (c_seq (c_region ?_))))))))
  have hsA := hs
  refine wl (st_bs I_ok rfl 32 rfl idZ_c.symm (by rw [bytesU_len]; rfl) (by decide) (by decide) trivial (l' := []) rfl fun b17 w5 hn17 hb17 hE5 hs5 => ?_)
  have ne2_17 : b2 ≠ b17 := Nat.ne_of_lt (Nat.lt_of_lt_of_le hb2.lt hn17)
  have ne3_17 : b3 ≠ b17 := Nat.ne_of_lt (Nat.lt_of_lt_of_le hb3.lt hn17)
  have fr17 := Nat.le_trans hX.size hn17
  have hb2 := hb2.extNo hE5
  have hb3 := hb3.extNo hE5
  have hs := hs.extNo hE5
  have hX := hX.thenNo hE5
  have hE17 := hE5
  refine wl_p I_ok rfl ?_
  have hX0 := hX
  have hPl := hP.len
  refine wl (st_app I_ok rfl 32 32 rfl rfl rfl (by decide) (Own.blk (n := 0) (c := 0) hb17 32 rfl (Nat.le_refl _) (by decide)) (Src.slice hs OneC.h) (by dsimp only [maxLen]; omega) (by dsimp only; omega) fun p6 c6 w6 ho6 hE6 hB6 => ?_)
  dsimp only at ho6 hE6 hB6 ⊢
  have e17 : ∀ y, OwnB (some ⟨b17, 0, none⟩) y → y = b17 := fun y hy => (congrArg Addr.block (Option.some.inj hy)).symm
  have hX := hX0.trans hE6 fun y hy hF => by have := e17 y hF; omega
  have hb2 := hb2.ext hE6 (fun h => absurd (e17 _ h) ne2_17)
  have hb3 := hb3.ext hE6 (fun h => absurd (e17 _ h) ne3_17)
  have hs := hsA.extLt (hE17.no.trans hE6 fun _ _ k => k) fun y hy k => by have := e17 y k; omega
  obtain ⟨pc, kc, e1, e2, hcp⟩ : ∃ pc kc, pc = p6 ∧ kc = c6 ∧ Sl w6 pc L.length 32 (L.flatMap bytesU) := ⟨_, _, rfl, rfl, by have h := ho6.sl; rw [Nat.zero_add] at h; exact h⟩
  have hLi : ∀ r ∈ L, IdIn r := fun r hr => hidn r (hP.led r hr)
  rw [Nat.zero_add, ← e1, ← e2]
  refine wl_p I_ok rfl (wl_nil (f_then (c_block ?_)))
  refine c_loopK (α := Nat × Option Addr × Nat) [2, 6, 19, 20] rfl (fun z => [(5, .slice z.2.1 ((toHp l).waveGo (L.take z.1) L).length z.2.2), (21, .int .i64 (z.1 : Int))]) (fun z u => (z.1 ≤ L.length ∧ Sl u z.2.1 ((toHp l).waveGo (L.take z.1) L).length 32 (((toHp l).waveGo (L.take z.1) L).flatMap bytesU) ∧ Sl u pc L.length 32 (L.flatMap bytesU)) ∧ Blk u b2 26 ([.slice p l.length c]) ∧ Blk u b3 31 (bytesU x) ∧ Ext No w u) (fun z u => L.length - z.1) (0, q, k) rfl ⟨⟨Nat.zero_le _, hs, hcp⟩, hb2, hb3, hX⟩ ?_
  rintro ⟨j, q, k⟩ w7 ⟨⟨hj, hs, hcp⟩, hb2, hb3, hX⟩
  try dsimp only
  dsimp only at hj hs hcp
  refine c_seq (c_region (wl_p I_ok rfl (wl_nil (f_then (c_seq (c_if rfl (fun hc => ?_) (fun hc => ?_)))))))
  · have hj : j < L.length := by omega
    obtain ⟨qb, qoff, hpc, hsq⟩ := hcp.rowAll (fun r hr => (hLi r hr).len) (by omega)
    have ha1 := hLi _ (List.getElem_mem hj)
    have hPj : (toHp l).Part x ((toHp l).waveGo (L.take j) L) := part_go _ hP fun y hy => hP.led y (List.mem_of_mem_take hy)
    have hLl := hP.led _ (List.getElem_mem hj)
    rw [hpc] at hcp ⊢
    refine c_skip (f_then ?_)
    refine c_cutK (α := Option Addr × Nat) [2, 6, 19, 20, 21] rfl (fun z => [(5, .slice z.1 ((toHp l).waveGo (L.take (j + 1)) L).length z.2)]) (fun z u => (Sl u z.1 ((toHp l).waveGo (L.take (j + 1)) L).length 32 (((toHp l).waveGo (L.take (j + 1)) L).flatMap bytesU) ∧ Sl u (some ⟨qb, qoff, none⟩) L.length 32 (L.flatMap bytesU)) ∧ Blk u b2 26 ([.slice p l.length c]) ∧ Blk u b3 31 (bytesU x) ∧ Ext No w u) ?_ ?_
    · refine c_block ?_
      refine c_seq (c_region (wl (st_ix I_ok rfl 32 rfl j rfl (by omega) (qoff + j * 32) rfl (wl (st_ldN I_ok rfl (hsq j hj) ha1.len ?_)))))
      have hsA := hs
      have hcpA := hcp
      refine wl (st_al I_ok rfl fun b8 w8 hn8 hb8 hE8 => ?_)
      have ne2_8 : b2 ≠ b8 := Nat.ne_of_lt (Nat.lt_of_lt_of_le hb2.lt hn8)
      have ne3_8 : b3 ≠ b8 := Nat.ne_of_lt (Nat.lt_of_lt_of_le hb3.lt hn8)
      have fr8 := Nat.le_trans hX.size hn8
      have hb2 := hb2.extNo hE8
      have hb3 := hb3.extNo hE8
      have hX := hX.thenNo hE8
      have hEa8 := hE8
      refine wl (st_stW (l' := bytesU L[j]) I_ok hb8 rfl rfl ha1.len (by rw [bytesU_len, ha1]; rfl) OneC.h fun w9 hb8 hE9 hs9 => ?_)
      have hb2 := hb2.ext1 hE9 ne2_8
      have hb3 := hb3.ext1 hE9 ne3_8
      have hs := hsA.extLt ((Ext.no hEa8).trans hE9 fun _ _ k => k) (fun y hy k => by have k : y = b8 := k; omega)
      have hcp := hcpA.extLt ((Ext.no hEa8).trans hE9 fun _ _ k => k) (fun y hy k => by have k : y = b8 := k; omega)
      have hX := hX.thenNew hE9 fr8
      refine wl_nil (f_then (c_seq (c_region (wl (st_ldB I_ok hb2 rfl rfl (wl (st_ldB I_ok hb8 rfl ha1.len (wl (st_call Tryz.call41 rfl rfl rfl rfl rfl rfl (get8_calls w9 (h.extNo hX) ha1) fun v10 w10 hr10 => ?_)))))))))
      obtain ⟨rfl, hE10⟩ := hr10
      have hb2 := hb2.extNo hE10
      have hb3 := hb3.extNo hE10
      have hs := hs.extNo hE10
      have hcp := hcp.extNo hE10
      have hX := hX.thenNo hE10
      refine wl_p I_ok rfl ?_
      have hsA := hs
      have hcpA := hcp
      refine wl (st_al I_ok rfl fun b9 w11 hn9 hb9 hE11 => ?_)
      have ne2_9 : b2 ≠ b9 := Nat.ne_of_lt (Nat.lt_of_lt_of_le hb2.lt hn9)
      have ne3_9 : b3 ≠ b9 := Nat.ne_of_lt (Nat.lt_of_lt_of_le hb3.lt hn9)
      have fr9 := Nat.le_trans hX.size hn9
      have hb2 := hb2.extNo hE11
      have hb3 := hb3.extNo hE11
      have hX := hX.thenNo hE11
      have hEa9 := hE11
      refine wl (st_stW (l' := objC ((toHp l).obj L[j]) (objP l L[j])) I_ok hb9 rfl rfl (objC_len (h.objIn _)) (by rw [objC_len (h.objIn _)]; rfl) OneC.h fun w12 hb9 hE12 hs12 => ?_)
      have hb2 := hb2.ext1 hE12 ne2_9
      have hb3 := hb3.ext1 hE12 ne3_9
      have hs := hsA.extLt ((Ext.no hEa9).trans hE12 fun _ _ k => k) (fun y hy k => by have k : y = b9 := k; omega)
      have hcp := hcpA.extLt ((Ext.no hEa9).trans hE12 fun _ _ k => k) (fun y hy k => by have k : y = b9 := k; omega)
      have hX := hX.thenNew hE12 fr9
      refine wl_p I_ok rfl (wl_nil (f_then (c_seq (c_region (wl_p I_ok rfl (wl_nil (f_then (c_if rfl (fun hc => ?_) (fun hc => ?_)))))))))
      · have he : (toHp l).err L[j] = 0 := hc
        have hlkl : ((toHp l).links L[j]).length = (linksOf ((toHp l).obj L[j])).length := rfl
        have hlki : ∀ r ∈ (toHp l).links L[j], IdIn r := linksOf_in (h.objIn _)
        have hlkd : ∀ r ∈ (toHp l).links L[j], (toHp l).Leads x r := fun r hr => .on hLl hr
        have hlk9 : ((toHp l).links L[j]).length < 10000001 := Nat.lt_of_le_of_lt (links_len _ _ x) hall
        refine c_seq (c_region (wl (st_ldB I_ok hb9 rfl (objC_len (h.objIn _)) (wl (st_call Tryz.call74 rfl rfl rfl rfl rfl rfl (links6_calls w12 (h.objIn _) ((h.extNo hX).objL _) (h.objSh _)) fun v13 w13 hr13 => ?_)))))
        obtain ⟨ql, kl, rfl, hl0, hln, hE13⟩ := hr13
        have hb2 := hb2.extNo hE13
        have hb3 := hb3.extNo hE13
        have hs := hs.extNo hE13
        have hcp := hcp.extNo hE13
        have hX := hX.thenNo hE13
        have hl : Sl w13 ql ((toHp l).links L[j]).length 32 (((toHp l).links L[j]).flatMap bytesU) := hl0.sl
        refine wl_p I_ok rfl (wl_nil (f_then (c_block ?_)))
        refine c_loopK (α := Nat × Option Addr × Nat) [2, 6, 19, 20, 21, 34, 35] rfl (fun z => [(5, .slice z.2.1 ((((toHp l).links L[j]).take z.1).foldl withId ((toHp l).waveGo (L.take j) L)).length z.2.2), (36, .int .i64 (z.1 : Int))]) (fun z u => (z.1 ≤ ((toHp l).links L[j]).length ∧ Sl u z.2.1 ((((toHp l).links L[j]).take z.1).foldl withId ((toHp l).waveGo (L.take j) L)).length 32 (((((toHp l).links L[j]).take z.1).foldl withId ((toHp l).waveGo (L.take j) L)).flatMap bytesU) ∧ Sl u (some ⟨qb, qoff, none⟩) L.length 32 (L.flatMap bytesU) ∧ Sl u ql ((toHp l).links L[j]).length 32 (((toHp l).links L[j]).flatMap bytesU)) ∧ Blk u b2 26 ([.slice p l.length c]) ∧ Blk u b3 31 (bytesU x) ∧ Ext No w u) (fun z u => ((toHp l).links L[j]).length - z.1) (0, q, k) rfl ⟨⟨Nat.zero_le _, hs, hcp, hl⟩, hb2, hb3, hX⟩ ?_
        rintro ⟨m, q, k⟩ w14 ⟨⟨hm, hs, hcp, hl⟩, hb2, hb3, hX⟩
        try dsimp only
        dsimp only at hm hs hcp hl
        refine c_seq (c_region (wl_p I_ok rfl (wl_nil (f_then (c_seq (c_if rfl (fun hc => ?_) (fun hc => ?_)))))))
        · have hm : m < ((toHp l).links L[j]).length := by omega
          obtain ⟨lb, loff, hpl, hsl⟩ := hl.rowAll (fun r hr => (hlki r hr).len) (by omega)
          have ha2 := hlki _ (List.getElem_mem hm)
          have hPm : (toHp l).Part x ((((toHp l).links L[j]).take m).foldl withId ((toHp l).waveGo (L.take j) L)) := part_fold _ hPj fun y hy => hlkd y (List.mem_of_mem_take hy)
          have hPml := hPm.len
          rw [hpl] at hl ⊢
          refine c_skip (f_then (c_seq (c_block (c_seq (c_region (wl (st_ix I_ok rfl 32 rfl m rfl (by omega) (loff + m * 32) rfl (wl (st_ldN I_ok rfl (hsl m hm) ha2.len ?_)))))))))
          have hsA := hs
          have hcpA := hcp
          have hlA := hl
          refine wl (st_al I_ok rfl fun b12 w15 hn12 hb12 hE15 => ?_)
          have ne2_12 : b2 ≠ b12 := Nat.ne_of_lt (Nat.lt_of_lt_of_le hb2.lt hn12)
          have ne3_12 : b3 ≠ b12 := Nat.ne_of_lt (Nat.lt_of_lt_of_le hb3.lt hn12)
          have fr12 := Nat.le_trans hX.size hn12
          have hb2 := hb2.extNo hE15
          have hb3 := hb3.extNo hE15
          have hX := hX.thenNo hE15
          have hEa12 := hE15
          refine wl (st_stW (l' := bytesU ((toHp l).links L[j])[m]) I_ok hb12 rfl rfl ha2.len (by rw [bytesU_len, ha2]; rfl) OneC.h fun w16 hb12 hE16 hs16 => ?_)
          have hb2 := hb2.ext1 hE16 ne2_12
          have hb3 := hb3.ext1 hE16 ne3_12
          have hs := hsA.extLt ((Ext.no hEa12).trans hE16 fun _ _ k => k) (fun y hy k => by have k : y = b12 := k; omega)
          have hcp := hcpA.extLt ((Ext.no hEa12).trans hE16 fun _ _ k => k) (fun y hy k => by have k : y = b12 := k; omega)
          have hl := hlA.extLt ((Ext.no hEa12).trans hE16 fun _ _ k => k) (fun y hy k => by have k : y = b12 := k; omega)
          have hX := hX.thenNew hE16 fr12
          refine wl_nil (f_then (c_region (wl_p I_ok rfl (wl (st_ldB I_ok hb12 rfl ha2.len (wl (st_call Tryz.call75 rfl rfl rfl rfl rfl rfl (with8_calls w16 hs (by omega) (fun r hr => hidn r (hPm.led r hr)) ha2) fun v17 w17 hr17 => ?_)))))))
          obtain ⟨q2, k2, rfl, hs2, hE17⟩ := hr17
          have hb2 := hb2.extNo hE17
          have hb3 := hb3.extNo hE17
          have hcp := hcp.extNo hE17
          have hl := hl.extNo hE17
          have hX := hX.thenNo hE17
          refine wl_p I_ok rfl (wl_nil (f_blockN (f_then (c_region (wl_p I_ok rfl ?_)))))
          rw [IntWalk.i64_in _ (by omega)]
          refine wl_nil ?_
          exact f_round (m + 1, q2, k2) (by rw [foldWith_take hm]; rfl) ⟨⟨hm, by rw [foldWith_take hm]; exact hs2, hcp, hl⟩, hb2, hb3, hX⟩ (by first | omega | (dsimp only; omega))
        · have hm0 : m = ((toHp l).links L[j]).length := by omega
          subst hm0
          rw [List.take_length] at hs ⊢
          rw [← waveGo_take hj] at hs ⊢
          refine c_exit ?_
          exact f_thenE (f_thenE (f_blockE (f_blockN (f_cut (q, k) rfl ⟨⟨hs, hcp⟩, hb2, hb3, hX⟩))))
      · have hz : (toHp l).obj L[j] = objZ := obj_err hc
        have hlz : (toHp l).links L[j] = [] := by rw [Hp.links, hz]; rfl
        have eW : (toHp l).waveGo (L.take (j + 1)) L = (toHp l).waveGo (L.take j) L := by rw [waveGo_take hj, hlz]; rfl
        rw [← eW] at hs ⊢
        refine c_skip ?_
        exact f_blockN (f_cut (q, k) rfl ⟨⟨hs, hcp⟩, hb2, hb3, hX⟩)
    rintro ⟨q, k⟩ w18 ⟨⟨hs, hcp⟩, hb2, hb3, hX⟩
    try dsimp only
    dsimp only at hs hcp
    refine c_region (wl_p I_ok rfl ?_)
    rw [IntWalk.i64_in _ (by omega)]
    refine wl_nil ?_
    exact f_round (j + 1, q, k) rfl ⟨⟨hj, hs, hcp⟩, hb2, hb3, hX⟩ (by first | omega | (dsimp only; omega))
  · have hj0 : j = L.length := by omega
    subst hj0
    rw [List.take_length] at hs ⊢
    have hPw := hP.wave
    have hwl := hPw.len
    have hwg := (toHp l).waveGo_len L L
    refine c_exit (f_thenE (f_thenE (f_blockE (f_then (c_seq (c_region (wl_p I_ok rfl (wl_nil (f_then (c_if rfl (fun hc => ?_) (fun hc => ?_)))))))))))
    · have hdn := part_end hP (by omega)
      rw [hdn] at hs ⊢
      refine c_seq (c_region (wl_p I_ok rfl (wl_nil (f_then (c_ret (f_blockR (f_thenR (f_blockR (f_ret1 rfl rfl ?_)))))))))
      exact ⟨q, k, rfl, hs, hX⟩
    · refine c_skip ?_
      exact f_blockN (f_round ((toHp l).waveGo L L, q, k) rfl ⟨⟨hPw, hs⟩, hb2, hb3, hX⟩ (by first | omega | (dsimp only; omega)))
end Go.Proofs.YtpcdihkcenfgkaaGreat
namespace Go.Proofs.YtpcdihkcenfgkaaGreat
open Go.Vc
theorem rowZ_c : cellsOf ti73.zero = RowD.cells ⟨[], []⟩ := by kernel_rfl
theorem room_ml {n : Nat} (h : n ≤ 1000000000) : n + 1 ≤ maxLen := by dsimp only [maxLen]; omega
theorem room_by {n : Nat} (h : n ≤ 1000000000) : (n + 1) * 32 ≤ 140737488355328 := by omega
def row8 (l : List HeldT) (y : LeafD) : RowD := ⟨y.path, ((toHp l).kObj y.id 1).text⟩
theorem rowsOf_take {l : List HeldT} {L : List LeafD} {i : Nat} (hi : i < L.length) : (toHp l).rowsOf (L.take (i + 1)) = (toHp l).rowsOf (L.take i) ++ [row8 l L[i]] := by
  rw [List.take_succ_eq_append_getElem hi, Hp.rowsOf, List.map_append]; rfl
theorem rowsOf_len (h : Hp) (L : List LeafD) : (h.rowsOf L).length = L.length := List.length_map _
theorem Hp.map_no {h : Hp} {x : IdB} {e : Int} (he : h.mapE x = e) (hn : e ≠ 0) : h.map x = [] := if_pos (by rw [he]; exact hn)
theorem Hp.map_ok {h : Hp} {x : IdB} (he : h.mapE x = 0) : h.map x = h.rowsOf (h.kObj x 2).leaves := if_neg (by rw [he]; exact fun k => k rfl)
theorem map8_calls (w : World) {p : Option Addr} {c : Nat} {l : List HeldT} {x : IdB} (h : HpIn w p l) (hx : IdIn x) :
    CallsV Tryz.prog 42 [.agg #[.slice p l.length c], .agg (bytesU x).toArray] w fun v w' => ∃ q k, v = .tuple #[.agg #[.slice q ((toHp l).map x).length k], .int .i64 ((toHp l).mapE x)] ∧ Own w' q ((toHp l).map x).length k 73 2 (((toHp l).map x).flatMap RowD.cells) ∧ (∀ y, OwnB q y → w.heap.size ≤ y) ∧ Ext No w w' := by
  have hoi := h.kIn x 2
  have hol := h.kObjL x 2
  have hll := (h.kSh x 2).leaves
  refine calls_enter Tryz.func42 rfl rfl rfl rfl ?_
  have hX := Ext.refl No w
  refine c_seq (c_region (wl (st_al I_ok rfl fun b2 w1 hn2 hb2 hE1 => ?_)))
  have hX := hX.thenNo hE1
  have hb2 : Blk w1 b2 26 ([.slice p l.length c]) := hb2
  refine wl (st_al I_ok rfl fun b3 w2 hn3 hb3 hE2 => ?_)
  have hb2 := hb2.extNo hE2
  have hX := hX.thenNo hE2
  have hb3 : Blk w2 b3 31 (bytesU x) := hb3
  refine wl (st_al I_ok rfl fun b4 w3 hn4 hb4 hE3 => ?_)
  have fr4 := Nat.le_trans hX.size hn4
  have hb2 := hb2.extNo hE3
  have hb3 := hb3.extNo hE3
  have hX := hX.thenNo hE3
  refine wl_p I_ok rfl (wl_nil (f_then (c_seq (c_region (wl (st_ldB I_ok hb2 rfl rfl (wl (st_ldB I_ok hb3 rfl hx.len (wl (st_call Tryz.call66 rfl rfl rfl rfl rfl rfl (of8_calls w3 (h.extNo hX) hx 2) fun v4 w4 hr4 => ?_))))))))))
  obtain ⟨rfl, hE4⟩ := hr4
  have hb2 := hb2.extNo hE4
  have hb3 := hb3.extNo hE4
  have hb4 := hb4.extNo hE4
  have hX := hX.thenNo hE4
  refine wl_p I_ok rfl (wl (st_al I_ok rfl fun b6 w5 hn6 hb6 hE5 => ?_))
  have ne2_6 : b2 ≠ b6 := Nat.ne_of_lt (Nat.lt_of_lt_of_le hb2.lt hn6)
  have ne3_6 : b3 ≠ b6 := Nat.ne_of_lt (Nat.lt_of_lt_of_le hb3.lt hn6)
  have ne4_6 : b4 ≠ b6 := Nat.ne_of_lt (Nat.lt_of_lt_of_le hb4.lt hn6)
  have fr6 := Nat.le_trans hX.size hn6
  have hb2 := hb2.extNo hE5
  have hb3 := hb3.extNo hE5
  have hb4 := hb4.extNo hE5
  have hX := hX.thenNo hE5
  refine wl (st_stW (l' := objC ((toHp l).kObj x 2) (kObjP l x 2)) I_ok hb6 rfl rfl (objC_len hoi) (by rw [objC_len hoi]; rfl) OneC.h fun w6 hb6 hE6 hs6 => ?_)
  have hb2 := hb2.ext1 hE6 ne2_6
  have hb3 := hb3.ext1 hE6 ne3_6
  have hb4 := hb4.ext1 hE6 ne4_6
  have hX := hX.thenNew hE6 fr6
  refine wl_p I_ok rfl (wl_nil (f_then (c_seq (c_seq (c_region (wl_p I_ok rfl (wl_nil (f_then (c_if rfl (fun hc => ?_) (fun hc => ?_))))))))))
  · have hE : (toHp l).mapE x = (toHp l).kErr x 2 := if_pos hc
    have hM := Hp.map_no hE hc
    refine c_seq (c_region (wl (st_bd I_ok rfl trivial (l' := [.slice none 0 0]) rfl (wl_p I_ok rfl (wl (st_stW (l' := [.slice none 0 0]) I_ok hb4 rfl rfl rfl rfl OneC.h fun w7 hb4 hE7 hs7 => ?_))))))
    have hX := hX.thenNew hE7 fr4
    refine wl_p I_ok rfl (wl_nil (f_then (c_ret (f_thenR (f_ret [_, _] ⟨⟨b4, 0, rfl, ld_all I_ok rfl rfl hb4.seg rfl⟩, rfl, trivial⟩ ?_)))))
    exact ⟨none, 0, by rw [hE, hM]; rfl, by rw [hM]; exact Own.nil _ _ _, noOwn, hX⟩
  · have hk0 : (toHp l).kErr x 2 = 0 := Decidable.not_not.1 hc
    have hE : (toHp l).mapE x = (toHp l).txErr ((toHp l).kObj x 2).leaves := if_neg hc
    refine c_skip (f_then (c_seq (c_region (wl (st_al I_ok rfl fun b8 w8 hn8 hb8 hE8 => ?_)))))
    have ne2_8 : b2 ≠ b8 := Nat.ne_of_lt (Nat.lt_of_lt_of_le hb2.lt hn8)
    have ne3_8 : b3 ≠ b8 := Nat.ne_of_lt (Nat.lt_of_lt_of_le hb3.lt hn8)
    have ne4_8 : b4 ≠ b8 := Nat.ne_of_lt (Nat.lt_of_lt_of_le hb4.lt hn8)
    have fr8 := Nat.le_trans hX.size hn8
    have hb2 := hb2.extNo hE8
    have hb3 := hb3.extNo hE8
    have hb4 := hb4.extNo hE8
    have hb6 := hb6.extNo hE8
    have hX := hX.thenNo hE8
    have hb8 : Blk w8 b8 76 ([.slice none 0 0]) := hb8
    refine wl_nil (f_then (c_seq (c_seq (c_region (wl_p I_ok rfl (wl (st_ld I_ok rfl (hb6.seg.obj hoi).leaves (wl_p I_ok rfl (wl_nil (f_then (c_block ?_)))))))))))
    refine c_loopK (α := Nat × Option Addr × Nat) [2, 4, 8, 24, 25] rfl (fun z => [(26, .int .i64 (z.1 : Int))]) (fun z u => (z.1 ≤ ((toHp l).kObj x 2).leaves.length ∧ (∀ y ∈ ((toHp l).kObj x 2).leaves.take z.1, (toHp l).kErr y.id 1 = 0) ∧ Own u z.2.1 ((toHp l).rowsOf (((toHp l).kObj x 2).leaves.take z.1)).length z.2.2 73 2 (((toHp l).rowsOf (((toHp l).kObj x 2).leaves.take z.1)).flatMap RowD.cells) ∧ (∀ y, OwnB z.2.1 y → w.heap.size ≤ y)) ∧ Blk u b2 26 ([.slice p l.length c]) ∧ Blk u b3 31 (bytesU x) ∧ Blk u b4 76 (cellsOf ti76.zero) ∧ Blk u b8 76 ([.slice z.2.1 ((toHp l).rowsOf (((toHp l).kObj x 2).leaves.take z.1)).length z.2.2]) ∧ Ext No w u) (fun z u => ((toHp l).kObj x 2).leaves.length - z.1) (0, none, 0) rfl ⟨⟨Nat.zero_le _, fun _ h => by simp at h, Own.nil _ _ _, noOwn⟩, hb2, hb3, hb4, hb8, hX⟩ ?_
    rintro ⟨i, q, k⟩ w9 ⟨⟨hi, hok, hq, hqn⟩, hb2, hb3, hb4, hb8, hX⟩
    try dsimp only
    dsimp only at hi hok hq hqn
    refine c_seq (c_region (wl_p I_ok rfl (wl_nil (f_then (c_seq (c_if rfl (fun hc => ?_) (fun hc => ?_)))))))
    · have hi : i < ((toHp l).kObj x 2).leaves.length := by omega
      obtain ⟨qb, qoff, hp, hsq⟩ := hol.leaves.rowAll (fun r hr => LeafD.len (hoi.leaves r hr).2) (by omega)
      rw [hp]
      have ha1 := hoi.leaves _ (List.getElem_mem hi)
      have hrl := rowsOf_len (toHp l) (((toHp l).kObj x 2).leaves.take i)
      rw [List.length_take] at hrl
      have hq0 := hq
      refine c_skip (f_then (c_seq (c_block (c_seq (c_region (wl (st_ix I_ok rfl 33 rfl i rfl (by omega) (qoff + i * 33) rfl (wl (st_ldN I_ok rfl ((hsq i hi).extNo hX) (LeafD.len ha1.2) (wl (st_al I_ok rfl fun b10 w10 hn10 hb10 hE10 => ?_)))))))))))
      have ne2_10 : b2 ≠ b10 := Nat.ne_of_lt (Nat.lt_of_lt_of_le hb2.lt hn10)
      have ne3_10 : b3 ≠ b10 := Nat.ne_of_lt (Nat.lt_of_lt_of_le hb3.lt hn10)
      have ne4_10 : b4 ≠ b10 := Nat.ne_of_lt (Nat.lt_of_lt_of_le hb4.lt hn10)
      have ne8_10 : b8 ≠ b10 := Nat.ne_of_lt (Nat.lt_of_lt_of_le hb8.lt hn10)
      have fr10 := Nat.le_trans hX.size hn10
      have hb2 := hb2.extNo hE10
      have hb3 := hb3.extNo hE10
      have hb4 := hb4.extNo hE10
      have hb8 := hb8.extNo hE10
      have hq := hq.ext hE10 fun _ _ => id
      have hX := hX.thenNo hE10
      have hb10o := hb10
      refine wl (st_stW (l' := (((toHp l).kObj x 2).leaves[i]).cells) I_ok hb10 rfl rfl (LeafD.len ha1.2) (LeafD.len ha1.2) OneC.h fun w11 hb10 hE11 hs11 => ?_)
      have hb2 := hb2.ext1 hE11 ne2_10
      have hb3 := hb3.ext1 hE11 ne3_10
      have hb4 := hb4.ext1 hE11 ne4_10
      have hb8 := hb8.ext1 hE11 ne8_10
      have hq := hq.extTy hE11 hb10o (by decide)
      have hX := hX.thenNew hE11 fr10
      refine wl_nil (f_then (c_seq (c_region (wl (st_ldB I_ok hb2 rfl rfl (wl_p I_ok rfl (wl (st_ldN I_ok rfl (by have := hb10.seg.drop 1; exact this) (IdIn.len ha1.2) ?_))))))))
      refine wl (st_call Tryz.call66 rfl rfl rfl rfl rfl rfl (of8_calls w11 (h.extNo hX) ha1.2 1) fun v12 w12 hr12 => ?_)
      obtain ⟨rfl, hE12⟩ := hr12
      have hb2 := hb2.extNo hE12
      have hb3 := hb3.extNo hE12
      have hb4 := hb4.extNo hE12
      have hb8 := hb8.extNo hE12
      have hb10 := hb10.extNo hE12
      have hq := hq.ext hE12 fun _ _ => id
      have hX := hX.thenNo hE12
      refine wl_p I_ok rfl (wl (st_al I_ok rfl fun b11 w13 hn11 hb11 hE13 => ?_))
      have ne2_11 : b2 ≠ b11 := Nat.ne_of_lt (Nat.lt_of_lt_of_le hb2.lt hn11)
      have ne3_11 : b3 ≠ b11 := Nat.ne_of_lt (Nat.lt_of_lt_of_le hb3.lt hn11)
      have ne4_11 : b4 ≠ b11 := Nat.ne_of_lt (Nat.lt_of_lt_of_le hb4.lt hn11)
      have ne8_11 : b8 ≠ b11 := Nat.ne_of_lt (Nat.lt_of_lt_of_le hb8.lt hn11)
      have ne10_11 : b10 ≠ b11 := Nat.ne_of_lt (Nat.lt_of_lt_of_le hb10.lt hn11)
      have fr11 := Nat.le_trans hX.size hn11
      have hb2 := hb2.extNo hE13
      have hb3 := hb3.extNo hE13
      have hb4 := hb4.extNo hE13
      have hb8 := hb8.extNo hE13
      have hb10 := hb10.extNo hE13
      have hq := hq.ext hE13 fun _ _ => id
      have hX := hX.thenNo hE13
      have hb11o := hb11
      refine wl (st_stW (l' := objC ((toHp l).kObj (((toHp l).kObj x 2).leaves[i]).id 1) (kObjP l (((toHp l).kObj x 2).leaves[i]).id 1)) I_ok hb11 rfl rfl (objC_len (h.kIn _ 1)) (by rw [objC_len (h.kIn _ 1)]; rfl) OneC.h fun w14 hb11 hE14 hs14 => ?_)
      have hb2 := hb2.ext1 hE14 ne2_11
      have hb3 := hb3.ext1 hE14 ne3_11
      have hb4 := hb4.ext1 hE14 ne4_11
      have hb8 := hb8.ext1 hE14 ne8_11
      have hb10 := hb10.ext1 hE14 ne10_11
      have hq := hq.extTy hE14 hb11o (by decide)
      have hX := hX.thenNew hE14 fr11
      refine wl_p I_ok rfl (wl_nil (f_then (c_seq (c_seq (c_region (wl_p I_ok rfl (wl_nil (f_then (c_if rfl (fun hc => ?_) (fun hc => ?_))))))))))
      · have hE1 := hE.trans (Hp.txErr_bad hi hok hc)
        have hM := Hp.map_no hE1 hc
        refine c_seq (c_region (wl (st_bd I_ok rfl trivial (l' := [.slice none 0 0]) rfl (wl_p I_ok rfl ?_))))
        refine wl (st_stW (l' := [.slice none 0 0]) I_ok hb4 rfl rfl rfl rfl OneC.h fun w15 hb4 hE15 hs15 => ?_)
        have hX := hX.thenNew hE15 fr4
        refine wl_p I_ok rfl (wl_nil (f_then (c_ret (f_thenR (f_blockR (f_thenR (f_thenR (f_blockR (f_thenR (f_ret [_, _] ⟨⟨b4, 0, rfl, ld_all I_ok rfl rfl hb4.seg rfl⟩, rfl, trivial⟩ ?_))))))))))
        exact ⟨none, 0, by rw [hE1, hM]; rfl, by rw [hM]; exact Own.nil _ _ _, noOwn, hX⟩
      · have hk1 : (toHp l).kErr (((toHp l).kObj x 2).leaves[i]).id 1 = 0 := Decidable.not_not.1 hc
        refine c_skip (f_then (c_region (wl_p I_ok rfl (wl (st_ldb I_ok hb8 rfl rfl (wl_p I_ok rfl (wl (st_ldb I_ok hb10 rfl rfl (wl_p I_ok rfl (wl (st_ld I_ok rfl (hb11.seg.obj (h.kIn _ 1)).text ?_)))))))))))
        refine wl (st_bd I_ok rfl ⟨⟨rfl, by decide⟩, ⟨rfl, by decide⟩, trivial⟩ (l' := (row8 l ((toHp l).kObj x 2).leaves[i]).cells) (by rw [rowZ_c]; rfl) ?_)
        refine wl (st_bs I_ok rfl 2 rfl rowZ_c rfl (by decide) (by decide) ⟨⟨rfl, by decide⟩, trivial⟩ (l' := (row8 l ((toHp l).kObj x 2).leaves[i]).cells) rfl fun b48 w16 hn48 hb48 hE16 hs16 => ?_)
        have hb2 := hb2.extNo hE16
        have hb3 := hb3.extNo hE16
        have hb4 := hb4.extNo hE16
        have hb8 := hb8.extNo hE16
        have hq := hq.ext hE16 fun _ _ => id
        have hX := hX.thenNo hE16
        have hX1 := hX
        have hs48 : Sl w16 (some ⟨b48, 0, none⟩) 1 2 (row8 l ((toHp l).kObj x 2).leaves[i]).cells := ⟨RowD.len _, .inr ⟨b48, 0, rfl, hb48.seg⟩⟩
        have hrm : ((toHp l).rowsOf (((toHp l).kObj x 2).leaves.take i)).length + 1 ≤ maxLen := room_ml (by rw [hrl]; exact Nat.le_trans (Nat.min_le_right _ _) (Nat.le_of_lt hll))
        have hrm2 : (((toHp l).rowsOf (((toHp l).kObj x 2).leaves.take i)).length + 1) * 32 ≤ 140737488355328 := room_by (by rw [hrl]; exact Nat.le_trans (Nat.min_le_right _ _) (Nat.le_of_lt hll))
        refine wl (st_app I_ok rfl 2 32 rfl rfl rfl (by decide) hq (Src.slice (m := 1) hs48 OneC.h) hrm hrm2 fun p17 c17 w17 ho17 hE17 hB17 => ?_)
        dsimp only at ho17 hE17 hB17 ⊢
        have hX := hX1.trans hE17 fun y hy hF => by have := hqn y hF; omega
        have hb2 := hb2.extOwn hq hE17 (by decide)
        have hb3 := hb3.extOwn hq hE17 (by decide)
        have hb4 := hb4.extOwn hq hE17 (by decide)
        have hb8 := hb8.extOwn hq hE17 (by decide)
        have hsz1 := hX1.size
        obtain ⟨q2, k2, e1, e2, hq2⟩ : ∃ q2 k2, q2 = p17 ∧ k2 = c17 ∧ Own w17 q2 ((toHp l).rowsOf (((toHp l).kObj x 2).leaves.take (i + 1))).length k2 73 2 (((toHp l).rowsOf (((toHp l).kObj x 2).leaves.take (i + 1))).flatMap RowD.cells) := ⟨_, _, rfl, rfl, by
          rw [rowsOf_take hi, List.flatMap_append, List.length_append]
          simpa using ho17⟩
        rw [← e1] at hB17
        rw [← e1, ← e2]
        have hqn2 : (∀ y, OwnB q2 y → w.heap.size ≤ y) := fun x hx => (hB17 x hx).elim (fun h => hqn x h) fun h => by omega
        refine wl_p I_ok rfl ?_
        have hb8o := hb8
        refine wl (st_st I_ok hb8 rfl rfl rfl fun w18 hb8 hE18 hs18 => ?_)
        have hb2 := hb2.ext1 hE18 ne2_8
        have hb3 := hb3.ext1 hE18 ne3_8
        have hb4 := hb4.ext1 hE18 ne4_8
        have hq2 := hq2.extTy hE18 hb8o (by decide)
        have hX := hX.thenNew hE18 fr8
        have hb8 : Blk w18 b8 76 ([.slice q2 ((toHp l).rowsOf (((toHp l).kObj x 2).leaves.take (i + 1))).length k2]) := (by
          rw [rowsOf_take hi, List.length_append]
          exact hb8)
        refine wl_nil (f_blockN (f_then (c_region (wl_p I_ok rfl ?_))))
        rw [IntWalk.i64_in _ (by omega)]
        refine wl_nil ?_
        exact f_round (i + 1, q2, k2) rfl ⟨⟨hi, fun y hy => by rw [List.take_succ_eq_append_getElem hi] at hy; rcases List.mem_append.1 hy with hy | hy; exact hok y hy; rw [List.mem_singleton.1 hy]; exact hk1, hq2, hqn2⟩, hb2, hb3, hb4, hb8, hX⟩ (by first | omega | (dsimp only; omega))
    · have h0 : i = ((toHp l).kObj x 2).leaves.length := by omega
      subst h0
      rw [List.take_length] at hok hq hb8
      have hE0 := hE.trans (Hp.txErr_ok hok)
      have hM := Hp.map_ok hE0
      refine c_exit (f_thenE (f_thenE (f_blockE (f_then (c_seq (c_region (wl (st_ldB I_ok hb8 rfl rfl ?_))))))))
      have hb4o := hb4
      refine wl (st_stW (l' := [.slice q ((toHp l).rowsOf ((toHp l).kObj x 2).leaves).length k]) I_ok hb4 rfl rfl rfl rfl OneC.h fun w19 hb4 hE19 hs19 => ?_)
      have hq := hq.extTy hE19 hb4o (by decide)
      have hX := hX.thenNew hE19 fr4
      refine wl_p I_ok rfl (wl_nil (f_then (c_ret (f_ret [_, _] ⟨⟨b4, 0, rfl, ld_all I_ok rfl rfl hb4.seg rfl⟩, rfl, trivial⟩ ?_))))
      exact ⟨q, k, by rw [hE0, hM]; rfl, by rw [hM]; exact hq, hqn, hX⟩
end Go.Proofs.YtpcdihkcenfgkaaGreat
namespace Go.Proofs.YtpcdihkcenfgkaaGreat
open Go.Vc
theorem top_take {h : Hp} {L : List IdB} {i : Nat} (hi : i < L.length) : h.top (L.take (i + 1)) = max (h.top (L.take i)) ((h.kObj L[i] 3).number + 1) := by
  rw [List.take_succ_eq_append_getElem hi, Hp.top, List.foldl_append]; rfl
theorem max_u32 {t n m : Nat} (h : n < m) (hm : m < 2 ^ 32) : (if (t : Int) < IntKind.u32.wrap ((n : Int) + 1) then IntKind.u32.wrap ((n : Int) + 1) else (t : Int)) = ((max t (n + 1) : Nat) : Int) := by
  rw [IntWalk.u32_in _ (by omega)]
  split <;> omega
theorem top_le {h : Hp} {m : Nat} {L : List IdB} (hL : ∀ p ∈ L, (h.kObj p 3).number < m) : h.top L ≤ m := by
  have : ∀ (L : List IdB) (t : Nat), t ≤ m → (∀ p ∈ L, (h.kObj p 3).number < m) → L.foldl (fun t p => max t ((h.kObj p 3).number + 1)) t ≤ m := by
    intro L
    induction L with
    | nil => intro t ht _; exact ht
    | cons a L ih =>
      intro t ht hL
      have := hL a List.mem_cons_self
      exact ih _ (by show max t _ ≤ m; omega) fun p hp => hL p (List.mem_cons_of_mem _ hp)
  exact this _ 0 (Nat.zero_le _) hL
theorem par_no {h : Hp} {o : ObjD} {i : Nat} (hi : i < o.parents.length) (hc : ¬ (h.kErr o.parents[i] 3 = 0 ∧ (h.kObj o.parents[i] 3).number < o.number)) : ¬ h.ParOk o := fun k => hc (k.1 _ (List.getElem_mem hi))
theorem parents8_calls (w : World) {p : Option Addr} {c : Nat} {l : List HeldT} (h : HpIn w p l) {o : ObjD} {a : ObjP} (ho : ObjIn o) (hol : ObjL w o a) (hos : Short o) :
    CallsV Tryz.prog 43 [.agg #[.slice p l.length c], .agg (objC o a).toArray] w fun v w' => v = .bool (decide ((toHp l).ParOk o)) ∧ Ext No w w' := by
  have hll := hos.parents
  have hnu := ho.number
  refine calls_enter Tryz.func43 rfl rfl rfl rfl ?_
  have hX := Ext.refl No w
  refine c_seq (c_region (wl (st_al I_ok rfl fun b2 w1 hn2 hb2 hE1 => ?_)))
  have hX := hX.thenNo hE1
  have hb2 : Blk w1 b2 26 ([.slice p l.length c]) := hb2
  refine wl (st_al I_ok rfl fun b3 w2 hn3 hb3 hE2 => ?_)
  have hb2 := hb2.extNo hE2
  have hX := hX.thenNo hE2
  have hb3 : Blk w2 b3 48 (objC o a) := hb3
  refine wl_p I_ok rfl (wl_nil (f_then (c_seq (c_region (wl_p I_ok rfl (wl_nil (f_then (c_seq (c_seq (c_region (wl_p I_ok rfl (wl (st_ld I_ok rfl (hb3.seg.obj ho).parents (wl_p I_ok rfl (wl_nil (f_then (c_block ?_)))))))))))))))))
  refine c_loopK (α := Nat) [2, 3, 11, 12] rfl (fun z => [(5, .int .u32 ((toHp l).top (o.parents.take z) : Int)), (13, .int .i64 (z : Int))]) (fun z u => (z ≤ o.parents.length ∧ ∀ y ∈ o.parents.take z, (toHp l).kErr y 3 = 0 ∧ ((toHp l).kObj y 3).number < o.number) ∧ Blk u b2 26 ([.slice p l.length c]) ∧ Blk u b3 48 (objC o a) ∧ Ext No w u) (fun z u => o.parents.length - z) (0) rfl ⟨⟨Nat.zero_le _, fun _ h => by simp at h⟩, hb2, hb3, hX⟩ ?_
  rintro i w3 ⟨⟨hi, hok⟩, hb2, hb3, hX⟩
  refine c_seq (c_region (wl_p I_ok rfl (wl_nil (f_then (c_seq (c_if rfl (fun hc => ?_) (fun hc => ?_)))))))
  · have hi : i < o.parents.length := by omega
    obtain ⟨qb, qoff, hp, hsq⟩ := hol.parents.rowAll (fun r hr => IdIn.len (ho.parents r hr)) (by omega)
    rw [hp]
    have ha1 : IdIn o.parents[i] := ho.parents _ (List.getElem_mem hi)
    refine c_skip (f_then (c_seq (c_block (c_seq (c_region (wl (st_ix I_ok rfl 32 rfl i rfl (by omega) (qoff + i * 32) rfl (wl (st_ldN I_ok rfl ((hsq i hi).extNo hX) ha1.len (wl (st_al I_ok rfl fun b7 w4 hn7 hb7 hE4 => ?_)))))))))))
    have ne2_7 : b2 ≠ b7 := Nat.ne_of_lt (Nat.lt_of_lt_of_le hb2.lt hn7)
    have ne3_7 : b3 ≠ b7 := Nat.ne_of_lt (Nat.lt_of_lt_of_le hb3.lt hn7)
    have fr7 := Nat.le_trans hX.size hn7
    have hb2 := hb2.extNo hE4
    have hb3 := hb3.extNo hE4
    have hX := hX.thenNo hE4
    refine wl (st_stW (l' := bytesU o.parents[i]) I_ok hb7 rfl rfl ha1.len (by rw [bytesU_len, ha1]; rfl) OneC.h fun w5 hb7 hE5 hs5 => ?_)
    have hb2 := hb2.ext1 hE5 ne2_7
    have hb3 := hb3.ext1 hE5 ne3_7
    have hX := hX.thenNew hE5 fr7
    refine wl_nil (f_then (c_seq (c_region (wl (st_ldB I_ok hb2 rfl rfl (wl (st_ldB I_ok hb7 rfl ha1.len (wl (st_call Tryz.call31 rfl rfl rfl rfl rfl rfl (commit8_calls w5 (h.extNo hX) ha1) fun v6 w6 hr6 => ?_)))))))))
    obtain ⟨rfl, hE6⟩ := hr6
    have hb2 := hb2.extNo hE6
    have hb3 := hb3.extNo hE6
    have hX := hX.thenNo hE6
    refine wl_p I_ok rfl (wl (st_al I_ok rfl fun b8 w7 hn8 hb8 hE7 => ?_))
    have ne2_8 : b2 ≠ b8 := Nat.ne_of_lt (Nat.lt_of_lt_of_le hb2.lt hn8)
    have ne3_8 : b3 ≠ b8 := Nat.ne_of_lt (Nat.lt_of_lt_of_le hb3.lt hn8)
    have fr8 := Nat.le_trans hX.size hn8
    have hb2 := hb2.extNo hE7
    have hb3 := hb3.extNo hE7
    have hX := hX.thenNo hE7
    refine wl (st_stW (l' := objC ((toHp l).kObj o.parents[i] 3) (kObjP l o.parents[i] 3)) I_ok hb8 rfl rfl (objC_len (HpIn.kIn h _ 3)) (by rw [objC_len (HpIn.kIn h _ 3)]; rfl) OneC.h fun w8 hb8 hE8 hs8 => ?_)
    have hb2 := hb2.ext1 hE8 ne2_8
    have hb3 := hb3.ext1 hE8 ne3_8
    have hX := hX.thenNew hE8 fr8
    refine wl_p I_ok rfl (wl_nil (f_then (c_seq ?_)))
    refine c_cutK (α := Bool) [2, 3, 5, 8, 11, 12, 13] rfl (fun z => [(31, .bool z)]) (fun z u => u = w8 ∧ z = decide (¬ ((toHp l).kErr o.parents[i] 3 = 0 ∧ ((toHp l).kObj o.parents[i] 3).number < o.number))) ?_ ?_
    · refine c_region ?_
      refine wl_p I_ok rfl (wl_caseD 25 rfl (fun hg => ?_) (fun hg => ?_))
      · refine wl_pk I_ok 6 rfl ?_
        refine wl_nil ?_
        exact f_cut (true) rfl ⟨rfl, by symm; rw [decide_eq_true_eq]; exact fun k => hg k.1⟩
      · refine wl_pk I_ok 1 rfl ?_
        refine wl (st_ld I_ok rfl (hb8.seg.obj (HpIn.kIn h _ 3)).number (wl_pk I_ok 1 rfl (wl (st_ld I_ok rfl (hb3.seg.obj ho).number (wl_pk I_ok 2 rfl (wl_nil ?_))))))
        exact f_cut (_) rfl ⟨rfl, by rw [decide_eq_decide]; exact ⟨fun k k2 => absurd k2.2 (by omega), fun k => by have : ¬ _ := fun k2 => k ⟨Decidable.not_not.1 hg, k2⟩; omega⟩⟩
    rintro z w9 ⟨hu, rfl⟩
    have hu := hu.symm
    subst hu
    refine c_cond rfl (fun hc => ?_) (fun hc => ?_)
    · have hbad := par_no hi (of_decide_eq_true hc)
      refine c_seq (c_region (wl_p I_ok rfl (wl_nil (f_then (c_ret (f_thenR (f_blockR (f_thenR (f_thenR (f_blockR (f_thenR (f_ret1 rfl rfl ?_))))))))))))
      exact ⟨congrArg Value.bool (decide_eq_false hbad).symm, hX⟩
    · have hgd := Decidable.not_not.1 (of_decide_eq_false hc)
      have hlt := hgd.2
      have htl := top_le (h := toHp l) fun y hy => (hok y hy).2
      refine c_skip (f_then (c_region (wl_p I_ok rfl (wl (st_ld I_ok rfl (hb8.seg.obj (HpIn.kIn h _ 3)).number (wl_p I_ok rfl (wl_nil (f_blockN (f_then (c_region (wl_p I_ok rfl ?_)))))))))))
      rw [IntWalk.i64_in _ (by omega)]
      refine wl_nil ?_
      exact f_round (i + 1) (by rw [top_take hi, max_u32 hlt hnu]; rfl) ⟨⟨hi, fun y hy => by rw [List.take_succ_eq_append_getElem hi] at hy; rcases List.mem_append.1 hy with hy | hy; exact hok y hy; rw [List.mem_singleton.1 hy]; exact hgd⟩, hb2, hb3, hX⟩ (by first | omega | (dsimp only; omega))
  · have h0 : i = o.parents.length := by omega
    subst h0
    rw [List.take_length] at hok ⊢
    refine c_exit (f_thenE (f_thenE (f_blockE (f_then (c_seq (c_region (wl_p I_ok rfl (wl (st_ld I_ok rfl (hb3.seg.obj ho).number (wl_p I_ok rfl (wl_nil (f_then (c_ret (f_ret1 rfl rfl ?_))))))))))))))
    exact ⟨congrArg Value.bool (by rw [decide_eq_decide]; exact ⟨fun k => ⟨hok, by omega⟩, fun k => by rw [k.2]⟩), hX⟩
end Go.Proofs.YtpcdihkcenfgkaaGreat
