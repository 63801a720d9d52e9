/-
  Walks and laws towards: UploadLinksSaid , walked
-/
import Derived.Test.YtpcdihkcenfgkaaGreatLnC
namespace Go.Proofs.YtpcdihkcenfgkaaGreat
open Go.Vc
theorem laid_le {x : ObjD} (hx : ObjIn x) (hf : BytesIn x) : (laidB x).length ≤ 100000 := by
  rcases hf.k with h1 | h1 | h1
  · have := hf.text h1
    rw [laidB, if_pos h1, List.length_append, be_len, strB_len]
    omega
  · obtain ⟨hl, hp⟩ := hf.leaves h1
    have h2 : (x.leaves.flatMap leafB).length ≤ x.leaves.length * 100 := flat_le fun r hr => leafB_le (hp r hr) (hx.leaves r hr).2
    rw [laidB, if_neg (by omega), if_pos h1, treeB, List.length_append, List.length_append, be_len, be_len]
    omega
  · obtain ⟨hl, hp⟩ := hf.rows h1
    obtain ⟨hpl, _⟩ := hf.com h1
    have hnl := hf.note h1
    have h2 : (x.rows.flatMap chgB).length ≤ x.rows.length * 400 := flat_le fun r hr => chgB_le (hp r hr)
    have htr := hx.tree
    have hba := hx.base
    have hpf := flatten_len (n := 32) hx.parents
    rw [laidB, if_neg (by omega), if_neg (by omega), comB]
    simp only [List.length_append, be_len, strB_len]
    omega
theorem right6_calls (w : World) {x : ObjD} {a : ObjP} (hx : ObjIn x) (hxl : ObjL w x a) (hsx : Short x) :
    CallsV Tryz.prog 59 [.agg (objC x a).toArray] w fun v w' => v = .bool (decide (ObjOk x)) ∧ Ext No w w' := by
  refine calls_enter Tryz.func59 rfl rfl rfl rfl ?_
  have hX := Ext.refl No w
  refine c_seq (c_region (wl (st_al I_ok rfl fun b1 w1 hn1 hb1 hE1 => ?_)))
  have fr1 := Nat.le_trans hX.size hn1
  have hX := hX.thenNo hE1
  have hb1 : Blk w1 b1 48 (objC x a) := hb1
  refine wl_p I_ok rfl (wl_nil (f_then (c_cutK (α := Bool) [] rfl (fun z => [(2, .bool z)]) (fun z u => (z = decide (ObjOk x)) ∧ Ext No w u) ?_ ?_)))
  · refine c_region ?_
    refine wl (st_ldB I_ok hb1 rfl (objC_len hx) (wl (st_call Tryz.call87 rfl rfl rfl rfl rfl rfl (fields6_calls w1 hx (hxl.extNo hX) hsx) fun v2 w2 hr2 => ?_)))
    obtain ⟨rfl, hE2⟩ := hr2
    have hb1 := hb1.extNo hE2
    have hX := hX.thenNo hE2
    refine wl_p I_ok rfl (wl_caseD 5 rfl (fun hg => ?_) (fun hg => ?_))
    · have hf := hg
      refine wl (st_ldB I_ok hb1 rfl (objC_len hx) (wl (st_call Tryz.call60 rfl rfl rfl rfl rfl rfl (bytes6_calls w2 hx (hxl.extNo hX) (bytes_of hf)) fun v3 w3 hr3 => ?_)))
      obtain ⟨q, k, rfl, hq, hqn, hE3⟩ := hr3
      have hb1 := hb1.extNo hE3
      have hX := hX.thenNo hE3
      refine wl_pk I_ok 4 rfl (wl_nil ?_)
      exact f_cut (_) rfl ⟨by rw [decide_eq_decide]; exact ⟨fun h => ⟨hf, by omega⟩, fun h => by have := h.2; omega⟩, hX⟩
    · have hf := hg
      refine wl_pk I_ok 6 rfl (wl_nil ?_)
      exact f_cut (false) rfl ⟨by symm; rw [decide_eq_false_iff_not]; exact fun h => hf h.1, hX⟩
  rintro z w4 ⟨rfl, hX⟩
  refine c_ret (f_ret1 rfl rfl ?_)
  exact ⟨rfl, hX⟩

theorem id6_calls (w : World) {x : ObjD} {a : ObjP} (hx : ObjIn x) (hxl : ObjL w x a) (hf : BytesIn x) :
    CallsV Tryz.prog 33 [.agg (objC x a).toArray] w fun v w' => v = .agg (bytesU (idOf x)).toArray ∧ Ext No w w' := by
  have hle := laid_le hx hf
  refine calls_enter Tryz.func33 rfl rfl rfl rfl ?_
  have hX := Ext.refl No w
  refine c_seq (c_region (wl (st_al I_ok rfl fun b1 w1 hn1 hb1 hE1 => ?_)))
  have fr1 := Nat.le_trans hX.size hn1
  have hX := hX.thenNo hE1
  have hb1 : Blk w1 b1 48 (objC x a) := hb1
  refine wl (st_al I_ok rfl fun b2 w2 hn2 hb2 hE2 => ?_)
  have ne1_2 : b1 ≠ b2 := Nat.ne_of_lt (Nat.lt_of_lt_of_le hb1.lt hn2)
  have fr2 := Nat.le_trans hX.size hn2
  have hb1 := hb1.extNo hE2
  have hX := hX.thenNo hE2
  refine wl_nil (f_then (c_seq (c_region (wl (st_ldB I_ok hb1 rfl (objC_len hx) (wl (st_call Tryz.call60 rfl rfl rfl rfl rfl rfl (bytes6_calls w2 hx (hxl.extNo hX) hf) fun v3 w3 hr3 => ?_)))))))
  obtain ⟨q, k, rfl, hq, hqn, hE3⟩ := hr3
  have hb1 := hb1.extNo hE3
  have hb2 := hb2.extNo hE3
  have hX := hX.thenNo hE3
  refine wl (st_call Tryz.call68 rfl rfl rfl rfl rfl rfl (refSum_calls w3 hq.sl (by omega)) fun v4 w4 hr4 => ?_)
  obtain ⟨rfl, hE4⟩ := hr4
  have hb1 := hb1.extNo hE4
  have hb2 := hb2.extNo hE4
  have hX := hX.thenNo hE4
  refine wl (st_stW (l' := bytesU (idOf x)) I_ok hb2 rfl rfl (by rw [bytesU_len, idOf_len]) (by rw [bytesU_len, idOf_len]; rfl) OneC.h fun w5 hb2 hE5 hs5 => ?_)
  have hb1 := hb1.ext1 hE5 ne1_2
  have hX := hX.thenNew hE5 fr2
  refine wl_nil (f_then (c_ret (f_ret [_] ⟨⟨b2, 0, rfl, ld_all I_ok rfl rfl hb2.seg (by rw [bytesU_len, idOf_len]; rfl)⟩, trivial⟩ ?_)))
  exact ⟨rfl, hX⟩

theorem same6_calls (w : World) {x y : ObjD} {a b : ObjP} (hx : ObjIn x) (hy : ObjIn y) (hxl : ObjL w x a) (hyl : ObjL w y b) (hsx : Short x) :
    CallsV Tryz.prog 15 [.agg (objC x a).toArray, .agg (objC y b).toArray] w fun v w' => v = .bool (decide (x = y)) ∧ Ext No w w' := by
  have hlx1 := hsx.leaves
  have hlx2 := hsx.parents
  have hlx3 := hsx.rows
  refine calls_enter Tryz.func15 rfl rfl rfl rfl ?_
  have hX := Ext.refl No w
  refine c_seq (c_region (wl (st_al I_ok rfl fun b2 w1 hn2 hb2 hE1 => ?_)))
  have fr2 := Nat.le_trans hX.size hn2
  have hX := hX.thenNo hE1
  have hb2 : Blk w1 b2 48 (objC x a) := hb2
  have oa := hb2.seg.obj hx
  refine wl (st_al I_ok rfl fun b3 w2 hn3 hb3 hE2 => ?_)
  have ne2_3 : b2 ≠ b3 := Nat.ne_of_lt (Nat.lt_of_lt_of_le hb2.lt hn3)
  have fr3 := Nat.le_trans hX.size hn3
  have hb2 := hb2.extNo hE2
  have oa := oa.extNo hE2
  have hX := hX.thenNo hE2
  have hb3 : Blk w2 b3 48 (objC y b) := hb3
  have ob := hb3.seg.obj hy
  refine wl_p I_ok rfl (wl_nil (f_then (c_seq ?_)))
  refine c_cutK (α := Bool) [2, 3] rfl (fun z => [(34, .bool z)]) (fun z u => (z = decide (¬ (x.leaves.length = y.leaves.length ∧ x.parents.length = y.parents.length ∧ x.rows.length = y.rows.length))) ∧ Blk u b2 48 (objC x a) ∧ Blk u b3 48 (objC y b) ∧ Ext No w u) ?_ ?_
  · refine c_region ?_
    refine wl_p I_ok rfl (wl (st_ld I_ok rfl oa.leaves (wl_p I_ok rfl (wl (st_ld I_ok rfl ob.leaves (wl_p I_ok rfl (wl_caseD 15 rfl (fun hg => ?_) (fun hg => ?_))))))))
    · refine wl_pk I_ok 19 rfl ?_
      refine wl_nil ?_
      exact f_cut (true) rfl ⟨by symm; rw [decide_eq_true_eq]; intro h; omega, hb2, hb3, hX⟩
    · refine wl_pk I_ok 1 rfl ?_
      refine wl (st_ld I_ok rfl oa.parents (wl_pk I_ok 2 rfl (wl (st_ld I_ok rfl ob.parents (wl_pk I_ok 4 rfl (wl_caseD 24 rfl (fun hg => ?_) (fun hg => ?_)))))))
      · refine wl_pk I_ok 10 rfl ?_
        refine wl_nil ?_
        exact f_cut (true) rfl ⟨by symm; rw [decide_eq_true_eq]; intro h; omega, hb2, hb3, hX⟩
      · refine wl_pk I_ok 2 rfl ?_
        refine wl (st_ld I_ok rfl oa.rows (wl_pk I_ok 3 rfl (wl (st_ld I_ok rfl ob.rows (wl_pk I_ok 3 rfl (wl_nil ?_))))))
        exact f_cut (_) rfl ⟨by rw [decide_eq_decide]; omega, hb2, hb3, hX⟩
  rintro z w3 ⟨rfl, hb2, hb3, hX⟩
  have oa := hb2.seg.obj hx
  have ob := hb3.seg.obj hy
  refine c_if rfl (fun hc => ?_) (fun hc => ?_)
  · refine c_seq ?_
    refine c_region (wl_p I_ok rfl (wl_nil (f_then (c_ret (f_thenR (f_ret1 rfl rfl ?_))))))
    exact ⟨congrArg Value.bool (by symm; rw [decide_eq_false_iff_not]; intro e; subst e; exact hc ⟨rfl, rfl, rfl⟩), hX⟩
  · obtain ⟨hl1, hl2, hl3⟩ := Decidable.not_not.1 hc
    refine c_skip (f_then (c_seq (c_seq (c_region (wl_p I_ok rfl (wl (st_ld I_ok rfl oa.leaves (wl_p I_ok rfl (wl_nil (f_then (c_block ?_)))))))))))
    refine c_loopK (α := Nat) [2, 3, 37] rfl (fun z => [(38, .int .i64 (z : Int))]) (fun z u => (z ≤ x.leaves.length ∧ ∀ k (hk : k < x.leaves.length), k < z → x.leaves[k] = y.leaves[k]'(by omega)) ∧ Blk u b2 48 (objC x a) ∧ Blk u b3 48 (objC y b) ∧ Ext No w u) (fun z u => x.leaves.length - z) (0) rfl ⟨⟨Nat.zero_le _, fun k _ h => absurd h (Nat.not_lt_zero _)⟩, hb2, hb3, hX⟩ ?_
    rintro i w4 ⟨⟨hi, hok⟩, hb2, hb3, hX⟩
    have oa := hb2.seg.obj hx
    have ob := hb3.seg.obj hy
    refine c_seq (c_region (wl_p I_ok rfl (wl_nil (f_then (c_seq (c_if rfl (fun hc => ?_) (fun hc => ?_)))))))
    · have hi : i < x.leaves.length := by omega
      have him : i < y.leaves.length := by omega
      obtain ⟨ba, oa1, hpa, hsa⟩ := hxl.leaves.rowAll (fun r hr => LeafD.len (hx.leaves r hr).2) (by omega)
      obtain ⟨bb, ob1, hpb, hsb⟩ := hyl.leaves.rowAll (fun r hr => LeafD.len (hy.leaves r hr).2) (by omega)
      have ha1 := hx.leaves _ (List.getElem_mem hi)
      have ha2 := hy.leaves _ (List.getElem_mem him)
      refine c_skip (f_then (c_seq (c_block (c_seq (c_region (wl_p I_ok rfl (wl_nil (f_then (c_seq ?_)))))))))
      refine c_draw rfl 11 [(0, true), (1, true), (2, true), (3, true), (4, true), (5, true), (6, true), (7, true), (8, true), (9, true), (10, true)] [] (No) (by kernel_rfl) fun w5 hE5 hs5 => ?_
      have hd2 := hb2
      have hd3 := hb3
      have oad := oa
      have obd := ob
      have hXd := hX
      have hb2 := hb2.extNo hE5
      have hb3 := hb3.extNo hE5
      have oa := oa.extNo hE5
      have ob := ob.extNo hE5
      have hX := hX.thenNo hE5
      have hC : Ext (No) _ w5 := hE5.no
      refine wd_k I_ok 1 rfl (wd_ld I_ok rfl rfl (fun w' hw' => (oad.extNo hw').leaves) ?_)
      rw [hpa]
      refine wd_k I_ok 1 rfl (wd_ix I_ok rfl rfl 33 rfl i rfl (by omega) (oa1 + i * 33) rfl (wd_ldN I_ok rfl rfl (fun w' hw' => ((hsa i hi).extNo (hXd.thenNo hw'))) (LeafD.len ha1.2) ?_))
      refine wd_k I_ok 1 rfl (wd_ld I_ok rfl rfl (fun w' hw' => (obd.extNo hw').leaves) ?_)
      rw [hpb]
      refine wd_k I_ok 1 rfl (wd_ix I_ok rfl rfl 33 rfl i rfl (by omega) (ob1 + i * 33) rfl (wd_ldN I_ok rfl rfl (fun w' hw' => ((hsb i him).extNo (hXd.thenNo hw'))) (LeafD.len ha2.2) ?_))
      refine wd_eqK rfl rfl gLeafD 10 (by decide) kLeafD (leafForm (LeafD.len ha1.2)) (leafForm (LeafD.len ha2.2)) (leafKey ha1.1 ha1.2) (leafKey ha2.1 ha2.2) leaf_eq ?_
      simp only [Bool.false_eq_true, if_false]
      refine wd_sw (wb_nil (f_then (c_if rfl (fun hc => ?_) (fun hc => ?_))))
      · refine c_seq ?_
        refine c_region (wl_p I_ok rfl (wl_nil (f_then (c_ret (f_blockR (f_thenR (f_thenR (f_blockR (f_thenR (f_ret1 rfl rfl ?_))))))))))
        exact ⟨congrArg Value.bool (by symm; rw [decide_eq_false_iff_not]; intro e; subst e; exact hc rfl), hX⟩
      · have hei := Decidable.not_not.1 hc
        refine c_skip (f_blockN (f_then (c_region (wl_p I_ok rfl ?_))))
        rw [IntWalk.i64_in _ (by omega)]
        refine wl_nil ?_
        exact f_round (i + 1) rfl ⟨⟨by omega, fun k hk hlt => (by rcases Nat.lt_or_ge k i with h0 | h0; exact hok k hk h0; (have e : k = i := (by omega)); subst e; exact hei)⟩, hb2, hb3, hX⟩ (by first | omega | (dsimp only; omega))
    · have e1 : x.leaves = y.leaves := list_ext hl1 fun k hk => hok k hk (by omega)
      refine c_exit (f_thenE (f_thenE (f_blockE (f_then (c_seq (c_seq (c_region (wl_p I_ok rfl (wl (st_ld I_ok rfl oa.parents (wl_p I_ok rfl (wl_nil (f_then (c_block ?_))))))))))))))
      refine c_loopK (α := Nat) [2, 3, 55] rfl (fun z => [(56, .int .i64 (z : Int))]) (fun z u => (z ≤ x.parents.length ∧ ∀ k (hk : k < x.parents.length), k < z → x.parents[k] = y.parents[k]'(by omega)) ∧ Blk u b2 48 (objC x a) ∧ Blk u b3 48 (objC y b) ∧ Ext No w u) (fun z u => x.parents.length - z) (0) rfl ⟨⟨Nat.zero_le _, fun k _ h => absurd h (Nat.not_lt_zero _)⟩, hb2, hb3, hX⟩ ?_
      rintro i w6 ⟨⟨hi, hok⟩, hb2, hb3, hX⟩
      have oa := hb2.seg.obj hx
      have ob := hb3.seg.obj hy
      refine c_seq (c_region (wl_p I_ok rfl (wl_nil (f_then (c_seq (c_if rfl (fun hc => ?_) (fun hc => ?_)))))))
      · have hi : i < x.parents.length := by omega
        have him : i < y.parents.length := by omega
        obtain ⟨ba, oa1, hpa, hsa⟩ := hxl.parents.rowAll (fun r hr => IdIn.len (hx.parents r hr)) (by omega)
        obtain ⟨bb, ob1, hpb, hsb⟩ := hyl.parents.rowAll (fun r hr => IdIn.len (hy.parents r hr)) (by omega)
        have ha1 : IdIn _ := hx.parents _ (List.getElem_mem hi)
        have ha2 : IdIn _ := hy.parents _ (List.getElem_mem him)
        refine c_skip (f_then (c_seq (c_block (c_seq (c_region (wl_p I_ok rfl (wl_nil (f_then (c_seq ?_)))))))))
        refine c_draw rfl 11 [(0, true), (1, true), (2, true), (3, true), (4, true), (5, true), (6, true), (7, true), (8, true), (9, true), (10, true)] [] (No) (by kernel_rfl) fun w7 hE7 hs7 => ?_
        have hd2 := hb2
        have hd3 := hb3
        have oad := oa
        have obd := ob
        have hXd := hX
        have hb2 := hb2.extNo hE7
        have hb3 := hb3.extNo hE7
        have oa := oa.extNo hE7
        have ob := ob.extNo hE7
        have hX := hX.thenNo hE7
        have hC : Ext (No) _ w7 := hE7.no
        refine wd_k I_ok 1 rfl (wd_ld I_ok rfl rfl (fun w' hw' => (oad.extNo hw').parents) ?_)
        rw [hpa]
        refine wd_k I_ok 1 rfl (wd_ix I_ok rfl rfl 32 rfl i rfl (by omega) (oa1 + i * 32) rfl (wd_ldN I_ok rfl rfl (fun w' hw' => ((hsa i hi).extNo (hXd.thenNo hw'))) ha1.len ?_))
        refine wd_k I_ok 1 rfl (wd_ld I_ok rfl rfl (fun w' hw' => (obd.extNo hw').parents) ?_)
        rw [hpb]
        refine wd_k I_ok 1 rfl (wd_ix I_ok rfl rfl 32 rfl i rfl (by omega) (ob1 + i * 32) rfl (wd_ldN I_ok rfl rfl (fun w' hw' => ((hsb i him).extNo (hXd.thenNo hw'))) ha2.len ?_))
        refine wd_eqK rfl rfl gId 10 (by decide) kId (idForm ha1) (idForm ha2) (idKey ha1) (idKey ha2) idLits_inj ?_
        simp only [Bool.false_eq_true, if_false]
        refine wd_sw (wb_nil (f_then (c_if rfl (fun hc => ?_) (fun hc => ?_))))
        · refine c_seq ?_
          refine c_region (wl_p I_ok rfl (wl_nil (f_then (c_ret (f_blockR (f_thenR (f_thenR (f_blockR (f_thenR (f_ret1 rfl rfl ?_))))))))))
          exact ⟨congrArg Value.bool (by symm; rw [decide_eq_false_iff_not]; intro e; subst e; exact hc rfl), hX⟩
        · have hei := Decidable.not_not.1 hc
          refine c_skip (f_blockN (f_then (c_region (wl_p I_ok rfl ?_))))
          rw [IntWalk.i64_in _ (by omega)]
          refine wl_nil ?_
          exact f_round (i + 1) rfl ⟨⟨by omega, fun k hk hlt => (by rcases Nat.lt_or_ge k i with h0 | h0; exact hok k hk h0; (have e : k = i := (by omega)); subst e; exact hei)⟩, hb2, hb3, hX⟩ (by first | omega | (dsimp only; omega))
      · have e2 : x.parents = y.parents := list_ext hl2 fun k hk => hok k hk (by omega)
        refine c_exit (f_thenE (f_thenE (f_blockE (f_then (c_seq (c_seq (c_region (wl_p I_ok rfl (wl (st_ld I_ok rfl oa.rows (wl_p I_ok rfl (wl_nil (f_then (c_block ?_))))))))))))))
        refine c_loopK (α := Nat) [2, 3, 74] rfl (fun z => [(75, .int .i64 (z : Int))]) (fun z u => (z ≤ x.rows.length ∧ ∀ k (hk : k < x.rows.length), k < z → x.rows[k] = y.rows[k]'(by omega)) ∧ Blk u b2 48 (objC x a) ∧ Blk u b3 48 (objC y b) ∧ Ext No w u) (fun z u => x.rows.length - z) (0) rfl ⟨⟨Nat.zero_le _, fun k _ h => absurd h (Nat.not_lt_zero _)⟩, hb2, hb3, hX⟩ ?_
        rintro i w8 ⟨⟨hi, hok⟩, hb2, hb3, hX⟩
        have oa := hb2.seg.obj hx
        have ob := hb3.seg.obj hy
        refine c_seq (c_region (wl_p I_ok rfl (wl_nil (f_then (c_seq (c_if rfl (fun hc => ?_) (fun hc => ?_)))))))
        · have hi : i < x.rows.length := by omega
          have him : i < y.rows.length := by omega
          obtain ⟨ba, oa1, hpa, hsa⟩ := hxl.rows.rowAll (fun r _ => r.len) (by omega)
          obtain ⟨bb, ob1, hpb, hsb⟩ := hyl.rows.rowAll (fun r _ => r.len) (by omega)
          have ha1 := hx.rows _ (List.getElem_mem hi)
          have ha2 := hy.rows _ (List.getElem_mem him)
          refine c_skip (f_then (c_seq (c_block (c_seq (c_region (wl_p I_ok rfl (wl_nil (f_then (c_seq ?_)))))))))
          refine c_draw rfl 13 [(0, true), (1, true), (2, true), (3, true), (4, true), (5, true), (6, true), (7, true), (8, true), (9, true), (10, true), (11, true), (12, true)] [] (No) (by kernel_rfl) fun w9 hE9 hs9 => ?_
          have hd2 := hb2
          have hd3 := hb3
          have oad := oa
          have obd := ob
          have hXd := hX
          have hb2 := hb2.extNo hE9
          have hb3 := hb3.extNo hE9
          have oa := oa.extNo hE9
          have ob := ob.extNo hE9
          have hX := hX.thenNo hE9
          have hC : Ext (No) _ w9 := hE9.no
          refine wd_k I_ok 2 rfl (wd_ld I_ok rfl rfl (fun w' hw' => (oad.extNo hw').rows) ?_)
          rw [hpa]
          refine wd_k I_ok 1 rfl (wd_ix I_ok rfl rfl 3 rfl i rfl (by omega) (oa1 + i * 3) rfl (wd_ldN I_ok rfl rfl (fun w' hw' => ((hsa i hi).extNo (hXd.thenNo hw'))) rfl ?_))
          refine wd_k I_ok 2 rfl (wd_ld I_ok rfl rfl (fun w' hw' => (obd.extNo hw').rows) ?_)
          rw [hpb]
          refine wd_k I_ok 1 rfl (wd_ix I_ok rfl rfl 3 rfl i rfl (by omega) (ob1 + i * 3) rfl (wd_ldN I_ok rfl rfl (fun w' hw' => ((hsb i him).extNo (hXd.thenNo hw'))) rfl ?_))
          refine wd_eqK rfl rfl gChgD 10 (by decide) kChgD (chgForm rfl) (chgForm rfl) (chgKey ha1.1 ha1.2) (chgKey ha2.1 ha2.2) chg_eq ?_
          simp only [Bool.false_eq_true, if_false]
          refine wd_sw (wb_nil (f_then (c_if rfl (fun hc => ?_) (fun hc => ?_))))
          · refine c_seq ?_
            refine c_region (wl_p I_ok rfl (wl_nil (f_then (c_ret (f_blockR (f_thenR (f_thenR (f_blockR (f_thenR (f_ret1 rfl rfl ?_))))))))))
            exact ⟨congrArg Value.bool (by symm; rw [decide_eq_false_iff_not]; intro e; subst e; exact hc rfl), hX⟩
          · have hei := Decidable.not_not.1 hc
            refine c_skip (f_blockN (f_then (c_region (wl_p I_ok rfl ?_))))
            rw [IntWalk.i64_in _ (by omega)]
            refine wl_nil ?_
            exact f_round (i + 1) rfl ⟨⟨by omega, fun k hk hlt => (by rcases Nat.lt_or_ge k i with h0 | h0; exact hok k hk h0; (have e : k = i := (by omega)); subst e; exact hei)⟩, hb2, hb3, hX⟩ (by first | omega | (dsimp only; omega))
        · have e3 : x.rows = y.rows := list_ext hl3 fun k hk => hok k hk (by omega)
          refine c_exit (f_thenE (f_thenE (f_blockE (f_then (c_cutK (α := Bool) [] rfl (fun z => [(4, .bool z)]) (fun z u => (z = decide (x = y)) ∧ Ext No w u) ?_ ?_)))))
          · refine c_region ?_
            refine wl_p I_ok rfl (wl (st_ld I_ok rfl oa.kind (wl_p I_ok rfl (wl (st_ld I_ok rfl ob.kind (wl_p I_ok rfl (wl_caseD 97 rfl (fun hg => ?_) (fun hg => ?_))))))))
            · have t1 : x.kind = y.kind := by exact hg
              refine wl_pk I_ok 1 rfl (wl (st_ld I_ok rfl oa.text (wl_pk I_ok 1 rfl (wl (st_ld I_ok rfl ob.text (wl_pk I_ok 3 rfl (wl_caseD 104 rfl (fun hg => ?_) (fun hg => ?_))))))))
              · have t2 : x.text = y.text := by exact str_iff.1 hg
                refine wl_pk I_ok 1 rfl (wl (st_ld I_ok rfl oa.style (wl_pk I_ok 1 rfl (wl (st_ld I_ok rfl ob.style (wl_pk I_ok 3 rfl (wl_caseD 111 rfl (fun hg => ?_) (fun hg => ?_))))))))
                · have t3 : x.style = y.style := by exact hg
                  refine wl_pk I_ok 1 rfl (wl (st_ldN I_ok rfl oa.tree (IdIn.len hx.tree) (wl_pk I_ok 1 rfl (wl (st_ldN I_ok rfl ob.tree (IdIn.len hy.tree) ?_)))))
                  refine wl (st_eqK rfl gId 10 (by decide) kId (idForm hx.tree) (idForm hy.tree) (idKey hx.tree) (idKey hy.tree) idLits_inj ?_)
                  simp only [if_true]
                  refine wl_p I_ok rfl (wl_caseD 118 rfl (fun hg => ?_) (fun hg => ?_))
                  · have t4 : x.tree = y.tree := by exact hg
                    refine wl_pk I_ok 1 rfl (wl (st_ldN I_ok rfl oa.base (IdIn.len hx.base) (wl_pk I_ok 1 rfl (wl (st_ldN I_ok rfl ob.base (IdIn.len hy.base) ?_)))))
                    refine wl (st_eqK rfl gId 10 (by decide) kId (idForm hx.base) (idForm hy.base) (idKey hx.base) (idKey hy.base) idLits_inj ?_)
                    simp only [if_true]
                    refine wl_p I_ok rfl (wl_caseD 125 rfl (fun hg => ?_) (fun hg => ?_))
                    · have t5 : x.base = y.base := by exact hg
                      refine wl_pk I_ok 1 rfl (wl (st_ld I_ok rfl oa.number (wl_pk I_ok 1 rfl (wl (st_ld I_ok rfl ob.number (wl_pk I_ok 3 rfl (wl_caseD 132 rfl (fun hg => ?_) (fun hg => ?_))))))))
                      · have t6 : x.number = y.number := by omega
                        refine wl_pk I_ok 1 rfl (wl (st_ld I_ok rfl oa.author (wl_pk I_ok 1 rfl (wl (st_ld I_ok rfl ob.author (wl_pk I_ok 3 rfl (wl_caseD 139 rfl (fun hg => ?_) (fun hg => ?_))))))))
                        · have t7 : x.author = y.author := by omega
                          refine wl_pk I_ok 1 rfl (wl (st_ld I_ok rfl oa.note (wl_pk I_ok 1 rfl (wl (st_ld I_ok rfl ob.note (wl_pk I_ok 3 rfl (wl_nil ?_)))))))
                          exact f_cut (_) rfl ⟨by rw [decide_eq_decide, str_iff]; exact ⟨fun h => same_iff.2 ⟨⟨t1, t2, t3, t4, t5, t6, t7, h⟩, e1, e2, e3⟩, fun h => (same_iff.1 h).1.2.2.2.2.2.2.2⟩, hX⟩
                        · have n7 : ¬ x.author = y.author := fun e => hg (by rw [e])
                          refine wl_pk I_ok 7 rfl (wl_nil ?_)
                          exact f_cut (false) rfl ⟨by symm; rw [decide_eq_false_iff_not]; intro e; have h := (same_iff.1 e).1; exact n7 h.2.2.2.2.2.2.1, hX⟩
                      · have n6 : ¬ x.number = y.number := fun e => hg (by rw [e])
                        refine wl_pk I_ok 14 rfl (wl_nil ?_)
                        exact f_cut (false) rfl ⟨by symm; rw [decide_eq_false_iff_not]; intro e; have h := (same_iff.1 e).1; exact n6 h.2.2.2.2.2.1, hX⟩
                    · have n5 : ¬ x.base = y.base := fun e => hg (by rw [e])
                      refine wl_pk I_ok 21 rfl (wl_nil ?_)
                      exact f_cut (false) rfl ⟨by symm; rw [decide_eq_false_iff_not]; intro e; have h := (same_iff.1 e).1; exact n5 h.2.2.2.2.1, hX⟩
                  · have n4 : ¬ x.tree = y.tree := fun e => hg (by rw [e])
                    refine wl_pk I_ok 28 rfl (wl_nil ?_)
                    exact f_cut (false) rfl ⟨by symm; rw [decide_eq_false_iff_not]; intro e; have h := (same_iff.1 e).1; exact n4 h.2.2.2.1, hX⟩
                · have n3 : ¬ x.style = y.style := fun e => hg (by rw [e])
                  refine wl_pk I_ok 35 rfl (wl_nil ?_)
                  exact f_cut (false) rfl ⟨by symm; rw [decide_eq_false_iff_not]; intro e; have h := (same_iff.1 e).1; exact n3 h.2.2.1, hX⟩
              · have n2 : ¬ x.text = y.text := fun e => hg (by rw [e])
                refine wl_pk I_ok 42 rfl (wl_nil ?_)
                exact f_cut (false) rfl ⟨by symm; rw [decide_eq_false_iff_not]; intro e; have h := (same_iff.1 e).1; exact n2 h.2.1, hX⟩
            · have n1 : ¬ x.kind = y.kind := fun e => hg (by rw [e])
              refine wl_pk I_ok 49 rfl (wl_nil ?_)
              exact f_cut (false) rfl ⟨by symm; rw [decide_eq_false_iff_not]; intro e; have h := (same_iff.1 e).1; exact n1 h.1, hX⟩
          rintro z w10 ⟨rfl, hX⟩
          refine c_ret (f_ret1 rfl rfl ?_)
          exact ⟨rfl, hX⟩
end Go.Proofs.YtpcdihkcenfgkaaGreat
namespace Go.Proofs.YtpcdihkcenfgkaaGreat
open Go.Vc
theorem objC_parents {o : ObjD} {a : ObjP} (h : ObjIn o) {p : Option Addr} {c : Nat} : (objC o a).set (68 + 0) (.slice p o.parents.length c) = objC o ⟨a.lp, a.lc, p, c, a.rp, a.rc⟩ := objC_set h 0 _
theorem objC_rows {o : ObjD} {a : ObjP} (h : ObjIn o) {p : Option Addr} {c : Nat} : (objC o a).set (68 + 1) (.slice p o.rows.length c) = objC o ⟨a.lp, a.lc, a.pp, a.pc, p, c⟩ := objC_set h 1 _
theorem newB {n b : Nat} (h : n ≤ b) : ∀ x, OwnB (some ⟨b, 0, none⟩) x → n ≤ x := fun x hx => by have e : b = x := congrArg Addr.block (Option.some.inj hx); omega
end Go.Proofs.YtpcdihkcenfgkaaGreat
namespace Go.Vc
abbrev IdB := List UInt8
abbrev Hp := List (IdB × ObjD)
def Hp.get (h : Hp) (x : IdB) : Option ObjD := (h.find? fun e => decide (e.1 = x)).map (·.2)
def Hp.err (h : Hp) (x : IdB) : Int := match h.get x with
  | none => 4
  | some o => if ObjOk o then 0 else 160
def Hp.obj (h : Hp) (x : IdB) : ObjD := match h.get x with
  | none => objZ
  | some o => if ObjOk o then o else objZ
/-- the object of a kind -/
def Hp.kErr (h : Hp) (x : IdB) (k : Int) : Int := if h.err x = 0 ∧ (h.obj x).kind ≠ k then 160 else h.err x
def Hp.kObj (h : Hp) (x : IdB) (k : Int) : ObjD := if h.err x = 0 ∧ (h.obj x).kind ≠ k then objZ else h.obj x
/-- the map of a tree -/
def Hp.txErr (h : Hp) (L : List LeafD) : Int := match L.find? (fun l => decide (h.kErr l.id 1 ≠ 0)) with
  | none => 0
  | some l => h.kErr l.id 1
def Hp.rowsOf (h : Hp) (L : List LeafD) : List RowD := L.map fun l => ⟨l.path, (h.kObj l.id 1).text⟩
def Hp.mapE (h : Hp) (x : IdB) : Int := if h.kErr x 2 ≠ 0 then h.kErr x 2 else h.txErr (h.kObj x 2).leaves
def Hp.map (h : Hp) (x : IdB) : List RowD := if h.mapE x ≠ 0 then [] else h.rowsOf (h.kObj x 2).leaves
theorem Hp.txErr_ok {h : Hp} {L : List LeafD} (hL : ∀ l ∈ L, h.kErr l.id 1 = 0) : h.txErr L = 0 := by
  unfold Hp.txErr
  rw [List.find?_eq_none.2 fun l hl => by simp [hL l hl]]
theorem Hp.txErr_bad {h : Hp} {L : List LeafD} {i : Nat} (hi : i < L.length) (hL : ∀ l ∈ L.take i, h.kErr l.id 1 = 0) (hb : h.kErr L[i].id 1 ≠ 0) : h.txErr L = h.kErr L[i].id 1 := by
  unfold Hp.txErr
  have e : L.find? (fun l => decide (h.kErr l.id 1 ≠ 0)) = some L[i] := by
    rw [List.find?_eq_some_iff_append]
    refine ⟨by simpa using hb, L.take i, L.drop (i + 1), by simp, fun l hl => by simp [hL l hl]⟩
  rw [e]
/-- where links lead -/
def Hp.links (h : Hp) (x : IdB) : List IdB := linksOf (h.obj x)
inductive Hp.Leads (h : Hp) (x : IdB) : IdB → Prop
  | here : Hp.Leads h x x
  | on {y z : IdB} : Hp.Leads h x y → z ∈ h.links y → Hp.Leads h x z
def Hp.all (h : Hp) (x : IdB) : List IdB := x :: h.flatMap fun e => linksOf e.2
theorem Hp.obj_mem (h : Hp) (x : IdB) : h.obj x = objZ ∨ ∃ e ∈ h, h.obj x = e.2 := by
  unfold Hp.obj Hp.get
  cases hf : h.find? fun e => decide (e.1 = x) with
  | none => exact .inl rfl
  | some e =>
    simp only [Option.map_some]
    split
    · exact .inr ⟨e, List.mem_of_find?_eq_some hf, rfl⟩
    · exact .inl rfl
theorem linksOf_objZ : linksOf objZ = [] := rfl
theorem Hp.links_all (h : Hp) (x y : IdB) : ∀ z ∈ h.links y, z ∈ h.all x := fun z hz => by
  unfold Hp.links at hz
  rcases h.obj_mem y with e | ⟨e, he, e'⟩
  · rw [e, linksOf_objZ] at hz; cases hz
  · rw [e'] at hz
    exact List.mem_cons_of_mem _ (List.mem_flatMap.2 ⟨e, he, hz⟩)
theorem Hp.Leads.all {h : Hp} {x y : IdB} (hl : h.Leads x y) : y ∈ h.all x := by
  cases hl with
  | here => exact List.mem_cons_self
  | on _ hz => exact h.links_all x _ _ hz
theorem Hp.Leads.sub {h : Hp} {x : IdB} {S : IdB → Prop} (hx : S x) (hS : ∀ y, S y → ∀ z ∈ h.links y, S z) : ∀ y, h.Leads x y → S y := fun y hy => by
  induction hy with
  | here => exact hx
  | on _ hz ih => exact hS _ ih _ hz

/-! ### Rising rows of Ids -/
def idLt (a b : IdB) : Prop := Op.bytesLess a b = true
instance (a b : IdB) : Decidable (idLt a b) := inferInstanceAs (Decidable (_ = true))
theorem idLt_irrefl (a : IdB) : ¬ idLt a a := fun h => bl_asymm a a h h
theorem idLt_asymm {a b : IdB} (h : idLt a b) : ¬ idLt b a := fun k => bl_asymm a b h k
theorem idLt_total (a b : IdB) : idLt a b ∨ a = b ∨ idLt b a := by
  rcases bl_total a b with (h | h) | h
  · exact .inl h
  · exact .inr (.inl h)
  · exact .inr (.inr h)
theorem bl_trans : ∀ (x y z : List UInt8), Op.bytesLess x y = true → Op.bytesLess y z = true → Op.bytesLess x z = true
  | [], [], _, h, _ => by cases h
  | [], _ :: _, [], _, h => by cases h
  | [], _ :: _, _ :: _, _, _ => rfl
  | _ :: _, [], _, h, _ => by cases h
  | _ :: _, _ :: _, [], _, h => by cases h
  | a :: x, b :: y, c :: z, h, k => by
    simp only [Op.bytesLess, Bool.or_eq_true, Bool.and_eq_true, decide_eq_true_eq, beq_iff_eq] at h k ⊢
    rcases h with h | ⟨rfl, h⟩
    · rcases k with k | ⟨rfl, k⟩
      · exact .inl (UInt8.lt_trans h k)
      · exact .inl h
    · rcases k with k | ⟨rfl, k⟩
      · exact .inl k
      · exact .inr ⟨rfl, bl_trans x y z h k⟩
theorem idLt_trans {a b c : IdB} (h : idLt a b) (k : idLt b c) : idLt a c := bl_trans a b c h k
def Rise (l : List IdB) : Prop := l.Pairwise idLt
/-- two sorted rows with the same in them are one -/
theorem sorted_one {α : Type} {R : α → α → Prop} (hirr : ∀ a, ¬ R a a) (hasym : ∀ a b, R a b → ¬ R b a) : ∀ {l m : List α}, l.Pairwise R → m.Pairwise R → (∀ x, x ∈ l ↔ x ∈ m) → l = m
  | [], [], _, _, _ => rfl
  | [], b :: m, _, _, h => by have := (h b).2 List.mem_cons_self; cases this
  | a :: l, [], _, _, h => by have := (h a).1 List.mem_cons_self; cases this
  | a :: l, b :: m, hl, hm, h => by
    have hl' := List.pairwise_cons.1 hl
    have hm' := List.pairwise_cons.1 hm
    have hab : a = b := by
      rcases List.mem_cons.1 ((h a).1 List.mem_cons_self) with e | e
      · exact e
      · rcases List.mem_cons.1 ((h b).2 List.mem_cons_self) with e' | e'
        · exact e'.symm
        · exact absurd (hl'.1 b e') (hasym _ _ (hm'.1 a e))
    subst hab
    congr 1
    refine sorted_one hirr hasym hl'.2 hm'.2 fun x => ⟨fun hx => ?_, fun hx => ?_⟩
    · rcases List.mem_cons.1 ((h x).1 (List.mem_cons_of_mem _ hx)) with e | e
      · subst e; exact absurd (hl'.1 _ hx) (hirr _)
      · exact e
    · rcases List.mem_cons.1 ((h x).2 (List.mem_cons_of_mem _ hx)) with e | e
      · subst e; exact absurd (hm'.1 _ hx) (hirr _)
      · exact e
theorem rise_one {l m : List IdB} (hl : Rise l) (hm : Rise m) (h : ∀ x, x ∈ l ↔ x ∈ m) : l = m := sorted_one idLt_irrefl (fun _ _ h => idLt_asymm h) hl hm h
def insId : List IdB → IdB → List IdB
  | [], x => [x]
  | y :: r, x => if idLt x y then x :: y :: r else y :: insId r x
def withId (l : List IdB) (x : IdB) : List IdB := if x ∈ l then l else insId l x
theorem insId_mem (x : IdB) : ∀ (l : List IdB) (y : IdB), y ∈ insId l x ↔ y = x ∨ y ∈ l
  | [], y => by simp [insId]
  | z :: r, y => by
    unfold insId
    split
    · simp
    · simp only [List.mem_cons, insId_mem x r y]
      constructor
      · rintro (h | h | h); exact .inr (.inl h); exact .inl h; exact .inr (.inr h)
      · rintro (h | h | h); exact .inr (.inl h); exact .inl h; exact .inr (.inr h)
theorem insId_rise (x : IdB) : ∀ {l : List IdB}, Rise l → x ∉ l → Rise (insId l x)
  | [], _, _ => by unfold insId Rise; simp
  | z :: r, h, hx => by
    have h' := List.pairwise_cons.1 h
    unfold insId
    split
    · rename_i hlt
      refine List.pairwise_cons.2 ⟨fun y hy => ?_, h⟩
      rcases List.mem_cons.1 hy with rfl | hy
      · exact hlt
      · exact idLt_trans hlt (h'.1 y hy)
    · rename_i hlt
      refine List.pairwise_cons.2 ⟨fun y hy => ?_, insId_rise x h'.2 fun e => hx (List.mem_cons_of_mem _ e)⟩
      rcases (insId_mem x r y).1 hy with rfl | hy
      · rcases idLt_total z y with e | e | e
        · exact e
        · exact absurd (e ▸ List.mem_cons_self) hx
        · exact absurd e hlt
      · exact h'.1 y hy
theorem withId_mem (l : List IdB) (x y : IdB) : y ∈ withId l x ↔ y = x ∨ y ∈ l := by
  unfold withId
  split
  · rename_i h; exact ⟨.inr, fun e => e.elim (fun e => e ▸ h) id⟩
  · exact insId_mem x l y
theorem withId_rise {l : List IdB} (h : Rise l) (x : IdB) : Rise (withId l x) := by
  unfold withId
  split
  · exact h
  · rename_i hx; exact insId_rise x h hx
theorem foldWith_mem : ∀ (xs l : List IdB) (y : IdB), y ∈ xs.foldl withId l ↔ y ∈ xs ∨ y ∈ l
  | [], l, y => by simp
  | x :: r, l, y => by
    rw [List.foldl_cons, foldWith_mem r, withId_mem, List.mem_cons]
    constructor
    · rintro (h | h | h); exact .inl (.inr h); exact .inl (.inl h); exact .inr h
    · rintro ((h | h) | h); exact .inr (.inl h); exact .inl h; exact .inr (.inr h)
theorem foldWith_rise : ∀ (xs : List IdB) {l : List IdB}, Rise l → Rise (xs.foldl withId l)
  | [], _, h => h
  | x :: r, _, h => foldWith_rise r (withId_rise h x)
/-- a rising row that has as many as another one in which all of it is, is that -/
theorem rise_nodup {l : List IdB} (h : Rise l) : l.Nodup := List.Pairwise.imp (fun {a b} (hab : idLt a b) (e : a = b) => idLt_irrefl b (e ▸ hab)) h
theorem sub_len {l m : List IdB} (hl : l.Nodup) (hs : ∀ x ∈ l, x ∈ m) : l.length ≤ m.length := by
  induction l generalizing m with
  | nil => exact Nat.zero_le _
  | cons a l ih =>
    have hl' := List.nodup_cons.1 hl
    have ha := hs a List.mem_cons_self
    have := ih hl'.2 (m := m.erase a) fun x hx => by
      have hne : x ≠ a := fun e => hl'.1 (e ▸ hx)
      exact (List.mem_erase_of_ne hne).2 (hs x (List.mem_cons_of_mem _ hx))
    rw [List.length_erase_of_mem ha] at this
    have h0 : 0 < m.length := List.length_pos_of_mem ha
    rw [List.length_cons]
    omega
theorem sub_all {l m : List IdB} (hl : l.Nodup) (_hm : m.Nodup) (hs : ∀ x ∈ l, x ∈ m) (hn : m.length ≤ l.length) : ∀ x ∈ m, x ∈ l := fun x hx => by
  refine Classical.byContradiction fun hnl => ?_
  have := sub_len (l := x :: l) (m := m) (List.nodup_cons.2 ⟨hnl, hl⟩) fun y hy => by
    rcases List.mem_cons.1 hy with rfl | hy
    · exact hx
    · exact hs y hy
  rw [List.length_cons] at this
  omega

/-! ### All that an Id leads to -/
open Classical in
noncomputable def Hp.led (h : Hp) (x : IdB) : List IdB := ((h.all x).filter fun y => decide (h.Leads x y)).foldl withId []
theorem Hp.led_rise (h : Hp) (x : IdB) : Rise (h.led x) := foldWith_rise _ List.Pairwise.nil
theorem Hp.led_mem (h : Hp) (x y : IdB) : y ∈ h.led x ↔ h.Leads x y := by
  unfold Hp.led
  rw [foldWith_mem]
  simp only [List.mem_filter, decide_eq_true_eq, List.not_mem_nil, or_false]
  exact ⟨fun e => e.2, fun e => ⟨e.all, e⟩⟩
theorem Hp.led_eq {h : Hp} {x : IdB} {L : List IdB} (hr : Rise L) (hm : ∀ y, y ∈ L ↔ h.Leads x y) : L = h.led x := rise_one hr (h.led_rise x) fun y => (hm y).trans (h.led_mem x y).symm
def Hp.waveGo (h : Hp) (ys acc : List IdB) : List IdB := ys.foldl (fun acc y => (h.links y).foldl withId acc) acc
theorem Hp.waveGo_mem (h : Hp) : ∀ (ys acc : List IdB) (z : IdB), z ∈ h.waveGo ys acc ↔ z ∈ acc ∨ ∃ y ∈ ys, z ∈ h.links y
  | [], acc, z => by simp [Hp.waveGo]
  | y :: r, acc, z => by
    show z ∈ h.waveGo r ((h.links y).foldl withId acc) ↔ _
    rw [Hp.waveGo_mem h r, foldWith_mem]
    constructor
    · rintro ((e | e) | ⟨u, hu, e⟩)
      · exact .inr ⟨y, List.mem_cons_self, e⟩
      · exact .inl e
      · exact .inr ⟨u, List.mem_cons_of_mem _ hu, e⟩
    · rintro (e | ⟨u, hu, e⟩)
      · exact .inl (.inr e)
      · rcases List.mem_cons.1 hu with rfl | hu
        · exact .inl (.inl e)
        · exact .inr ⟨u, hu, e⟩
theorem Hp.waveGo_rise (h : Hp) : ∀ (ys : List IdB) {acc : List IdB}, Rise acc → Rise (h.waveGo ys acc)
  | [], _, ha => ha
  | _y :: r, _, ha => Hp.waveGo_rise h r (foldWith_rise _ ha)
/-- what is on the way -/
structure Hp.Part (h : Hp) (x : IdB) (L : List IdB) : Prop where
  rise : Rise L
  has : x ∈ L
  led : ∀ y ∈ L, h.Leads x y
theorem Hp.Part.wave {h : Hp} {x : IdB} {L : List IdB} (hp : h.Part x L) : h.Part x (h.waveGo L L) := by
  refine ⟨h.waveGo_rise L hp.rise, (h.waveGo_mem L L x).2 (.inl hp.has), fun y hy => ?_⟩
  rcases (h.waveGo_mem L L y).1 hy with e | ⟨u, hu, e⟩
  · exact hp.led y e
  · exact .on (hp.led u hu) e
theorem Hp.Part.done {h : Hp} {x : IdB} {L : List IdB} (hp : h.Part x L) (hn : (h.waveGo L L).length = L.length) : L = h.led x := by
  refine Hp.led_eq hp.rise fun y => ⟨hp.led y, fun hy => ?_⟩
  have hall := sub_all (rise_nodup hp.rise) (rise_nodup hp.wave.rise) (fun z hz => (h.waveGo_mem L L z).2 (.inl hz)) (by omega)
  exact Hp.Leads.sub (S := fun z => z ∈ L) hp.has (fun u hu z hz => hall z ((h.waveGo_mem L L z).2 (.inr ⟨u, hu, hz⟩))) y hy
/-! ### Closed commits -/
def Hp.top (h : Hp) (l : List IdB) : Nat := l.foldl (fun t p => max t ((h.kObj p 3).number + 1)) 0
def Hp.ParOk (h : Hp) (o : ObjD) : Prop := (∀ p ∈ o.parents, h.kErr p 3 = 0 ∧ (h.kObj p 3).number < o.number) ∧ h.top o.parents = o.number
instance (h : Hp) (o : ObjD) : Decidable (h.ParOk o) := inferInstanceAs (Decidable (_ ∧ _))
def Hp.Good (h : Hp) (x : IdB) : Prop := h.err x = 0 ∧ ((h.obj x).kind = 3 → h.mapE (h.obj x).tree = 0 ∧ h.ParOk (h.obj x))
instance (h : Hp) (x : IdB) : Decidable (h.Good x) := inferInstanceAs (Decidable (_ ∧ _))
noncomputable def Hp.closed (h : Hp) (x : IdB) : Int := if h.kErr x 3 ≠ 0 then h.kErr x 3 else if ∀ y ∈ h.led x, h.Good y then 0 else 180
def Hp.num (h : Hp) (x : IdB) : Nat := (h.kObj x 3).number
end Go.Vc
namespace Go.Proofs.YtpcdihkcenfgkaaGreat
open Go.Vc
abbrev toHp (l : List HeldT) : Hp := l.map fun h => (h.id, h.o)
/-- a heap's row -/
structure HpIn (w : World) (p : Option Addr) (l : List HeldT) : Prop where
  sl : Sl w p l.length 105 (l.flatMap heldC)
  ins : ∀ h ∈ l, HeldIn w h
  len : l.length < 1000000
  lk : (l.flatMap fun e => linksOf e.o).length < 100000
theorem HpIn.extNo {w w' : World} {p : Option Addr} {l : List HeldT} (h : HpIn w p l) (hE : Ext No w w') : HpIn w' p l := ⟨h.sl.extNo hE, fun x hx => (h.ins x hx).extNo hE, h.len, h.lk⟩
theorem HpIn.c {w : World} {p : Option Addr} {l : List HeldT} (h : HpIn w p l) : ∀ x ∈ l, (heldC x).length = 105 := fun x hx => (h.ins x hx).c
/-- where the lists of an Id's object lie -/
def objP (l : List HeldT) (x : IdB) : ObjP := match l.find? fun h => decide (h.id = x) with
  | none => noP
  | some h => if ObjOk h.o then h.a else noP
def kObjP (l : List HeldT) (x : IdB) (k : Int) : ObjP := if (toHp l).err x = 0 ∧ ((toHp l).obj x).kind ≠ k then noP else objP l x
theorem find_at {l : List HeldT} {x : IdB} {i : Nat} (hi : i < l.length) (hno : ∀ k (hk : k < l.length), k < i → ¬ l[k].id = x) (he : l[i].id = x) : l.find? (fun h => decide (h.id = x)) = some l[i] := by
  rw [List.find?_eq_some_iff_append]
  refine ⟨by simpa using he, l.take i, l.drop (i + 1), ?_, fun e hm => ?_⟩
  · rw [← List.drop_eq_getElem_cons hi, List.take_append_drop]
  · obtain ⟨k, hk, rfl⟩ := List.mem_iff_getElem.1 hm
    rw [List.length_take] at hk
    have hk2 : k < l.length := by omega
    have := hno k hk2 (by omega)
    simp [this]
theorem find_no {l : List HeldT} {x : IdB} (hno : ∀ k (hk : k < l.length), k < l.length → ¬ l[k].id = x) : l.find? (fun h => decide (h.id = x)) = none := by
  rw [List.find?_eq_none]
  intro e hm
  obtain ⟨k, hk, rfl⟩ := List.mem_iff_getElem.1 hm
  have := hno k hk hk
  simp [this]
theorem get_find (l : List HeldT) (x : IdB) : (toHp l).get x = (l.find? fun h => decide (h.id = x)).map HeldT.o := by
  unfold Hp.get toHp
  rw [List.find?_map, Option.map_map]
  rfl
theorem get_at {l : List HeldT} {x : IdB} {i : Nat} (hi : i < l.length) (hno : ∀ k (hk : k < l.length), k < i → ¬ l[k].id = x) (he : l[i].id = x) : (toHp l).get x = some l[i].o := by rw [get_find, find_at hi hno he]; rfl
theorem get_no {l : List HeldT} {x : IdB} (hno : ∀ k (hk : k < l.length), k < l.length → ¬ l[k].id = x) : (toHp l).get x = none := by rw [get_find, find_no hno]; rfl
theorem objP_at {l : List HeldT} {x : IdB} {i : Nat} (hi : i < l.length) (hno : ∀ k (hk : k < l.length), k < i → ¬ l[k].id = x) (he : l[i].id = x) : (ObjOk l[i].o → objP l x = l[i].a) ∧ (¬ ObjOk l[i].o → objP l x = noP) := by
  unfold objP
  rw [find_at hi hno he]
  exact ⟨fun k => if_pos k, fun k => if_neg k⟩
theorem objP_no {l : List HeldT} {x : IdB} (hno : ∀ k (hk : k < l.length), k < l.length → ¬ l[k].id = x) : objP l x = noP := by
  unfold objP
  rw [find_no hno]
theorem Hp.obj_held {l : List HeldT} {x : IdB} : (toHp l).obj x = objZ ∨ ∃ h ∈ l, (toHp l).obj x = h.o := by
  rcases (toHp l).obj_mem x with e | ⟨e, he, e'⟩
  · exact .inl e
  · obtain ⟨h, hh, rfl⟩ := List.mem_map.1 he
    exact .inr ⟨h, hh, e'⟩
theorem HpIn.objIn {w : World} {p : Option Addr} {l : List HeldT} (h : HpIn w p l) (x : IdB) : ObjIn ((toHp l).obj x) := by
  rcases Hp.obj_held (l := l) (x := x) with e | ⟨y, hy, e⟩
  · rw [e]; exact objZ_in
  · rw [e]; exact (h.ins y hy).o
theorem HpIn.objSh {w : World} {p : Option Addr} {l : List HeldT} (h : HpIn w p l) (x : IdB) : Short ((toHp l).obj x) := by
  rcases Hp.obj_held (l := l) (x := x) with e | ⟨y, hy, e⟩
  · rw [e]; exact objZ_sh
  · rw [e]; exact (h.ins y hy).sh
theorem Hp.err_at {h : Hp} {x : IdB} {o : ObjD} (hg : h.get x = some o) : (ObjOk o → h.err x = 0 ∧ h.obj x = o) ∧ (¬ ObjOk o → h.err x = 160 ∧ h.obj x = objZ) := by
  unfold Hp.err Hp.obj
  rw [hg]
  exact ⟨fun k => ⟨if_pos k, if_pos k⟩, fun k => ⟨if_neg k, if_neg k⟩⟩
theorem HpIn.objL {w : World} {p : Option Addr} {l : List HeldT} (h : HpIn w p l) (x : IdB) : ObjL w ((toHp l).obj x) (objP l x) := by
  unfold Hp.obj objP
  rw [get_find]
  cases hf : l.find? fun h => decide (h.id = x) with
  | none => exact objZ_l w
  | some e =>
    simp only [Option.map_some]
    split
    · exact (h.ins e (List.mem_of_find?_eq_some hf)).l
    · exact objZ_l w
theorem HpIn.kObjL {w : World} {p : Option Addr} {l : List HeldT} (h : HpIn w p l) (x : IdB) (k : Int) : ObjL w ((toHp l).kObj x k) (kObjP l x k) := by
  unfold Hp.kObj kObjP
  split
  · exact objZ_l w
  · exact h.objL x
theorem Hp.err_no {h : Hp} {x : IdB} (hg : h.get x = none) : h.err x = 4 ∧ h.obj x = objZ := by
  unfold Hp.err Hp.obj
  rw [hg]
  exact ⟨rfl, rfl⟩
theorem get8_calls (w : World) {p : Option Addr} {c : Nat} {l : List HeldT} {x : IdB} (h : HpIn w p l) (hx : IdIn x) :
    CallsV Tryz.prog 41 [.agg #[.slice p l.length c], .agg (bytesU x).toArray] w fun v w' => v = .tuple #[.agg (objC ((toHp l).obj x) (objP l x)).toArray, .int .i64 ((toHp l).err x)] ∧ Ext No w w' := by
  have hlen := h.len
  refine calls_enter Tryz.func41 rfl rfl rfl rfl ?_
  have hX := Ext.refl No w
  refine c_seq (c_region (wl (st_al I_ok rfl fun b2 w1 hn2 hb2 hE1 => ?_)))
  have fr2 := Nat.le_trans hX.size hn2
  have hX := hX.thenNo hE1
  have hb2 : Blk w1 b2 26 ([.slice p l.length c]) := hb2
  refine wl (st_al I_ok rfl fun b3 w2 hn3 hb3 hE2 => ?_)
  have ne2_3 : b2 ≠ b3 := Nat.ne_of_lt (Nat.lt_of_lt_of_le hb2.lt hn3)
  have fr3 := Nat.le_trans hX.size hn3
  have hb2 := hb2.extNo hE2
  have hX := hX.thenNo hE2
  have hb3 : Blk w2 b3 31 (bytesU x) := hb3
  refine wl (st_al I_ok rfl fun b4 w3 hn4 hb4 hE3 => ?_)
  have ne2_4 : b2 ≠ b4 := Nat.ne_of_lt (Nat.lt_of_lt_of_le hb2.lt hn4)
  have ne3_4 : b3 ≠ b4 := Nat.ne_of_lt (Nat.lt_of_lt_of_le hb3.lt hn4)
  have fr4 := Nat.le_trans hX.size hn4
  have hb2 := hb2.extNo hE3
  have hb3 := hb3.extNo hE3
  have hX := hX.thenNo hE3
  refine wl_p I_ok rfl (wl_nil (f_then (c_seq (c_seq (c_region (wl_p I_ok rfl (wl (st_ldb I_ok hb2 rfl rfl (wl_p I_ok rfl (wl_nil (f_then (c_block ?_))))))))))))
  refine c_loopK (α := Nat) [3, 4, 9, 10] rfl (fun z => [(11, .int .i64 (z : Int))]) (fun z u => (z ≤ l.length ∧ ∀ k (hk : k < l.length), k < z → ¬ l[k].id = x) ∧ Blk u b2 26 ([.slice p l.length c]) ∧ Blk u b3 31 (bytesU x) ∧ Blk u b4 48 (cellsOf ti48.zero) ∧ Ext No w u) (fun z u => l.length - z) (0) rfl ⟨⟨Nat.zero_le _, fun k _ h => absurd h (Nat.not_lt_zero _)⟩, hb2, hb3, hb4, hX⟩ ?_
  rintro i w4 ⟨⟨hi, hno⟩, hb2, hb3, hb4, hX⟩
  refine c_seq (c_region (wl_p I_ok rfl (wl_nil (f_then (c_seq (c_if rfl (fun hc => ?_) (fun hc => ?_)))))))
  · have hi : i < l.length := by omega
    obtain ⟨qb, qoff, hp, hsq⟩ := h.sl.rowAll h.c (by omega)
    rw [hp] at hb2 ⊢
    have hni := h.ins _ (List.getElem_mem hi)
    refine c_skip (f_then (c_seq (c_block (c_seq (c_region (wl (st_ix I_ok rfl 105 rfl i rfl (by omega) (qoff + i * 105) rfl (wl (st_ldN I_ok rfl ((hsq i hi).extNo hX) hni.c (wl (st_al I_ok rfl fun b7 w5 hn7 hb7 hE5 => ?_)))))))))))
    have ne2_7 : b2 ≠ b7 := Nat.ne_of_lt (Nat.lt_of_lt_of_le hb2.lt hn7)
    have ne3_7 : b3 ≠ b7 := Nat.ne_of_lt (Nat.lt_of_lt_of_le hb3.lt hn7)
    have ne4_7 : b4 ≠ b7 := Nat.ne_of_lt (Nat.lt_of_lt_of_le hb4.lt hn7)
    have fr7 := Nat.le_trans hX.size hn7
    have hb2 := hb2.extNo hE5
    have hb3 := hb3.extNo hE5
    have hb4 := hb4.extNo hE5
    have hX := hX.thenNo hE5
    have hb7o := hb7
    refine wl (st_stW (l' := heldC l[i]) I_ok hb7 rfl rfl hni.c (by rw [hni.c]; rfl) OneC.h fun w6 hb7 hE6 hs6 => ?_)
    have hb2 := hb2.ext1 hE6 ne2_7
    have hb3 := hb3.ext1 hE6 ne3_7
    have hb4 := hb4.ext1 hE6 ne4_7
    have hX := hX.thenNew hE6 fr7
    refine wl_nil (f_then (c_seq (c_seq (c_region (wl_p I_ok rfl (wl (st_ldN I_ok rfl (held_id hb7.seg) (IdIn.len hni.id) (wl (st_ldB I_ok hb3 rfl hx.len ?_)))))))))
    refine wl (st_eqK rfl gId 10 (by decide) kId (idForm hni.id) (idForm hx) (idKey hni.id) (idKey hx) idLits_inj ?_)
    simp only [Bool.false_eq_true, if_false]
    refine wl_nil (f_then (c_if rfl (fun hc => ?_) (fun hc => ?_)))
    · refine c_exit ?_
      refine f_thenE (f_blockE (f_then (c_region (wl_p I_ok rfl ?_))))
      rw [IntWalk.i64_in _ (by omega)]
      refine wl_nil ?_
      exact f_round (i + 1) rfl ⟨⟨by omega, fun k hk hlt => (Nat.lt_or_eq_of_le (Nat.le_of_lt_succ hlt)).elim (fun h => hno k hk h) fun h => by subst h; exact hc⟩, hb2, hb3, hb4, hX⟩ (by first | omega | (dsimp only; omega))
    · have he : l[i].id = x := Decidable.not_not.1 hc
      have hg := get_at hi hno he
      obtain ⟨e1, e2⟩ := Hp.err_at hg
      obtain ⟨e3, e4⟩ := objP_at hi hno he
      refine c_skip (f_then (c_seq (c_seq (c_region (wl_p I_ok rfl (wl (st_ldN I_ok rfl (held_obj hb7.seg hni.id) (objC_len hni.o) ?_)))))))
      refine wl (st_call Tryz.call59 rfl rfl rfl rfl rfl rfl (right6_calls w6 hni.o (hni.l.extNo hX) hni.sh) fun v7 w7 hr7 => ?_)
      obtain ⟨rfl, hE7⟩ := hr7
      have hb2 := hb2.extNo hE7
      have hb3 := hb3.extNo hE7
      have hb4 := hb4.extNo hE7
      have hb7 := hb7.extNo hE7
      have hX := hX.thenNo hE7
      refine wl_p I_ok rfl (wl_nil (f_then (c_cond rfl (fun hc => ?_) (fun hc => ?_))))
      · have hk : ¬ ObjOk l[i].o := by simpa using hc
        obtain ⟨e1, e2⟩ := e2 hk
        have e3 := e4 hk
        refine c_seq (c_region (wl (st_bd I_ok rfl trivial (l' := objC objZ noP) objZ_c.symm (wl (st_stW (l' := objC objZ noP) I_ok hb4 rfl rfl rfl rfl OneC.h fun w8 hb4 hE8 hs8 => ?_)))))
        have hb2 := hb2.ext1 hE8 ne2_4
        have hb3 := hb3.ext1 hE8 ne3_4
        have hb7 := hb7.ext1 hE8 ne4_7.symm
        have hX := hX.thenNew hE8 fr4
        refine wl_p I_ok rfl (wl_nil (f_then (c_ret (f_thenR (f_blockR (f_thenR (f_thenR (f_blockR (f_thenR (f_ret [_, _] ⟨⟨b4, 0, rfl, ld_all I_ok rfl rfl hb4.seg rfl⟩, rfl, trivial⟩ ?_))))))))))
        exact ⟨by rw [e1, e2, e3]; rfl, hX⟩
      · have hk : ObjOk l[i].o := by simpa using hc
        obtain ⟨e1, e2⟩ := e1 hk
        have e3 := e3 hk
        refine c_skip (f_then (c_seq (c_region (wl_p I_ok rfl (wl (st_ldN I_ok rfl (held_obj hb7.seg hni.id) (objC_len hni.o) ?_))))))
        refine wl (st_stW (l' := objC l[i].o l[i].a) I_ok hb4 rfl rfl (objC_len hni.o) (by rw [objC_len hni.o]; rfl) OneC.h fun w9 hb4 hE9 hs9 => ?_)
        have hb2 := hb2.ext1 hE9 ne2_4
        have hb3 := hb3.ext1 hE9 ne3_4
        have hb7 := hb7.ext1 hE9 ne4_7.symm
        have hX := hX.thenNew hE9 fr4
        refine wl_p I_ok rfl (wl_nil (f_then (c_ret (f_blockR (f_thenR (f_thenR (f_blockR (f_thenR (f_ret [_, _] ⟨⟨b4, 0, rfl, ld_all I_ok rfl rfl hb4.seg (by rw [objC_len hni.o]; rfl)⟩, rfl, trivial⟩ ?_)))))))))
        exact ⟨by rw [e1, e2, e3]; rfl, hX⟩
  · have hi0 : i = l.length := by omega
    subst hi0
    have hg := get_no hno
    obtain ⟨e1, e2⟩ := Hp.err_no hg
    have e3 := objP_no hno
    refine c_exit (f_thenE (f_thenE (f_blockE (f_then (c_seq (c_region (wl (st_bd I_ok rfl trivial (l' := objC objZ noP) objZ_c.symm (wl (st_stW (l' := objC objZ noP) I_ok hb4 rfl rfl rfl rfl OneC.h fun w10 hb4 hE10 hs10 => ?_))))))))))
    have hb2 := hb2.ext1 hE10 ne2_4
    have hb3 := hb3.ext1 hE10 ne3_4
    have hX := hX.thenNew hE10 fr4
    refine wl_p I_ok rfl (wl_nil (f_then (c_ret (f_ret [_, _] ⟨⟨b4, 0, rfl, ld_all I_ok rfl rfl hb4.seg rfl⟩, rfl, trivial⟩ ?_))))
    exact ⟨by rw [e1, e2, e3]; rfl, hX⟩
end Go.Proofs.YtpcdihkcenfgkaaGreat
namespace Go.Proofs.YtpcdihkcenfgkaaGreat
open Go.Vc
theorem HpIn.kIn {w : World} {p : Option Addr} {l : List HeldT} (h : HpIn w p l) (x : IdB) (k : Int) : ObjIn ((toHp l).kObj x k) := by
  unfold Hp.kObj
  split
  · exact objZ_in
  · exact h.objIn x
theorem HpIn.kSh {w : World} {p : Option Addr} {l : List HeldT} (h : HpIn w p l) (x : IdB) (k : Int) : Short ((toHp l).kObj x k) := by
  unfold Hp.kObj
  split
  · exact objZ_sh
  · exact h.objSh x
theorem of8_calls (w : World) {p : Option Addr} {c : Nat} {l : List HeldT} {x : IdB} (h : HpIn w p l) (hx : IdIn x) (kd : Int) :
    CallsV Tryz.prog 66 [.agg #[.slice p l.length c], .agg (bytesU x).toArray, .int .i64 kd] w fun v w' => v = .tuple #[.agg (objC ((toHp l).kObj x kd) (kObjP l x kd)).toArray, .int .i64 ((toHp l).kErr x kd)] ∧ Ext No w w' := by
  refine calls_enter Tryz.func66 rfl rfl rfl rfl ?_
  have hX := Ext.refl No w
  refine c_seq (c_region (wl (st_al I_ok rfl fun b3 w1 hn3 hb3 hE1 => ?_)))
  have fr3 := Nat.le_trans hX.size hn3
  have hX := hX.thenNo hE1
  have hb3 : Blk w1 b3 26 ([.slice p l.length c]) := hb3
  refine wl (st_al I_ok rfl fun b4 w2 hn4 hb4 hE2 => ?_)
  have ne3_4 : b3 ≠ b4 := Nat.ne_of_lt (Nat.lt_of_lt_of_le hb3.lt hn4)
  have fr4 := Nat.le_trans hX.size hn4
  have hb3 := hb3.extNo hE2
  have hX := hX.thenNo hE2
  have hb4 : Blk w2 b4 31 (bytesU x) := hb4
  refine wl (st_al I_ok rfl fun b6 w3 hn6 hb6 hE3 => ?_)
  have ne3_6 : b3 ≠ b6 := Nat.ne_of_lt (Nat.lt_of_lt_of_le hb3.lt hn6)
  have ne4_6 : b4 ≠ b6 := Nat.ne_of_lt (Nat.lt_of_lt_of_le hb4.lt hn6)
  have fr6 := Nat.le_trans hX.size hn6
  have hb3 := hb3.extNo hE3
  have hb4 := hb4.extNo hE3
  have hX := hX.thenNo hE3
  refine wl_p I_ok rfl (wl_nil (f_then (c_seq (c_region (wl (st_ldB I_ok hb3 rfl rfl (wl (st_ldB I_ok hb4 rfl (IdIn.len hx) (wl (st_call Tryz.call41 rfl rfl rfl rfl rfl rfl (get8_calls w3 (h.extNo hX) hx) fun v4 w4 hr4 => ?_))))))))))
  obtain ⟨rfl, hE4⟩ := hr4
  have hb3 := hb3.extNo hE4
  have hb4 := hb4.extNo hE4
  have hb6 := hb6.extNo hE4
  have hX := hX.thenNo hE4
  refine wl_p I_ok rfl (wl (st_al I_ok rfl fun b8 w5 hn8 hb8 hE5 => ?_))
  have ne3_8 : b3 ≠ b8 := Nat.ne_of_lt (Nat.lt_of_lt_of_le hb3.lt hn8)
  have ne4_8 : b4 ≠ b8 := Nat.ne_of_lt (Nat.lt_of_lt_of_le hb4.lt hn8)
  have ne6_8 : b6 ≠ b8 := Nat.ne_of_lt (Nat.lt_of_lt_of_le hb6.lt hn8)
  have fr8 := Nat.le_trans hX.size hn8
  have hb3 := hb3.extNo hE5
  have hb4 := hb4.extNo hE5
  have hb6 := hb6.extNo hE5
  have hX := hX.thenNo hE5
  refine wl (st_stW (l' := objC ((toHp l).obj x) (objP l x)) I_ok hb8 rfl rfl (objC_len (h.objIn x)) (by rw [objC_len (h.objIn x)]; rfl) OneC.h fun w6 hb8 hE6 hs6 => ?_)
  have hb3 := hb3.ext1 hE6 ne3_8
  have hb4 := hb4.ext1 hE6 ne4_8
  have hb6 := hb6.ext1 hE6 ne6_8
  have hX := hX.thenNew hE6 fr8
  refine wl_p I_ok rfl (wl_nil (f_then (c_seq (c_cutK (α := Bool) [6, 8, 9] rfl (fun z => [(23, .bool z)]) (fun z u => u = w6 ∧ z = decide ((toHp l).err x = 0 ∧ ((toHp l).obj x).kind ≠ kd)) ?_ ?_))))
  · refine c_region ?_
    refine wl_p I_ok rfl (wl_caseD 18 rfl (fun hg => ?_) (fun hg => ?_))
    · refine wl_pk I_ok 1 rfl ?_
      refine wl (st_ld I_ok rfl (hb8.seg.obj (h.objIn x)).kind (wl_pk I_ok 3 rfl (wl_nil ?_)))
      exact f_cut (_) rfl ⟨rfl, by rw [decide_eq_decide]; exact ⟨fun k => ⟨hg, k⟩, fun k => k.2⟩⟩
    · refine wl_pk I_ok 5 rfl ?_
      refine wl_nil ?_
      exact f_cut (false) rfl ⟨rfl, by symm; rw [decide_eq_false_iff_not]; exact fun k => hg k.1⟩
  rintro z w7 ⟨hu, rfl⟩
  have hu := hu.symm
  subst hu
  refine c_if rfl (fun hc => ?_) (fun hc => ?_)
  · have e1 : (toHp l).kErr x kd = 160 := if_pos hc
    have e2 : (toHp l).kObj x kd = objZ := if_pos hc
    have e3 : kObjP l x kd = noP := if_pos hc
    refine c_seq (c_region (wl (st_bd I_ok rfl trivial (l' := objC objZ noP) objZ_c.symm (wl (st_stW (l' := objC objZ noP) I_ok hb6 rfl rfl rfl rfl OneC.h fun w8 hb6 hE8 hs8 => ?_)))))
    have hb3 := hb3.ext1 hE8 ne3_6
    have hb4 := hb4.ext1 hE8 ne4_6
    have hb8 := hb8.ext1 hE8 ne6_8.symm
    have hX := hX.thenNew hE8 fr6
    refine wl_p I_ok rfl (wl_nil (f_then (c_ret (f_thenR (f_ret [_, _] ⟨⟨b6, 0, rfl, ld_all I_ok rfl rfl hb6.seg rfl⟩, rfl, trivial⟩ ?_)))))
    exact ⟨by rw [e1, e2, e3]; rfl, hX⟩
  · have e1 : (toHp l).kErr x kd = (toHp l).err x := if_neg hc
    have e2 : (toHp l).kObj x kd = (toHp l).obj x := if_neg hc
    have e3 : kObjP l x kd = objP l x := if_neg hc
    refine c_skip (f_then (c_seq (c_region (wl (st_ldB I_ok hb8 rfl (objC_len (h.objIn x)) (wl_p I_ok rfl ?_))))))
    refine wl (st_stW (l' := objC ((toHp l).obj x) (objP l x)) I_ok hb6 rfl rfl (objC_len (h.objIn x)) (by rw [objC_len (h.objIn x)]; rfl) OneC.h fun w9 hb6 hE9 hs9 => ?_)
    have hb3 := hb3.ext1 hE9 ne3_6
    have hb4 := hb4.ext1 hE9 ne4_6
    have hb8 := hb8.ext1 hE9 ne6_8.symm
    have hX := hX.thenNew hE9 fr6
    refine wl_p I_ok rfl (wl_nil (f_then (c_ret (f_ret [_, _] ⟨⟨b6, 0, rfl, ld_all I_ok rfl rfl hb6.seg (by rw [objC_len (h.objIn x)]; rfl)⟩, rfl, trivial⟩ ?_))))
    exact ⟨by rw [e1, e2, e3]; rfl, hX⟩

theorem commit8_calls (w : World) {p : Option Addr} {c : Nat} {l : List HeldT} {x : IdB} (h : HpIn w p l) (hx : IdIn x) :
    CallsV Tryz.prog 31 [.agg #[.slice p l.length c], .agg (bytesU x).toArray] w fun v w' => v = .tuple #[.agg (objC ((toHp l).kObj x 3) (kObjP l x 3)).toArray, .int .i64 ((toHp l).kErr x 3)] ∧ Ext No w w' := by
  refine calls_enter Tryz.func31 rfl rfl rfl rfl ?_
  have hX := Ext.refl No w
  refine c_seq (c_region (wl (st_al I_ok rfl fun b2 w1 hn2 hb2 hE1 => ?_)))
  have fr2 := Nat.le_trans hX.size hn2
  have hX := hX.thenNo hE1
  have hb2 : Blk w1 b2 26 ([.slice p l.length c]) := hb2
  refine wl (st_al I_ok rfl fun b3 w2 hn3 hb3 hE2 => ?_)
  have ne2_3 : b2 ≠ b3 := Nat.ne_of_lt (Nat.lt_of_lt_of_le hb2.lt hn3)
  have fr3 := Nat.le_trans hX.size hn3
  have hb2 := hb2.extNo hE2
  have hX := hX.thenNo hE2
  have hb3 : Blk w2 b3 31 (bytesU x) := hb3
  refine wl (st_al I_ok rfl fun b4 w3 hn4 hb4 hE3 => ?_)
  have ne2_4 : b2 ≠ b4 := Nat.ne_of_lt (Nat.lt_of_lt_of_le hb2.lt hn4)
  have ne3_4 : b3 ≠ b4 := Nat.ne_of_lt (Nat.lt_of_lt_of_le hb3.lt hn4)
  have fr4 := Nat.le_trans hX.size hn4
  have hb2 := hb2.extNo hE3
  have hb3 := hb3.extNo hE3
  have hX := hX.thenNo hE3
  refine wl_p I_ok rfl (wl_nil (f_then (c_seq (c_region (wl (st_ldB I_ok hb2 rfl rfl (wl (st_ldB I_ok hb3 rfl (IdIn.len hx) (wl (st_call Tryz.call66 rfl rfl rfl rfl rfl rfl (of8_calls w3 (h.extNo hX) hx 3) fun v4 w4 hr4 => ?_))))))))))
  obtain ⟨rfl, hE4⟩ := hr4
  have hb2 := hb2.extNo hE4
  have hb3 := hb3.extNo hE4
  have hb4 := hb4.extNo hE4
  have hX := hX.thenNo hE4
  refine wl_p I_ok rfl (wl (st_stW (l' := objC ((toHp l).kObj x 3) (kObjP l x 3)) I_ok hb4 rfl rfl (objC_len (h.kIn x 3)) (by rw [objC_len (h.kIn x 3)]; rfl) OneC.h fun w5 hb4 hE5 hs5 => ?_))
  have hb2 := hb2.ext1 hE5 ne2_4
  have hb3 := hb3.ext1 hE5 ne3_4
  have hX := hX.thenNew hE5 fr4
  refine wl_p I_ok rfl (wl_nil (f_then (c_ret (f_ret [_, _] ⟨⟨b4, 0, rfl, ld_all I_ok rfl rfl hb4.seg (by rw [objC_len (h.kIn x 3)]; rfl)⟩, rfl, trivial⟩ ?_))))
  exact ⟨rfl, hX⟩

end Go.Proofs.YtpcdihkcenfgkaaGreat
namespace Go.Proofs.YtpcdihkcenfgkaaGreat
open Go.Vc
theorem bl_at : ∀ (i : Nat) (a b : List UInt8) (ha : i < a.length) (hb : i < b.length), (∀ k (h1 : k < a.length) (h2 : k < b.length), k < i → a[k] = b[k]) → a[i] ≠ b[i] → Op.bytesLess a b = decide (a[i] < b[i])
  | 0, x :: a, y :: b, _, _, _, hne => by
    have hne : x ≠ y := hne
    show (decide (x < y) || (x == y && Op.bytesLess a b)) = decide (x < y)
    rw [show (x == y) = false from by simpa using hne]
    simp
  | i + 1, x :: a, y :: b, ha, hb, hk, hne => by
    have h0 : x = y := hk 0 (by simp) (by simp) (by omega)
    subst h0
    have ha' : i < a.length := by simpa using ha
    have hb' : i < b.length := by simpa using hb
    show (decide (x < x) || (x == x && Op.bytesLess a b)) = decide (a[i] < b[i])
    rw [bl_at i a b (by simpa using ha) (by simpa using hb) (fun k h1 h2 hlt => by have := hk (k + 1) (by simpa using h1) (by simpa using h2) (by omega); simpa using this) (by simpa using hne)]
    simp
theorem byte_ne {a b : UInt8} : (¬ ((a.toNat : Int) = (b.toNat : Int))) ↔ a ≠ b := by
  rw [Int.ofNat_inj, UInt8.toNat_inj]
theorem byte_lt {a b : UInt8} : ((a.toNat : Int) < (b.toNat : Int)) ↔ a < b := by
  rw [Int.ofNat_lt]; exact UInt8.lt_iff_toNat_lt.symm
theorem there8_calls (w : World) {p : Option Addr} {c : Nat} {l : List HeldT} {x : IdB} (h : HpIn w p l) (hx : IdIn x) :
    CallsV Tryz.prog 67 [.agg #[.slice p l.length c], .agg (bytesU x).toArray] w fun v w' => v = .bool (decide (x ∈ l.map HeldT.id)) ∧ Ext No w w' := by
  have hlen := h.len
  refine calls_enter Tryz.func67 rfl rfl rfl rfl ?_
  have hX := Ext.refl No w
  refine c_seq (c_region (wl (st_al I_ok rfl fun b2 w1 hn2 hb2 hE1 => ?_)))
  have fr2 := Nat.le_trans hX.size hn2
  have hX := hX.thenNo hE1
  have hb2 : Blk w1 b2 26 ([.slice p l.length c]) := hb2
  refine wl (st_al I_ok rfl fun b3 w2 hn3 hb3 hE2 => ?_)
  have ne2_3 : b2 ≠ b3 := Nat.ne_of_lt (Nat.lt_of_lt_of_le hb2.lt hn3)
  have fr3 := Nat.le_trans hX.size hn3
  have hb2 := hb2.extNo hE2
  have hX := hX.thenNo hE2
  have hb3 : Blk w2 b3 31 (bytesU x) := hb3
  refine wl_p I_ok rfl (wl_nil (f_then (c_seq (c_seq (c_region (wl_p I_ok rfl (wl (st_ldb I_ok hb2 rfl rfl (wl_p I_ok rfl (wl_nil (f_then (c_block ?_))))))))))))
  refine c_loopK (α := Nat) [3, 8, 9] rfl (fun z => [(10, .int .i64 (z : Int))]) (fun z u => (z ≤ l.length ∧ ∀ k (hk : k < l.length), k < z → ¬ l[k].id = x) ∧ Blk u b2 26 ([.slice p l.length c]) ∧ Blk u b3 31 (bytesU x) ∧ Ext No w u) (fun z u => l.length - z) (0) rfl ⟨⟨Nat.zero_le _, fun k _ h => absurd h (Nat.not_lt_zero _)⟩, hb2, hb3, hX⟩ ?_
  rintro i w3 ⟨⟨hi, hno⟩, hb2, hb3, hX⟩
  refine c_seq (c_region (wl_p I_ok rfl (wl_nil (f_then (c_seq (c_if rfl (fun hc => ?_) (fun hc => ?_)))))))
  · have hi : i < l.length := by omega
    obtain ⟨qb, qoff, hp, hsq⟩ := h.sl.rowAll h.c (by omega)
    rw [hp] at hb2 ⊢
    have hni := h.ins _ (List.getElem_mem hi)
    refine c_skip (f_then (c_seq (c_block (c_seq (c_region (wl (st_ix I_ok rfl 105 rfl i rfl (by omega) (qoff + i * 105) rfl (wl (st_ldN I_ok rfl ((hsq i hi).extNo hX) hni.c (wl (st_al I_ok rfl fun b6 w4 hn6 hb6 hE4 => ?_)))))))))))
    have ne2_6 : b2 ≠ b6 := Nat.ne_of_lt (Nat.lt_of_lt_of_le hb2.lt hn6)
    have ne3_6 : b3 ≠ b6 := Nat.ne_of_lt (Nat.lt_of_lt_of_le hb3.lt hn6)
    have fr6 := Nat.le_trans hX.size hn6
    have hb2 := hb2.extNo hE4
    have hb3 := hb3.extNo hE4
    have hX := hX.thenNo hE4
    refine wl (st_stW (l' := heldC l[i]) I_ok hb6 rfl rfl hni.c (by rw [hni.c]; rfl) OneC.h fun w5 hb6 hE5 hs5 => ?_)
    have hb2 := hb2.ext1 hE5 ne2_6
    have hb3 := hb3.ext1 hE5 ne3_6
    have hX := hX.thenNew hE5 fr6
    refine wl_nil (f_then (c_seq (c_region (wl_p I_ok rfl (wl (st_ldN I_ok rfl (held_id hb6.seg) (IdIn.len hni.id) (wl (st_ldB I_ok hb3 rfl hx.len ?_))))))))
    refine wl (st_eqK rfl gId 10 (by decide) kId (idForm hni.id) (idForm hx) (idKey hni.id) (idKey hx) idLits_inj ?_)
    simp only [if_true]
    refine wl_nil (f_then (c_if rfl (fun hc => ?_) (fun hc => ?_)))
    · refine c_seq ?_
      refine c_region (wl_p I_ok rfl (wl_nil (f_then (c_ret (f_blockR (f_thenR (f_thenR (f_blockR (f_thenR (f_ret1 rfl rfl ?_))))))))))
      exact ⟨congrArg Value.bool (by symm; rw [decide_eq_true_eq]; exact List.mem_map.2 ⟨_, List.getElem_mem hi, hc⟩), hX⟩
    · refine c_skip ?_
      refine f_blockN (f_then (c_region (wl_p I_ok rfl ?_)))
      rw [IntWalk.i64_in _ (by omega)]
      refine wl_nil ?_
      exact f_round (i + 1) rfl ⟨⟨by omega, fun k hk hlt => (Nat.lt_or_eq_of_le (Nat.le_of_lt_succ hlt)).elim (fun h => hno k hk h) fun h => by subst h; exact hc⟩, hb2, hb3, hX⟩ (by first | omega | (dsimp only; omega))
  · have hall : ¬ x ∈ l.map HeldT.id := fun hr => by
      obtain ⟨y, hy, e⟩ := List.mem_map.1 hr
      obtain ⟨k, hk, rfl⟩ := List.mem_iff_getElem.1 hy
      exact hno k hk (by omega) e
    refine c_exit (f_thenE (f_thenE (f_blockE (f_then (c_seq (c_region (wl_p I_ok rfl (wl_nil (f_then (c_ret (f_ret1 rfl rfl ?_)))))))))))
    exact ⟨congrArg Value.bool (by symm; rw [decide_eq_false_iff_not]; exact hall), hX⟩
end Go.Proofs.YtpcdihkcenfgkaaGreat
namespace Go.Proofs.YtpcdihkcenfgkaaGreat
open Go.Vc
theorem linksOf_in {o : ObjD} (h : ObjIn o) : ∀ z ∈ linksOf o, IdIn z := fun z hz => by
  unfold linksOf at hz
  split at hz
  · obtain ⟨y, hy, rfl⟩ := List.mem_map.1 hz; exact (h.leaves y hy).2
  · split at hz
    · rcases List.mem_cons.1 hz with rfl | hz
      · exact h.tree
      · exact h.parents z hz
    · cases hz
theorem HpIn.leadsIn {w : World} {p : Option Addr} {l : List HeldT} (h : HpIn w p l) {x : IdB} (hx : IdIn x) : ∀ y, (toHp l).Leads x y → IdIn y := fun y hy => by
  cases hy with
  | here => exact hx
  | on _ hz => exact linksOf_in (h.objIn _) _ hz
theorem HpIn.allLen {w : World} {p : Option Addr} {l : List HeldT} (h : HpIn w p l) (x : IdB) : ((toHp l).all x).length < 10000001 := by
  have e : (toHp l).flatMap (fun e => linksOf e.2) = l.flatMap fun e => linksOf e.o := by rw [toHp, List.flatMap_map]
  have := h.lk
  rw [Hp.all, e, List.length_cons]
  omega
theorem links_len (h : Hp) (y : IdB) : ∀ x, (h.links y).length ≤ (h.all x).length := fun x => by
  unfold Hp.links
  rcases h.obj_mem y with e | ⟨e, he, e'⟩
  · rw [e]; exact Nat.zero_le _
  · rw [e', Hp.all, List.length_cons]
    obtain ⟨a, b, hab⟩ := List.append_of_mem he
    rw [hab, List.flatMap_append, List.flatMap_cons]
    simp only [List.length_append]
    omega
end Go.Proofs.YtpcdihkcenfgkaaGreat
namespace Go.Proofs.YtpcdihkcenfgkaaGreat
open Go.Vc
theorem rowZ_c : cellsOf ti73.zero = RowD.cells ⟨[], []⟩ := by kernel_rfl
theorem room_ml {n : Nat} (h : n ≤ 1000000000) : n + 1 ≤ maxLen := by dsimp only [maxLen]; omega
theorem room_by {n : Nat} (h : n ≤ 1000000000) : (n + 1) * 32 ≤ 140737488355328 := by omega
def row8 (l : List HeldT) (y : LeafD) : RowD := ⟨y.path, ((toHp l).kObj y.id 1).text⟩
theorem rowsOf_take {l : List HeldT} {L : List LeafD} {i : Nat} (hi : i < L.length) : (toHp l).rowsOf (L.take (i + 1)) = (toHp l).rowsOf (L.take i) ++ [row8 l L[i]] := by
  rw [List.take_succ_eq_append_getElem hi, Hp.rowsOf, List.map_append]; rfl
theorem rowsOf_len (h : Hp) (L : List LeafD) : (h.rowsOf L).length = L.length := List.length_map _
theorem Hp.map_no {h : Hp} {x : IdB} {e : Int} (he : h.mapE x = e) (hn : e ≠ 0) : h.map x = [] := if_pos (by rw [he]; exact hn)
theorem Hp.map_ok {h : Hp} {x : IdB} (he : h.mapE x = 0) : h.map x = h.rowsOf (h.kObj x 2).leaves := if_neg (by rw [he]; exact fun k => k rfl)
end Go.Proofs.YtpcdihkcenfgkaaGreat
namespace Go.Proofs.YtpcdihkcenfgkaaGreat
open Go.Vc
theorem top_take {h : Hp} {L : List IdB} {i : Nat} (hi : i < L.length) : h.top (L.take (i + 1)) = max (h.top (L.take i)) ((h.kObj L[i] 3).number + 1) := by
  rw [List.take_succ_eq_append_getElem hi, Hp.top, List.foldl_append]; rfl
theorem max_u32 {t n m : Nat} (h : n < m) (hm : m < 2 ^ 32) : (if (t : Int) < IntKind.u32.wrap ((n : Int) + 1) then IntKind.u32.wrap ((n : Int) + 1) else (t : Int)) = ((max t (n + 1) : Nat) : Int) := by
  rw [IntWalk.u32_in _ (by omega)]
  split <;> omega
theorem top_le {h : Hp} {m : Nat} {L : List IdB} (hL : ∀ p ∈ L, (h.kObj p 3).number < m) : h.top L ≤ m := by
  have : ∀ (L : List IdB) (t : Nat), t ≤ m → (∀ p ∈ L, (h.kObj p 3).number < m) → L.foldl (fun t p => max t ((h.kObj p 3).number + 1)) t ≤ m := by
    intro L
    induction L with
    | nil => intro t ht _; exact ht
    | cons a L ih =>
      intro t ht hL
      have := hL a List.mem_cons_self
      exact ih _ (by show max t _ ≤ m; omega) fun p hp => hL p (List.mem_cons_of_mem _ hp)
  exact this _ 0 (Nat.zero_le _) hL
theorem par_no {h : Hp} {o : ObjD} {i : Nat} (hi : i < o.parents.length) (hc : ¬ (h.kErr o.parents[i] 3 = 0 ∧ (h.kObj o.parents[i] 3).number < o.number)) : ¬ h.ParOk o := fun k => hc (k.1 _ (List.getElem_mem hi))
end Go.Proofs.YtpcdihkcenfgkaaGreat
