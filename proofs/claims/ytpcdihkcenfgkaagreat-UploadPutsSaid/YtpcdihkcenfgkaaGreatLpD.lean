/-
  Walks and laws towards: UploadPutsSaid , walked
-/
import Derived.Test.YtpcdihkcenfgkaaGreatLpC
namespace Go.Proofs.YtpcdihkcenfgkaaGreat
open Go.Vc
theorem laid_le {x : ObjD} (hx : ObjIn x) (hf : BytesIn x) : (laidB x).length ≤ 100000 := by
  rcases hf.k with h1 | h1 | h1
  · have := hf.text h1
    rw [laidB, if_pos h1, List.length_append, be_len, strB_len]
    omega
  · obtain ⟨hl, hp⟩ := hf.leaves h1
    have h2 : (x.leaves.flatMap leafB).length ≤ x.leaves.length * 100 := flat_le fun r hr => leafB_le (hp r hr) (hx.leaves r hr).2
    rw [laidB, if_neg (by omega), if_pos h1, treeB, List.length_append, List.length_append, be_len, be_len]
    omega
  · obtain ⟨hl, hp⟩ := hf.rows h1
    obtain ⟨hpl, _⟩ := hf.com h1
    have hnl := hf.note h1
    have h2 : (x.rows.flatMap chgB).length ≤ x.rows.length * 400 := flat_le fun r hr => chgB_le (hp r hr)
    have htr := hx.tree
    have hba := hx.base
    have hpf := flatten_len (n := 32) hx.parents
    rw [laidB, if_neg (by omega), if_neg (by omega), comB]
    simp only [List.length_append, be_len, strB_len]
    omega
theorem right6_calls (w : World) {x : ObjD} {a : ObjP} (hx : ObjIn x) (hxl : ObjL w x a) (hsx : Short x) :
    CallsV Tryz.prog 59 [.agg (objC x a).toArray] w fun v w' => v = .bool (decide (ObjOk x)) ∧ Ext No w w' := by
  refine calls_enter Tryz.func59 rfl rfl rfl rfl ?_
  have hX := Ext.refl No w
  refine c_seq (c_region (wl (st_al I_ok rfl fun b1 w1 hn1 hb1 hE1 => ?_)))
  have hX := hX.thenNo hE1
  have hb1 : Blk w1 b1 48 (objC x a) := hb1
  refine wl_p I_ok rfl (wl_nil (f_then (c_cutK (α := Bool) [] rfl (fun z => [(2, .bool z)]) (fun z u => (z = decide (ObjOk x)) ∧ Ext No w u) ?_ ?_)))
  · refine c_region ?_
    refine wl (st_ldB I_ok hb1 rfl (objC_len hx) (wl (st_call Tryz.call87 rfl rfl rfl rfl rfl rfl (fields6_calls w1 hx (hxl.extNo hX) hsx) fun v2 w2 hr2 => ?_)))
    obtain ⟨rfl, hE2⟩ := hr2
    have hb1 := hb1.extNo hE2
    have hX := hX.thenNo hE2
    refine wl_p I_ok rfl (wl_caseD 5 rfl (fun hg => ?_) (fun hg => ?_))
    · have hf := hg
      refine wl (st_ldB I_ok hb1 rfl (objC_len hx) (wl (st_call Tryz.call60 rfl rfl rfl rfl rfl rfl (bytes6_calls w2 hx (hxl.extNo hX) (bytes_of hf)) fun v3 w3 hr3 => ?_)))
      obtain ⟨q, k, rfl, hq, hqn, hE3⟩ := hr3
      have hX := hX.thenNo hE3
      refine wl_pk I_ok 4 rfl (wl_nil ?_)
      exact f_cut (_) rfl ⟨by rw [decide_eq_decide]; exact ⟨fun h => ⟨hf, by omega⟩, fun h => by have := h.2; omega⟩, hX⟩
    · have hf := hg
      refine wl_pk I_ok 6 rfl (wl_nil ?_)
      exact f_cut (false) rfl ⟨by symm; rw [decide_eq_false_iff_not]; exact fun h => hf h.1, hX⟩
  rintro z w4 ⟨rfl, hX⟩
  refine c_ret (f_ret1 rfl rfl ?_)
  exact ⟨rfl, hX⟩

theorem id6_calls (w : World) {x : ObjD} {a : ObjP} (hx : ObjIn x) (hxl : ObjL w x a) (hf : BytesIn x) :
    CallsV Tryz.prog 33 [.agg (objC x a).toArray] w fun v w' => v = .agg (bytesU (idOf x)).toArray ∧ Ext No w w' := by
  have hle := laid_le hx hf
  refine calls_enter Tryz.func33 rfl rfl rfl rfl ?_
  have hX := Ext.refl No w
  refine c_seq (c_region (wl (st_al I_ok rfl fun b1 w1 hn1 hb1 hE1 => ?_)))
  have hX := hX.thenNo hE1
  have hb1 : Blk w1 b1 48 (objC x a) := hb1
  refine wl (st_al I_ok rfl fun b2 w2 hn2 hb2 hE2 => ?_)
  have fr2 := Nat.le_trans hX.size hn2
  have hb1 := hb1.extNo hE2
  have hX := hX.thenNo hE2
  refine wl_nil (f_then (c_seq (c_region (wl (st_ldB I_ok hb1 rfl (objC_len hx) (wl (st_call Tryz.call60 rfl rfl rfl rfl rfl rfl (bytes6_calls w2 hx (hxl.extNo hX) hf) fun v3 w3 hr3 => ?_)))))))
  obtain ⟨q, k, rfl, hq, hqn, hE3⟩ := hr3
  have hb2 := hb2.extNo hE3
  have hX := hX.thenNo hE3
  refine wl (st_call Tryz.call68 rfl rfl rfl rfl rfl rfl (refSum_calls w3 hq.sl (by omega)) fun v4 w4 hr4 => ?_)
  obtain ⟨rfl, hE4⟩ := hr4
  have hb2 := hb2.extNo hE4
  have hX := hX.thenNo hE4
  refine wl (st_stW (l' := bytesU (idOf x)) I_ok hb2 rfl rfl (by rw [bytesU_len, idOf_len]) (by rw [bytesU_len, idOf_len]; rfl) OneC.h fun w5 hb2 hE5 hs5 => ?_)
  have hX := hX.thenNew hE5 fr2
  refine wl_nil (f_then (c_ret (f_ret [_] ⟨⟨b2, 0, rfl, ld_all I_ok rfl rfl hb2.seg (by rw [bytesU_len, idOf_len]; rfl)⟩, trivial⟩ ?_)))
  exact ⟨rfl, hX⟩

theorem same6_calls (w : World) {x y : ObjD} {a b : ObjP} (hx : ObjIn x) (hy : ObjIn y) (hxl : ObjL w x a) (hyl : ObjL w y b) (hsx : Short x) :
    CallsV Tryz.prog 15 [.agg (objC x a).toArray, .agg (objC y b).toArray] w fun v w' => v = .bool (decide (x = y)) ∧ Ext No w w' := by
  have hlx1 := hsx.leaves
  have hlx2 := hsx.parents
  have hlx3 := hsx.rows
  refine calls_enter Tryz.func15 rfl rfl rfl rfl ?_
  have hX := Ext.refl No w
  refine c_seq (c_region (wl (st_al I_ok rfl fun b2 w1 hn2 hb2 hE1 => ?_)))
  have hX := hX.thenNo hE1
  have hb2 : Blk w1 b2 48 (objC x a) := hb2
  have oa := hb2.seg.obj hx
  refine wl (st_al I_ok rfl fun b3 w2 hn3 hb3 hE2 => ?_)
  have hb2 := hb2.extNo hE2
  have oa := oa.extNo hE2
  have hX := hX.thenNo hE2
  have hb3 : Blk w2 b3 48 (objC y b) := hb3
  have ob := hb3.seg.obj hy
  refine wl_p I_ok rfl (wl_nil (f_then (c_seq ?_)))
  refine c_cutK (α := Bool) [2, 3] rfl (fun z => [(34, .bool z)]) (fun z u => (z = decide (¬ (x.leaves.length = y.leaves.length ∧ x.parents.length = y.parents.length ∧ x.rows.length = y.rows.length))) ∧ Blk u b2 48 (objC x a) ∧ Blk u b3 48 (objC y b) ∧ Ext No w u) ?_ ?_
  · refine c_region ?_
    refine wl_p I_ok rfl (wl (st_ld I_ok rfl oa.leaves (wl_p I_ok rfl (wl (st_ld I_ok rfl ob.leaves (wl_p I_ok rfl (wl_caseD 15 rfl (fun hg => ?_) (fun hg => ?_))))))))
    · refine wl_pk I_ok 19 rfl ?_
      refine wl_nil ?_
      exact f_cut (true) rfl ⟨by symm; rw [decide_eq_true_eq]; intro h; omega, hb2, hb3, hX⟩
    · refine wl_pk I_ok 1 rfl ?_
      refine wl (st_ld I_ok rfl oa.parents (wl_pk I_ok 2 rfl (wl (st_ld I_ok rfl ob.parents (wl_pk I_ok 4 rfl (wl_caseD 24 rfl (fun hg => ?_) (fun hg => ?_)))))))
      · refine wl_pk I_ok 10 rfl ?_
        refine wl_nil ?_
        exact f_cut (true) rfl ⟨by symm; rw [decide_eq_true_eq]; intro h; omega, hb2, hb3, hX⟩
      · refine wl_pk I_ok 2 rfl ?_
        refine wl (st_ld I_ok rfl oa.rows (wl_pk I_ok 3 rfl (wl (st_ld I_ok rfl ob.rows (wl_pk I_ok 3 rfl (wl_nil ?_))))))
        exact f_cut (_) rfl ⟨by rw [decide_eq_decide]; omega, hb2, hb3, hX⟩
  rintro z w3 ⟨rfl, hb2, hb3, hX⟩
  have oa := hb2.seg.obj hx
  have ob := hb3.seg.obj hy
  refine c_if rfl (fun hc => ?_) (fun hc => ?_)
  · refine c_seq ?_
    refine c_region (wl_p I_ok rfl (wl_nil (f_then (c_ret (f_thenR (f_ret1 rfl rfl ?_))))))
    exact ⟨congrArg Value.bool (by symm; rw [decide_eq_false_iff_not]; intro e; subst e; exact hc ⟨rfl, rfl, rfl⟩), hX⟩
  · obtain ⟨hl1, hl2, hl3⟩ := Decidable.not_not.1 hc
    refine c_skip (f_then (c_seq (c_seq (c_region (wl_p I_ok rfl (wl (st_ld I_ok rfl oa.leaves (wl_p I_ok rfl (wl_nil (f_then (c_block ?_)))))))))))
    refine c_loopK (α := Nat) [2, 3, 37] rfl (fun z => [(38, .int .i64 (z : Int))]) (fun z u => (z ≤ x.leaves.length ∧ ∀ k (hk : k < x.leaves.length), k < z → x.leaves[k] = y.leaves[k]'(by omega)) ∧ Blk u b2 48 (objC x a) ∧ Blk u b3 48 (objC y b) ∧ Ext No w u) (fun z u => x.leaves.length - z) (0) rfl ⟨⟨Nat.zero_le _, fun k _ h => absurd h (Nat.not_lt_zero _)⟩, hb2, hb3, hX⟩ ?_
    rintro i w4 ⟨⟨hi, hok⟩, hb2, hb3, hX⟩
    have oa := hb2.seg.obj hx
    have ob := hb3.seg.obj hy
    refine c_seq (c_region (wl_p I_ok rfl (wl_nil (f_then (c_seq (c_if rfl (fun hc => ?_) (fun hc => ?_)))))))
    · have hi : i < x.leaves.length := by omega
      have him : i < y.leaves.length := by omega
      obtain ⟨ba, oa1, hpa, hsa⟩ := hxl.leaves.rowAll (fun r hr => LeafD.len (hx.leaves r hr).2) (by omega)
      obtain ⟨bb, ob1, hpb, hsb⟩ := hyl.leaves.rowAll (fun r hr => LeafD.len (hy.leaves r hr).2) (by omega)
      have ha1 := hx.leaves _ (List.getElem_mem hi)
      have ha2 := hy.leaves _ (List.getElem_mem him)
      refine c_skip (f_then (c_seq (c_block (c_seq (c_region (wl_p I_ok rfl (wl_nil (f_then (c_seq ?_)))))))))
      refine c_draw rfl 11 [(0, true), (1, true), (2, true), (3, true), (4, true), (5, true), (6, true), (7, true), (8, true), (9, true), (10, true)] [] (No) (by kernel_rfl) fun w5 hE5 hs5 => ?_
      have oad := oa
      have obd := ob
      have hXd := hX
      have hb2 := hb2.extNo hE5
      have hb3 := hb3.extNo hE5
      have hX := hX.thenNo hE5
      refine wd_k I_ok 1 rfl (wd_ld I_ok rfl rfl (fun w' hw' => (oad.extNo hw').leaves) ?_)
      rw [hpa]
      refine wd_k I_ok 1 rfl (wd_ix I_ok rfl rfl 33 rfl i rfl (by omega) (oa1 + i * 33) rfl (wd_ldN I_ok rfl rfl (fun w' hw' => ((hsa i hi).extNo (hXd.thenNo hw'))) (LeafD.len ha1.2) ?_))
      refine wd_k I_ok 1 rfl (wd_ld I_ok rfl rfl (fun w' hw' => (obd.extNo hw').leaves) ?_)
      rw [hpb]
      refine wd_k I_ok 1 rfl (wd_ix I_ok rfl rfl 33 rfl i rfl (by omega) (ob1 + i * 33) rfl (wd_ldN I_ok rfl rfl (fun w' hw' => ((hsb i him).extNo (hXd.thenNo hw'))) (LeafD.len ha2.2) ?_))
      refine wd_eqK rfl rfl gLeafD 10 (by decide) kLeafD (leafForm (LeafD.len ha1.2)) (leafForm (LeafD.len ha2.2)) (leafKey ha1.1 ha1.2) (leafKey ha2.1 ha2.2) leaf_eq ?_
      simp only [Bool.false_eq_true, if_false]
      refine wd_sw (wb_nil (f_then (c_if rfl (fun hc => ?_) (fun hc => ?_))))
      · refine c_seq ?_
        refine c_region (wl_p I_ok rfl (wl_nil (f_then (c_ret (f_blockR (f_thenR (f_thenR (f_blockR (f_thenR (f_ret1 rfl rfl ?_))))))))))
        exact ⟨congrArg Value.bool (by symm; rw [decide_eq_false_iff_not]; intro e; subst e; exact hc rfl), hX⟩
      · have hei := Decidable.not_not.1 hc
        refine c_skip (f_blockN (f_then (c_region (wl_p I_ok rfl ?_))))
        rw [IntWalk.i64_in _ (by omega)]
        refine wl_nil ?_
        exact f_round (i + 1) rfl ⟨⟨by omega, fun k hk hlt => (by rcases Nat.lt_or_ge k i with h0 | h0; exact hok k hk h0; (have e : k = i := (by omega)); subst e; exact hei)⟩, hb2, hb3, hX⟩ (by first | omega | (dsimp only; omega))
    · have e1 : x.leaves = y.leaves := list_ext hl1 fun k hk => hok k hk (by omega)
      refine c_exit (f_thenE (f_thenE (f_blockE (f_then (c_seq (c_seq (c_region (wl_p I_ok rfl (wl (st_ld I_ok rfl oa.parents (wl_p I_ok rfl (wl_nil (f_then (c_block ?_))))))))))))))
      refine c_loopK (α := Nat) [2, 3, 55] rfl (fun z => [(56, .int .i64 (z : Int))]) (fun z u => (z ≤ x.parents.length ∧ ∀ k (hk : k < x.parents.length), k < z → x.parents[k] = y.parents[k]'(by omega)) ∧ Blk u b2 48 (objC x a) ∧ Blk u b3 48 (objC y b) ∧ Ext No w u) (fun z u => x.parents.length - z) (0) rfl ⟨⟨Nat.zero_le _, fun k _ h => absurd h (Nat.not_lt_zero _)⟩, hb2, hb3, hX⟩ ?_
      rintro i w6 ⟨⟨hi, hok⟩, hb2, hb3, hX⟩
      have oa := hb2.seg.obj hx
      have ob := hb3.seg.obj hy
      refine c_seq (c_region (wl_p I_ok rfl (wl_nil (f_then (c_seq (c_if rfl (fun hc => ?_) (fun hc => ?_)))))))
      · have hi : i < x.parents.length := by omega
        have him : i < y.parents.length := by omega
        obtain ⟨ba, oa1, hpa, hsa⟩ := hxl.parents.rowAll (fun r hr => IdIn.len (hx.parents r hr)) (by omega)
        obtain ⟨bb, ob1, hpb, hsb⟩ := hyl.parents.rowAll (fun r hr => IdIn.len (hy.parents r hr)) (by omega)
        have ha1 : IdIn _ := hx.parents _ (List.getElem_mem hi)
        have ha2 : IdIn _ := hy.parents _ (List.getElem_mem him)
        refine c_skip (f_then (c_seq (c_block (c_seq (c_region (wl_p I_ok rfl (wl_nil (f_then (c_seq ?_)))))))))
        refine c_draw rfl 11 [(0, true), (1, true), (2, true), (3, true), (4, true), (5, true), (6, true), (7, true), (8, true), (9, true), (10, true)] [] (No) (by kernel_rfl) fun w7 hE7 hs7 => ?_
        have oad := oa
        have obd := ob
        have hXd := hX
        have hb2 := hb2.extNo hE7
        have hb3 := hb3.extNo hE7
        have hX := hX.thenNo hE7
        refine wd_k I_ok 1 rfl (wd_ld I_ok rfl rfl (fun w' hw' => (oad.extNo hw').parents) ?_)
        rw [hpa]
        refine wd_k I_ok 1 rfl (wd_ix I_ok rfl rfl 32 rfl i rfl (by omega) (oa1 + i * 32) rfl (wd_ldN I_ok rfl rfl (fun w' hw' => ((hsa i hi).extNo (hXd.thenNo hw'))) ha1.len ?_))
        refine wd_k I_ok 1 rfl (wd_ld I_ok rfl rfl (fun w' hw' => (obd.extNo hw').parents) ?_)
        rw [hpb]
        refine wd_k I_ok 1 rfl (wd_ix I_ok rfl rfl 32 rfl i rfl (by omega) (ob1 + i * 32) rfl (wd_ldN I_ok rfl rfl (fun w' hw' => ((hsb i him).extNo (hXd.thenNo hw'))) ha2.len ?_))
        refine wd_eqK rfl rfl gId 10 (by decide) kId (idForm ha1) (idForm ha2) (idKey ha1) (idKey ha2) idLits_inj ?_
        simp only [Bool.false_eq_true, if_false]
        refine wd_sw (wb_nil (f_then (c_if rfl (fun hc => ?_) (fun hc => ?_))))
        · refine c_seq ?_
          refine c_region (wl_p I_ok rfl (wl_nil (f_then (c_ret (f_blockR (f_thenR (f_thenR (f_blockR (f_thenR (f_ret1 rfl rfl ?_))))))))))
          exact ⟨congrArg Value.bool (by symm; rw [decide_eq_false_iff_not]; intro e; subst e; exact hc rfl), hX⟩
        · have hei := Decidable.not_not.1 hc
          refine c_skip (f_blockN (f_then (c_region (wl_p I_ok rfl ?_))))
          rw [IntWalk.i64_in _ (by omega)]
          refine wl_nil ?_
          exact f_round (i + 1) rfl ⟨⟨by omega, fun k hk hlt => (by rcases Nat.lt_or_ge k i with h0 | h0; exact hok k hk h0; (have e : k = i := (by omega)); subst e; exact hei)⟩, hb2, hb3, hX⟩ (by first | omega | (dsimp only; omega))
      · have e2 : x.parents = y.parents := list_ext hl2 fun k hk => hok k hk (by omega)
        refine c_exit (f_thenE (f_thenE (f_blockE (f_then (c_seq (c_seq (c_region (wl_p I_ok rfl (wl (st_ld I_ok rfl oa.rows (wl_p I_ok rfl (wl_nil (f_then (c_block ?_))))))))))))))
        refine c_loopK (α := Nat) [2, 3, 74] rfl (fun z => [(75, .int .i64 (z : Int))]) (fun z u => (z ≤ x.rows.length ∧ ∀ k (hk : k < x.rows.length), k < z → x.rows[k] = y.rows[k]'(by omega)) ∧ Blk u b2 48 (objC x a) ∧ Blk u b3 48 (objC y b) ∧ Ext No w u) (fun z u => x.rows.length - z) (0) rfl ⟨⟨Nat.zero_le _, fun k _ h => absurd h (Nat.not_lt_zero _)⟩, hb2, hb3, hX⟩ ?_
        rintro i w8 ⟨⟨hi, hok⟩, hb2, hb3, hX⟩
        have oa := hb2.seg.obj hx
        have ob := hb3.seg.obj hy
        refine c_seq (c_region (wl_p I_ok rfl (wl_nil (f_then (c_seq (c_if rfl (fun hc => ?_) (fun hc => ?_)))))))
        · have hi : i < x.rows.length := by omega
          have him : i < y.rows.length := by omega
          obtain ⟨ba, oa1, hpa, hsa⟩ := hxl.rows.rowAll (fun r _ => r.len) (by omega)
          obtain ⟨bb, ob1, hpb, hsb⟩ := hyl.rows.rowAll (fun r _ => r.len) (by omega)
          have ha1 := hx.rows _ (List.getElem_mem hi)
          have ha2 := hy.rows _ (List.getElem_mem him)
          refine c_skip (f_then (c_seq (c_block (c_seq (c_region (wl_p I_ok rfl (wl_nil (f_then (c_seq ?_)))))))))
          refine c_draw rfl 13 [(0, true), (1, true), (2, true), (3, true), (4, true), (5, true), (6, true), (7, true), (8, true), (9, true), (10, true), (11, true), (12, true)] [] (No) (by kernel_rfl) fun w9 hE9 hs9 => ?_
          have oad := oa
          have obd := ob
          have hXd := hX
          have hb2 := hb2.extNo hE9
          have hb3 := hb3.extNo hE9
          have hX := hX.thenNo hE9
          refine wd_k I_ok 2 rfl (wd_ld I_ok rfl rfl (fun w' hw' => (oad.extNo hw').rows) ?_)
          rw [hpa]
          refine wd_k I_ok 1 rfl (wd_ix I_ok rfl rfl 3 rfl i rfl (by omega) (oa1 + i * 3) rfl (wd_ldN I_ok rfl rfl (fun w' hw' => ((hsa i hi).extNo (hXd.thenNo hw'))) rfl ?_))
          refine wd_k I_ok 2 rfl (wd_ld I_ok rfl rfl (fun w' hw' => (obd.extNo hw').rows) ?_)
          rw [hpb]
          refine wd_k I_ok 1 rfl (wd_ix I_ok rfl rfl 3 rfl i rfl (by omega) (ob1 + i * 3) rfl (wd_ldN I_ok rfl rfl (fun w' hw' => ((hsb i him).extNo (hXd.thenNo hw'))) rfl ?_))
          refine wd_eqK rfl rfl gChgD 10 (by decide) kChgD (chgForm rfl) (chgForm rfl) (chgKey ha1.1 ha1.2) (chgKey ha2.1 ha2.2) chg_eq ?_
          simp only [Bool.false_eq_true, if_false]
          refine wd_sw (wb_nil (f_then (c_if rfl (fun hc => ?_) (fun hc => ?_))))
          · refine c_seq ?_
            refine c_region (wl_p I_ok rfl (wl_nil (f_then (c_ret (f_blockR (f_thenR (f_thenR (f_blockR (f_thenR (f_ret1 rfl rfl ?_))))))))))
            exact ⟨congrArg Value.bool (by symm; rw [decide_eq_false_iff_not]; intro e; subst e; exact hc rfl), hX⟩
          · have hei := Decidable.not_not.1 hc
            refine c_skip (f_blockN (f_then (c_region (wl_p I_ok rfl ?_))))
            rw [IntWalk.i64_in _ (by omega)]
            refine wl_nil ?_
            exact f_round (i + 1) rfl ⟨⟨by omega, fun k hk hlt => (by rcases Nat.lt_or_ge k i with h0 | h0; exact hok k hk h0; (have e : k = i := (by omega)); subst e; exact hei)⟩, hb2, hb3, hX⟩ (by first | omega | (dsimp only; omega))
        · have e3 : x.rows = y.rows := list_ext hl3 fun k hk => hok k hk (by omega)
          refine c_exit (f_thenE (f_thenE (f_blockE (f_then (c_cutK (α := Bool) [] rfl (fun z => [(4, .bool z)]) (fun z u => (z = decide (x = y)) ∧ Ext No w u) ?_ ?_)))))
          · refine c_region ?_
            refine wl_p I_ok rfl (wl (st_ld I_ok rfl oa.kind (wl_p I_ok rfl (wl (st_ld I_ok rfl ob.kind (wl_p I_ok rfl (wl_caseD 97 rfl (fun hg => ?_) (fun hg => ?_))))))))
            · have t1 : x.kind = y.kind := by exact hg
              refine wl_pk I_ok 1 rfl (wl (st_ld I_ok rfl oa.text (wl_pk I_ok 1 rfl (wl (st_ld I_ok rfl ob.text (wl_pk I_ok 3 rfl (wl_caseD 104 rfl (fun hg => ?_) (fun hg => ?_))))))))
              · have t2 : x.text = y.text := by exact str_iff.1 hg
                refine wl_pk I_ok 1 rfl (wl (st_ld I_ok rfl oa.style (wl_pk I_ok 1 rfl (wl (st_ld I_ok rfl ob.style (wl_pk I_ok 3 rfl (wl_caseD 111 rfl (fun hg => ?_) (fun hg => ?_))))))))
                · have t3 : x.style = y.style := by exact hg
                  refine wl_pk I_ok 1 rfl (wl (st_ldN I_ok rfl oa.tree (IdIn.len hx.tree) (wl_pk I_ok 1 rfl (wl (st_ldN I_ok rfl ob.tree (IdIn.len hy.tree) ?_)))))
                  refine wl (st_eqK rfl gId 10 (by decide) kId (idForm hx.tree) (idForm hy.tree) (idKey hx.tree) (idKey hy.tree) idLits_inj ?_)
                  simp only [if_true]
                  refine wl_p I_ok rfl (wl_caseD 118 rfl (fun hg => ?_) (fun hg => ?_))
                  · have t4 : x.tree = y.tree := by exact hg
                    refine wl_pk I_ok 1 rfl (wl (st_ldN I_ok rfl oa.base (IdIn.len hx.base) (wl_pk I_ok 1 rfl (wl (st_ldN I_ok rfl ob.base (IdIn.len hy.base) ?_)))))
                    refine wl (st_eqK rfl gId 10 (by decide) kId (idForm hx.base) (idForm hy.base) (idKey hx.base) (idKey hy.base) idLits_inj ?_)
                    simp only [if_true]
                    refine wl_p I_ok rfl (wl_caseD 125 rfl (fun hg => ?_) (fun hg => ?_))
                    · have t5 : x.base = y.base := by exact hg
                      refine wl_pk I_ok 1 rfl (wl (st_ld I_ok rfl oa.number (wl_pk I_ok 1 rfl (wl (st_ld I_ok rfl ob.number (wl_pk I_ok 3 rfl (wl_caseD 132 rfl (fun hg => ?_) (fun hg => ?_))))))))
                      · have t6 : x.number = y.number := by omega
                        refine wl_pk I_ok 1 rfl (wl (st_ld I_ok rfl oa.author (wl_pk I_ok 1 rfl (wl (st_ld I_ok rfl ob.author (wl_pk I_ok 3 rfl (wl_caseD 139 rfl (fun hg => ?_) (fun hg => ?_))))))))
                        · have t7 : x.author = y.author := by omega
                          refine wl_pk I_ok 1 rfl (wl (st_ld I_ok rfl oa.note (wl_pk I_ok 1 rfl (wl (st_ld I_ok rfl ob.note (wl_pk I_ok 3 rfl (wl_nil ?_)))))))
                          exact f_cut (_) rfl ⟨by rw [decide_eq_decide, str_iff]; exact ⟨fun h => same_iff.2 ⟨⟨t1, t2, t3, t4, t5, t6, t7, h⟩, e1, e2, e3⟩, fun h => (same_iff.1 h).1.2.2.2.2.2.2.2⟩, hX⟩
                        · have n7 : ¬ x.author = y.author := fun e => hg (by rw [e])
                          refine wl_pk I_ok 7 rfl (wl_nil ?_)
                          exact f_cut (false) rfl ⟨by symm; rw [decide_eq_false_iff_not]; intro e; have h := (same_iff.1 e).1; exact n7 h.2.2.2.2.2.2.1, hX⟩
                      · have n6 : ¬ x.number = y.number := fun e => hg (by rw [e])
                        refine wl_pk I_ok 14 rfl (wl_nil ?_)
                        exact f_cut (false) rfl ⟨by symm; rw [decide_eq_false_iff_not]; intro e; have h := (same_iff.1 e).1; exact n6 h.2.2.2.2.2.1, hX⟩
                    · have n5 : ¬ x.base = y.base := fun e => hg (by rw [e])
                      refine wl_pk I_ok 21 rfl (wl_nil ?_)
                      exact f_cut (false) rfl ⟨by symm; rw [decide_eq_false_iff_not]; intro e; have h := (same_iff.1 e).1; exact n5 h.2.2.2.2.1, hX⟩
                  · have n4 : ¬ x.tree = y.tree := fun e => hg (by rw [e])
                    refine wl_pk I_ok 28 rfl (wl_nil ?_)
                    exact f_cut (false) rfl ⟨by symm; rw [decide_eq_false_iff_not]; intro e; have h := (same_iff.1 e).1; exact n4 h.2.2.2.1, hX⟩
                · have n3 : ¬ x.style = y.style := fun e => hg (by rw [e])
                  refine wl_pk I_ok 35 rfl (wl_nil ?_)
                  exact f_cut (false) rfl ⟨by symm; rw [decide_eq_false_iff_not]; intro e; have h := (same_iff.1 e).1; exact n3 h.2.2.1, hX⟩
              · have n2 : ¬ x.text = y.text := fun e => hg (by rw [e])
                refine wl_pk I_ok 42 rfl (wl_nil ?_)
                exact f_cut (false) rfl ⟨by symm; rw [decide_eq_false_iff_not]; intro e; have h := (same_iff.1 e).1; exact n2 h.2.1, hX⟩
            · have n1 : ¬ x.kind = y.kind := fun e => hg (by rw [e])
              refine wl_pk I_ok 49 rfl (wl_nil ?_)
              exact f_cut (false) rfl ⟨by symm; rw [decide_eq_false_iff_not]; intro e; have h := (same_iff.1 e).1; exact n1 h.1, hX⟩
          rintro z w10 ⟨rfl, hX⟩
          refine c_ret (f_ret1 rfl rfl ?_)
          exact ⟨rfl, hX⟩
end Go.Proofs.YtpcdihkcenfgkaaGreat
namespace Go.Proofs.YtpcdihkcenfgkaaGreat
open Go.Vc
theorem objC_parents {o : ObjD} {a : ObjP} (h : ObjIn o) {p : Option Addr} {c : Nat} : (objC o a).set (68 + 0) (.slice p o.parents.length c) = objC o ⟨a.lp, a.lc, p, c, a.rp, a.rc⟩ := objC_set h 0 _
theorem objC_rows {o : ObjD} {a : ObjP} (h : ObjIn o) {p : Option Addr} {c : Nat} : (objC o a).set (68 + 1) (.slice p o.rows.length c) = objC o ⟨a.lp, a.lc, a.pp, a.pc, p, c⟩ := objC_set h 1 _
theorem newB {n b : Nat} (h : n ≤ b) : ∀ x, OwnB (some ⟨b, 0, none⟩) x → n ≤ x := fun x hx => by have e : b = x := congrArg Addr.block (Option.some.inj hx); omega
theorem copy6_calls (w : World) {x : ObjD} {a : ObjP} (hx : ObjIn x) (hxl : ObjL w x a) (hlx1 : x.leaves.length < 1000000000) (hlx2 : x.parents.length < 1000000000) (hlx3 : x.rows.length < 1000000000) :
    CallsV Tryz.prog 58 [.agg (objC x a).toArray] w fun v w' => ∃ a', v = .agg (objC x a').toArray ∧ ObjNew w w' x a' ∧ Ext No w w' := by
  refine calls_enter Tryz.func58 rfl rfl rfl rfl ?_
  have hX := Ext.refl No w
  refine c_seq (c_region (wl (st_al I_ok rfl fun b1 w1 hn1 hb1 hE1 => ?_)))
  have fr1 := Nat.le_trans hX.size hn1
  have hX := hX.thenNo hE1
  have hb1 : Blk w1 b1 48 (objC x a) := hb1
  refine wl (st_al I_ok rfl fun b2 w2 hn2 hb2 hE2 => ?_)
  have ne1_2 : b1 ≠ b2 := Nat.ne_of_lt (Nat.lt_of_lt_of_le hb1.lt hn2)
  have fr2 := Nat.le_trans hX.size hn2
  have hb1 := hb1.extNo hE2
  have hX := hX.thenNo hE2
  refine wl_nil (f_then (c_cutK (α := ObjP) [1, 2] rfl (fun z => []) (fun z u => (ObjNew w u x z) ∧ Blk u b1 48 (objC x z) ∧ Blk u b2 48 (cellsOf ti48.zero) ∧ Ext No w u) ?_ ?_))
  · refine c_drawX rfl 14 14 [14, 15, 16, 17, 18, 19] (No) (by kernel_rfl) fun w3 hE3 hs3 => ?_
    have hd1 := hb1
    have hb1 := hb1.extNo hE3
    have hb2 := hb2.extNo hE3
    have hX := hX.thenNo hE3
    have hC : Ext No _ w3 := hE3
    refine wx_plan [(1, true), (2, true), (5, true), (6, true), (9, true), (10, true), (11, true)] 7 rfl (by kernel_rfl) (wd_k I_ok 1 rfl (wd_ld I_ok rfl rfl (fun w' hw' => ((hd1.extNo hw').seg.obj hx).leaves) ?_))
    refine wd_k I_ok 1 rfl (wd_ld I_ok rfl rfl (fun w' hw' => ((hd1.extNo hw').seg.obj hx).parents) ?_)
    refine wd_k I_ok 2 rfl (wd_ld I_ok rfl rfl (fun w' hw' => ((hd1.extNo hw').seg.obj hx).rows) ?_)
    refine wd_tail rfl (wx_alt [0, 4, 8] rfl (by kernel_rfl) ⟨⟨_, rfl, ?_⟩, ⟨_, rfl, ?_⟩, ⟨_, rfl, ?_⟩, trivial⟩)
    · refine st_bs I_ok rfl 33 rfl leafZ_c (LeafD.len rfl) (by decide) (by decide) trivial (l' := []) rfl fun b3 w4 hn3 hb3 hE4 hs4 => ⟨hC.thenNo hE4, ?_⟩
      have fr3 := Nat.le_trans hX.size hn3
      have frhC3 := Nat.le_trans hC.size hn3
      have hb1 := hb1.extNo hE4
      have hb2 := hb2.extNo hE4
      have hX := hX.thenNo hE4
      have hC := hC.thenNo hE4
      refine wx_plan [] 6 rfl (by kernel_rfl) (wd_tail rfl (wx_alt [3, 4, 8] rfl (by kernel_rfl) ⟨⟨_, rfl, ?_⟩, ⟨_, rfl, ?_⟩, ⟨_, rfl, ?_⟩, trivial⟩))
      · have hX0 := hX
        have hbsL := hb3
        refine st_app I_ok rfl 33 48 rfl rfl rfl (by decide) (Own.blk (n := 0) (c := 0) hb3 33 rfl (Nat.le_refl _) (by decide)) (Src.slice (hxl.leaves.extNo hX) OneC.h) (by dsimp only [maxLen]; omega) (by dsimp only; omega) fun p5 c5 w5 ho5 hE5 hB5 => ⟨hC.trans hE5 (fun y hy hF => by have e : b3 = y := congrArg Addr.block (Option.some.inj hF); omega), ?_⟩
        have hC := hC.trans hE5 (fun y hy hF => by have e : b3 = y := congrArg Addr.block (Option.some.inj hF); omega)
        dsimp only at ho5 hE5 hB5 ⊢
        have hbo5 := Own.blk (n := 0) (c := 0) hbsL 33 rfl (Nat.le_refl _) (by decide)
        have hb1 := hb1.extOwn hbo5 hE5 (show (50 : Nat) ≠ 48 from by decide)
        have hb2 := hb2.extOwn hbo5 hE5 (show (50 : Nat) ≠ 48 from by decide)
        try have hP := hP.extOwn hbo5 hE5 (show (50 : Nat) ≠ 31 from by decide)
        try have hR := hR.extOwn hbo5 hE5 (show (50 : Nat) ≠ 102 from by decide)
        try have hb7 := hb7.extOwn hbo5 hE5 (show (50 : Nat) ≠ 31 from by decide)
        try have hb11 := hb11.extOwn hbo5 hE5 (show (50 : Nat) ≠ 102 from by decide)
        have hX := hX0.trans hE5 fun y hy hF => by have e : b3 = y := congrArg Addr.block (Option.some.inj hF); omega
        obtain ⟨qL, kL, e1, e2, hL⟩ : ∃ q k, q = p5 ∧ k = c5 ∧ Own w5 q x.leaves.length k 50 33 (x.leaves.flatMap LeafD.cells) := ⟨_, _, rfl, rfl, by have h := ho5; rw [Nat.zero_add] at h; exact h⟩
        have nL := newW hX0 (newB fr3) hB5
        rw [← e1] at nL
        rw [← e1, ← e2, Nat.zero_add]
        refine wx_plan [(13, true)] 4 rfl (by kernel_rfl) (wd_k I_ok 1 rfl (wd_tail rfl (wx_alt [4, 8] rfl (by kernel_rfl) ⟨⟨_, rfl, ?_⟩, ⟨_, rfl, ?_⟩, trivial⟩)))
        · refine st_bs I_ok rfl 32 rfl idZ_c.symm (by rw [bytesU_len]; rfl) (by decide) (by decide) trivial (l' := []) rfl fun b7 w6 hn7 hb7 hE6 hs6 => ⟨hC.thenNo hE6, ?_⟩
          have fr7 := Nat.le_trans hX.size hn7
          have frhC7 := Nat.le_trans hC.size hn7
          have hb1 := hb1.extNo hE6
          have hb2 := hb2.extNo hE6
          have hL := hL.ext hE6 fun _ _ => id
          have hX := hX.thenNo hE6
          have hC := hC.thenNo hE6
          refine wx_plan [] 3 rfl (by kernel_rfl) (wd_tail rfl (wx_alt [7, 8] rfl (by kernel_rfl) ⟨⟨_, rfl, ?_⟩, ⟨_, rfl, ?_⟩, trivial⟩))
          · have hX0 := hX
            have hbsP := hb7
            refine st_app I_ok rfl 32 32 rfl rfl rfl (by decide) (Own.blk (n := 0) (c := 0) hb7 32 rfl (Nat.le_refl _) (by decide)) (Src.slice (hxl.parents.extNo hX) OneC.h) (by dsimp only [maxLen]; omega) (by dsimp only; omega) fun p7 c7 w7 ho7 hE7 hB7 => ⟨hC.trans hE7 (fun y hy hF => by have e : b7 = y := congrArg Addr.block (Option.some.inj hF); omega), ?_⟩
            have hC := hC.trans hE7 (fun y hy hF => by have e : b7 = y := congrArg Addr.block (Option.some.inj hF); omega)
            dsimp only at ho7 hE7 hB7 ⊢
            have hbo7 := Own.blk (n := 0) (c := 0) hbsP 32 rfl (Nat.le_refl _) (by decide)
            have hb1 := hb1.extOwn hbo7 hE7 (show (31 : Nat) ≠ 48 from by decide)
            have hb2 := hb2.extOwn hbo7 hE7 (show (31 : Nat) ≠ 48 from by decide)
            try have hL := hL.extOwn hbo7 hE7 (show (31 : Nat) ≠ 50 from by decide)
            try have hR := hR.extOwn hbo7 hE7 (show (31 : Nat) ≠ 102 from by decide)
            try have hb11 := hb11.extOwn hbo7 hE7 (show (31 : Nat) ≠ 102 from by decide)
            have hX := hX0.trans hE7 fun y hy hF => by have e : b7 = y := congrArg Addr.block (Option.some.inj hF); omega
            obtain ⟨qP, kP, e1, e2, hP⟩ : ∃ q k, q = p7 ∧ k = c7 ∧ Own w7 q x.parents.length k 31 32 (x.parents.flatMap bytesU) := ⟨_, _, rfl, rfl, by have h := ho7; rw [Nat.zero_add] at h; exact h⟩
            have nP := newW hX0 (newB fr7) hB7
            rw [← e1] at nP
            rw [← e1, ← e2, Nat.zero_add]
            refine wx_plan [(8, false), (12, false)] 0 rfl (by kernel_rfl) (wd_l rfl (st_bs I_ok rfl 3 rfl chgZ_c rfl (by decide) (by decide) trivial (l' := []) rfl fun b11 w8 hn11 hb11 hE8 hs8 => ⟨hC.thenNo hE8, ?_⟩))
            have fr11 := Nat.le_trans hX.size hn11
            have frhC11 := Nat.le_trans hC.size hn11
            have hb1 := hb1.extNo hE8
            have hb2 := hb2.extNo hE8
            have hL := hL.ext hE8 fun _ _ => id
            have hP := hP.ext hE8 fun _ _ => id
            have hX := hX.thenNo hE8
            have hC := hC.thenNo hE8
            have hX0 := hX
            have hbsR := hb11
            refine wd_l rfl (st_app I_ok rfl 3 40 rfl rfl rfl (by decide) (Own.blk (n := 0) (c := 0) hb11 3 rfl (Nat.le_refl _) (by decide)) (Src.slice (hxl.rows.extNo hX) OneC.h) (by dsimp only [maxLen]; omega) (by dsimp only; omega) fun p9 c9 w9 ho9 hE9 hB9 => ⟨hC.trans hE9 (fun y hy hF => by have e : b11 = y := congrArg Addr.block (Option.some.inj hF); omega), ?_⟩)
            dsimp only at ho9 hE9 hB9 ⊢
            have hbo9 := Own.blk (n := 0) (c := 0) hbsR 3 rfl (Nat.le_refl _) (by decide)
            have hb1 := hb1.extOwn hbo9 hE9 (show (102 : Nat) ≠ 48 from by decide)
            have hb2 := hb2.extOwn hbo9 hE9 (show (102 : Nat) ≠ 48 from by decide)
            try have hL := hL.extOwn hbo9 hE9 (show (102 : Nat) ≠ 50 from by decide)
            try have hP := hP.extOwn hbo9 hE9 (show (102 : Nat) ≠ 31 from by decide)
            have hX := hX0.trans hE9 fun y hy hF => by have e : b11 = y := congrArg Addr.block (Option.some.inj hF); omega
            obtain ⟨qR, kR, e1, e2, hR⟩ : ∃ q k, q = p9 ∧ k = c9 ∧ Own w9 q x.rows.length k 102 3 (x.rows.flatMap ChgD.cells) := ⟨_, _, rfl, rfl, by have h := ho9; rw [Nat.zero_add] at h; exact h⟩
            have nR := newW hX0 (newB fr11) hB9
            rw [← e1] at nR
            rw [← e1, ← e2, Nat.zero_add]
            refine wd_sw ?_
            have hb1o := hb1
            refine wb rfl (st_st I_ok hb1 rfl rfl rfl fun w10 hb1 hE10 hs10 => ?_)
            have hb2 := hb2.ext1 hE10 ne1_2.symm
            have hL := hL.extTy hE10 hb1o (by decide)
            have hP := hP.extTy hE10 hb1o (by decide)
            have hR := hR.extTy hE10 hb1o (by decide)
            have hX := hX.thenNew hE10 fr1
            have hb1 : Blk w10 b1 48 (objC x ⟨qL, kL, a.pp, a.pc, a.rp, a.rc⟩) := hb1
            refine wb rfl (st_p I_ok rfl rfl rfl ?_)
            have hb1o := hb1
            refine wb rfl (st_set I_ok hb1 rfl rfl (by rw [objC_len hx]; decide) fun w11 hb1 hE11 hs11 => ?_)
            have hb2 := hb2.ext1 hE11 ne1_2.symm
            have hL := hL.extTy hE11 hb1o (by decide)
            have hP := hP.extTy hE11 hb1o (by decide)
            have hR := hR.extTy hE11 hb1o (by decide)
            have hX := hX.thenNew hE11 fr1
            have hb1 : Blk w11 b1 48 (objC x ⟨qL, kL, qP, kP, a.rp, a.rc⟩) := (by have h : Blk _ b1 _ ((objC x ⟨qL, kL, a.pp, a.pc, a.rp, a.rc⟩).set (68 + 0) (.slice qP x.parents.length kP)) := hb1; rw [objC_parents hx] at h; exact h)
            refine wb rfl (st_p I_ok rfl rfl rfl (wb rfl (st_p I_ok rfl rfl rfl ?_)))
            have hb1o := hb1
            refine wb rfl (st_set I_ok hb1 rfl rfl (by rw [objC_len hx]; decide) fun w12 hb1 hE12 hs12 => ?_)
            have hb2 := hb2.ext1 hE12 ne1_2.symm
            have hL := hL.extTy hE12 hb1o (by decide)
            have hP := hP.extTy hE12 hb1o (by decide)
            have hR := hR.extTy hE12 hb1o (by decide)
            have hX := hX.thenNew hE12 fr1
            have hb1 : Blk w12 b1 48 (objC x ⟨qL, kL, qP, kP, qR, kR⟩) := (by have h : Blk _ b1 _ ((objC x ⟨qL, kL, qP, kP, a.rp, a.rc⟩).set (68 + 1) (.slice qR x.rows.length kR)) := hb1; rw [objC_rows hx] at h; exact h)
            refine wb_nil ?_
            exact f_cut (⟨qL, kL, qP, kP, qR, kR⟩) rfl ⟨⟨hL, hP, hR, nL, nP, nR⟩, hb1, hb2, hX⟩
          · refine st_bs I_ok rfl 3 rfl chgZ_c rfl (by decide) (by decide) trivial (l' := []) rfl fun b11 w13 hn11 hb11 hE13 hs13 => ⟨hC.thenNo hE13, ?_⟩
            have fr11 := Nat.le_trans hX.size hn11
            have frhC11 := Nat.le_trans hC.size hn11
            have hb1 := hb1.extNo hE13
            have hb2 := hb2.extNo hE13
            have hb7 := hb7.extNo hE13
            have hL := hL.ext hE13 fun _ _ => id
            have hX := hX.thenNo hE13
            have hC := hC.thenNo hE13
            refine wx_plan [(7, false), (12, false)] 0 rfl (by kernel_rfl) ?_
            have hX0 := hX
            have hbsP := hb7
            refine wd_l rfl (st_app I_ok rfl 32 32 rfl rfl rfl (by decide) (Own.blk (n := 0) (c := 0) hb7 32 rfl (Nat.le_refl _) (by decide)) (Src.slice (hxl.parents.extNo hX) OneC.h) (by dsimp only [maxLen]; omega) (by dsimp only; omega) fun p14 c14 w14 ho14 hE14 hB14 => ⟨hC.trans hE14 (fun y hy hF => by have e : b7 = y := congrArg Addr.block (Option.some.inj hF); omega), ?_⟩)
            have hC := hC.trans hE14 (fun y hy hF => by have e : b7 = y := congrArg Addr.block (Option.some.inj hF); omega)
            dsimp only at ho14 hE14 hB14 ⊢
            have hbo14 := Own.blk (n := 0) (c := 0) hbsP 32 rfl (Nat.le_refl _) (by decide)
            have hb1 := hb1.extOwn hbo14 hE14 (show (31 : Nat) ≠ 48 from by decide)
            have hb2 := hb2.extOwn hbo14 hE14 (show (31 : Nat) ≠ 48 from by decide)
            try have hL := hL.extOwn hbo14 hE14 (show (31 : Nat) ≠ 50 from by decide)
            try have hR := hR.extOwn hbo14 hE14 (show (31 : Nat) ≠ 102 from by decide)
            try have hb11 := hb11.extOwn hbo14 hE14 (show (31 : Nat) ≠ 102 from by decide)
            have hX := hX0.trans hE14 fun y hy hF => by have e : b7 = y := congrArg Addr.block (Option.some.inj hF); omega
            obtain ⟨qP, kP, e1, e2, hP⟩ : ∃ q k, q = p14 ∧ k = c14 ∧ Own w14 q x.parents.length k 31 32 (x.parents.flatMap bytesU) := ⟨_, _, rfl, rfl, by have h := ho14; rw [Nat.zero_add] at h; exact h⟩
            have nP := newW hX0 (newB fr7) hB14
            rw [← e1] at nP
            rw [← e1, ← e2, Nat.zero_add]
            have hX0 := hX
            have hbsR := hb11
            refine wd_l rfl (st_app I_ok rfl 3 40 rfl rfl rfl (by decide) (Own.blk (n := 0) (c := 0) hb11 3 rfl (Nat.le_refl _) (by decide)) (Src.slice (hxl.rows.extNo hX) OneC.h) (by dsimp only [maxLen]; omega) (by dsimp only; omega) fun p15 c15 w15 ho15 hE15 hB15 => ⟨hC.trans hE15 (fun y hy hF => by have e : b11 = y := congrArg Addr.block (Option.some.inj hF); omega), ?_⟩)
            dsimp only at ho15 hE15 hB15 ⊢
            have hbo15 := Own.blk (n := 0) (c := 0) hbsR 3 rfl (Nat.le_refl _) (by decide)
            have hb1 := hb1.extOwn hbo15 hE15 (show (102 : Nat) ≠ 48 from by decide)
            have hb2 := hb2.extOwn hbo15 hE15 (show (102 : Nat) ≠ 48 from by decide)
            try have hL := hL.extOwn hbo15 hE15 (show (102 : Nat) ≠ 50 from by decide)
            try have hP := hP.extOwn hbo15 hE15 (show (102 : Nat) ≠ 31 from by decide)
            have hX := hX0.trans hE15 fun y hy hF => by have e : b11 = y := congrArg Addr.block (Option.some.inj hF); omega
            obtain ⟨qR, kR, e1, e2, hR⟩ : ∃ q k, q = p15 ∧ k = c15 ∧ Own w15 q x.rows.length k 102 3 (x.rows.flatMap ChgD.cells) := ⟨_, _, rfl, rfl, by have h := ho15; rw [Nat.zero_add] at h; exact h⟩
            have nR := newW hX0 (newB fr11) hB15
            rw [← e1] at nR
            rw [← e1, ← e2, Nat.zero_add]
            refine wd_sw ?_
            have hb1o := hb1
            refine wb rfl (st_st I_ok hb1 rfl rfl rfl fun w16 hb1 hE16 hs16 => ?_)
            have hb2 := hb2.ext1 hE16 ne1_2.symm
            have hL := hL.extTy hE16 hb1o (by decide)
            have hP := hP.extTy hE16 hb1o (by decide)
            have hR := hR.extTy hE16 hb1o (by decide)
            have hX := hX.thenNew hE16 fr1
            have hb1 : Blk w16 b1 48 (objC x ⟨qL, kL, a.pp, a.pc, a.rp, a.rc⟩) := hb1
            refine wb rfl (st_p I_ok rfl rfl rfl ?_)
            have hb1o := hb1
            refine wb rfl (st_set I_ok hb1 rfl rfl (by rw [objC_len hx]; decide) fun w17 hb1 hE17 hs17 => ?_)
            have hb2 := hb2.ext1 hE17 ne1_2.symm
            have hL := hL.extTy hE17 hb1o (by decide)
            have hP := hP.extTy hE17 hb1o (by decide)
            have hR := hR.extTy hE17 hb1o (by decide)
            have hX := hX.thenNew hE17 fr1
            have hb1 : Blk w17 b1 48 (objC x ⟨qL, kL, qP, kP, a.rp, a.rc⟩) := (by have h : Blk _ b1 _ ((objC x ⟨qL, kL, a.pp, a.pc, a.rp, a.rc⟩).set (68 + 0) (.slice qP x.parents.length kP)) := hb1; rw [objC_parents hx] at h; exact h)
            refine wb rfl (st_p I_ok rfl rfl rfl (wb rfl (st_p I_ok rfl rfl rfl ?_)))
            have hb1o := hb1
            refine wb rfl (st_set I_ok hb1 rfl rfl (by rw [objC_len hx]; decide) fun w18 hb1 hE18 hs18 => ?_)
            have hb2 := hb2.ext1 hE18 ne1_2.symm
            have hL := hL.extTy hE18 hb1o (by decide)
            have hP := hP.extTy hE18 hb1o (by decide)
            have hR := hR.extTy hE18 hb1o (by decide)
            have hX := hX.thenNew hE18 fr1
            have hb1 : Blk w18 b1 48 (objC x ⟨qL, kL, qP, kP, qR, kR⟩) := (by have h : Blk _ b1 _ ((objC x ⟨qL, kL, qP, kP, a.rp, a.rc⟩).set (68 + 1) (.slice qR x.rows.length kR)) := hb1; rw [objC_rows hx] at h; exact h)
            refine wb_nil ?_
            exact f_cut (⟨qL, kL, qP, kP, qR, kR⟩) rfl ⟨⟨hL, hP, hR, nL, nP, nR⟩, hb1, hb2, hX⟩
        · refine st_bs I_ok rfl 3 rfl chgZ_c rfl (by decide) (by decide) trivial (l' := []) rfl fun b11 w19 hn11 hb11 hE19 hs19 => ⟨hC.thenNo hE19, ?_⟩
          have fr11 := Nat.le_trans hX.size hn11
          have frhC11 := Nat.le_trans hC.size hn11
          have hb1 := hb1.extNo hE19
          have hb2 := hb2.extNo hE19
          have hL := hL.ext hE19 fun _ _ => id
          have hX := hX.thenNo hE19
          have hC := hC.thenNo hE19
          refine wx_plan [(4, false), (7, false), (12, false)] 0 rfl (by kernel_rfl) ?_
          refine wd_l rfl (st_bs I_ok rfl 32 rfl idZ_c.symm (by rw [bytesU_len]; rfl) (by decide) (by decide) trivial (l' := []) rfl fun b7 w20 hn7 hb7 hE20 hs20 => ⟨hC.thenNo hE20, ?_⟩)
          have fr7 := Nat.le_trans hX.size hn7
          have frhC7 := Nat.le_trans hC.size hn7
          have hb1 := hb1.extNo hE20
          have hb2 := hb2.extNo hE20
          have hb11 := hb11.extNo hE20
          have hL := hL.ext hE20 fun _ _ => id
          have hX := hX.thenNo hE20
          have hC := hC.thenNo hE20
          have hX0 := hX
          have hbsP := hb7
          refine wd_l rfl (st_app I_ok rfl 32 32 rfl rfl rfl (by decide) (Own.blk (n := 0) (c := 0) hb7 32 rfl (Nat.le_refl _) (by decide)) (Src.slice (hxl.parents.extNo hX) OneC.h) (by dsimp only [maxLen]; omega) (by dsimp only; omega) fun p21 c21 w21 ho21 hE21 hB21 => ⟨hC.trans hE21 (fun y hy hF => by have e : b7 = y := congrArg Addr.block (Option.some.inj hF); omega), ?_⟩)
          have hC := hC.trans hE21 (fun y hy hF => by have e : b7 = y := congrArg Addr.block (Option.some.inj hF); omega)
          dsimp only at ho21 hE21 hB21 ⊢
          have hbo21 := Own.blk (n := 0) (c := 0) hbsP 32 rfl (Nat.le_refl _) (by decide)
          have hb1 := hb1.extOwn hbo21 hE21 (show (31 : Nat) ≠ 48 from by decide)
          have hb2 := hb2.extOwn hbo21 hE21 (show (31 : Nat) ≠ 48 from by decide)
          try have hL := hL.extOwn hbo21 hE21 (show (31 : Nat) ≠ 50 from by decide)
          try have hR := hR.extOwn hbo21 hE21 (show (31 : Nat) ≠ 102 from by decide)
          try have hb11 := hb11.extOwn hbo21 hE21 (show (31 : Nat) ≠ 102 from by decide)
          have hX := hX0.trans hE21 fun y hy hF => by have e : b7 = y := congrArg Addr.block (Option.some.inj hF); omega
          obtain ⟨qP, kP, e1, e2, hP⟩ : ∃ q k, q = p21 ∧ k = c21 ∧ Own w21 q x.parents.length k 31 32 (x.parents.flatMap bytesU) := ⟨_, _, rfl, rfl, by have h := ho21; rw [Nat.zero_add] at h; exact h⟩
          have nP := newW hX0 (newB fr7) hB21
          rw [← e1] at nP
          rw [← e1, ← e2, Nat.zero_add]
          have hX0 := hX
          have hbsR := hb11
          refine wd_l rfl (st_app I_ok rfl 3 40 rfl rfl rfl (by decide) (Own.blk (n := 0) (c := 0) hb11 3 rfl (Nat.le_refl _) (by decide)) (Src.slice (hxl.rows.extNo hX) OneC.h) (by dsimp only [maxLen]; omega) (by dsimp only; omega) fun p22 c22 w22 ho22 hE22 hB22 => ⟨hC.trans hE22 (fun y hy hF => by have e : b11 = y := congrArg Addr.block (Option.some.inj hF); omega), ?_⟩)
          dsimp only at ho22 hE22 hB22 ⊢
          have hbo22 := Own.blk (n := 0) (c := 0) hbsR 3 rfl (Nat.le_refl _) (by decide)
          have hb1 := hb1.extOwn hbo22 hE22 (show (102 : Nat) ≠ 48 from by decide)
          have hb2 := hb2.extOwn hbo22 hE22 (show (102 : Nat) ≠ 48 from by decide)
          try have hL := hL.extOwn hbo22 hE22 (show (102 : Nat) ≠ 50 from by decide)
          try have hP := hP.extOwn hbo22 hE22 (show (102 : Nat) ≠ 31 from by decide)
          have hX := hX0.trans hE22 fun y hy hF => by have e : b11 = y := congrArg Addr.block (Option.some.inj hF); omega
          obtain ⟨qR, kR, e1, e2, hR⟩ : ∃ q k, q = p22 ∧ k = c22 ∧ Own w22 q x.rows.length k 102 3 (x.rows.flatMap ChgD.cells) := ⟨_, _, rfl, rfl, by have h := ho22; rw [Nat.zero_add] at h; exact h⟩
          have nR := newW hX0 (newB fr11) hB22
          rw [← e1] at nR
          rw [← e1, ← e2, Nat.zero_add]
          refine wd_sw ?_
          have hb1o := hb1
          refine wb rfl (st_st I_ok hb1 rfl rfl rfl fun w23 hb1 hE23 hs23 => ?_)
          have hb2 := hb2.ext1 hE23 ne1_2.symm
          have hL := hL.extTy hE23 hb1o (by decide)
          have hP := hP.extTy hE23 hb1o (by decide)
          have hR := hR.extTy hE23 hb1o (by decide)
          have hX := hX.thenNew hE23 fr1
          have hb1 : Blk w23 b1 48 (objC x ⟨qL, kL, a.pp, a.pc, a.rp, a.rc⟩) := hb1
          refine wb rfl (st_p I_ok rfl rfl rfl ?_)
          have hb1o := hb1
          refine wb rfl (st_set I_ok hb1 rfl rfl (by rw [objC_len hx]; decide) fun w24 hb1 hE24 hs24 => ?_)
          have hb2 := hb2.ext1 hE24 ne1_2.symm
          have hL := hL.extTy hE24 hb1o (by decide)
          have hP := hP.extTy hE24 hb1o (by decide)
          have hR := hR.extTy hE24 hb1o (by decide)
          have hX := hX.thenNew hE24 fr1
          have hb1 : Blk w24 b1 48 (objC x ⟨qL, kL, qP, kP, a.rp, a.rc⟩) := (by have h : Blk _ b1 _ ((objC x ⟨qL, kL, a.pp, a.pc, a.rp, a.rc⟩).set (68 + 0) (.slice qP x.parents.length kP)) := hb1; rw [objC_parents hx] at h; exact h)
          refine wb rfl (st_p I_ok rfl rfl rfl (wb rfl (st_p I_ok rfl rfl rfl ?_)))
          have hb1o := hb1
          refine wb rfl (st_set I_ok hb1 rfl rfl (by rw [objC_len hx]; decide) fun w25 hb1 hE25 hs25 => ?_)
          have hb2 := hb2.ext1 hE25 ne1_2.symm
          have hL := hL.extTy hE25 hb1o (by decide)
          have hP := hP.extTy hE25 hb1o (by decide)
          have hR := hR.extTy hE25 hb1o (by decide)
          have hX := hX.thenNew hE25 fr1
          have hb1 : Blk w25 b1 48 (objC x ⟨qL, kL, qP, kP, qR, kR⟩) := (by have h : Blk _ b1 _ ((objC x ⟨qL, kL, qP, kP, a.rp, a.rc⟩).set (68 + 1) (.slice qR x.rows.length kR)) := hb1; rw [objC_rows hx] at h; exact h)
          refine wb_nil ?_
          exact f_cut (⟨qL, kL, qP, kP, qR, kR⟩) rfl ⟨⟨hL, hP, hR, nL, nP, nR⟩, hb1, hb2, hX⟩
      · refine st_bs I_ok rfl 32 rfl idZ_c.symm (by rw [bytesU_len]; rfl) (by decide) (by decide) trivial (l' := []) rfl fun b7 w26 hn7 hb7 hE26 hs26 => ⟨hC.thenNo hE26, ?_⟩
        have fr7 := Nat.le_trans hX.size hn7
        have frhC7 := Nat.le_trans hC.size hn7
        have hb1 := hb1.extNo hE26
        have hb2 := hb2.extNo hE26
        have hb3 := hb3.extNo hE26
        have hX := hX.thenNo hE26
        have hC := hC.thenNo hE26
        refine wx_plan [] 5 rfl (by kernel_rfl) (wd_tail rfl (wx_alt [3, 8] rfl (by kernel_rfl) ⟨⟨_, rfl, ?_⟩, ⟨_, rfl, ?_⟩, trivial⟩))
        · have hX0 := hX
          have hbsL := hb3
          refine st_app I_ok rfl 33 48 rfl rfl rfl (by decide) (Own.blk (n := 0) (c := 0) hb3 33 rfl (Nat.le_refl _) (by decide)) (Src.slice (hxl.leaves.extNo hX) OneC.h) (by dsimp only [maxLen]; omega) (by dsimp only; omega) fun p27 c27 w27 ho27 hE27 hB27 => ⟨hC.trans hE27 (fun y hy hF => by have e : b3 = y := congrArg Addr.block (Option.some.inj hF); omega), ?_⟩
          have hC := hC.trans hE27 (fun y hy hF => by have e : b3 = y := congrArg Addr.block (Option.some.inj hF); omega)
          dsimp only at ho27 hE27 hB27 ⊢
          have hbo27 := Own.blk (n := 0) (c := 0) hbsL 33 rfl (Nat.le_refl _) (by decide)
          have hb1 := hb1.extOwn hbo27 hE27 (show (50 : Nat) ≠ 48 from by decide)
          have hb2 := hb2.extOwn hbo27 hE27 (show (50 : Nat) ≠ 48 from by decide)
          try have hP := hP.extOwn hbo27 hE27 (show (50 : Nat) ≠ 31 from by decide)
          try have hR := hR.extOwn hbo27 hE27 (show (50 : Nat) ≠ 102 from by decide)
          try have hb7 := hb7.extOwn hbo27 hE27 (show (50 : Nat) ≠ 31 from by decide)
          try have hb11 := hb11.extOwn hbo27 hE27 (show (50 : Nat) ≠ 102 from by decide)
          have hX := hX0.trans hE27 fun y hy hF => by have e : b3 = y := congrArg Addr.block (Option.some.inj hF); omega
          obtain ⟨qL, kL, e1, e2, hL⟩ : ∃ q k, q = p27 ∧ k = c27 ∧ Own w27 q x.leaves.length k 50 33 (x.leaves.flatMap LeafD.cells) := ⟨_, _, rfl, rfl, by have h := ho27; rw [Nat.zero_add] at h; exact h⟩
          have nL := newW hX0 (newB fr3) hB27
          rw [← e1] at nL
          rw [← e1, ← e2, Nat.zero_add]
          refine wx_plan [(13, true)] 3 rfl (by kernel_rfl) (wd_k I_ok 1 rfl (wd_tail rfl (wx_alt [7, 8] rfl (by kernel_rfl) ⟨⟨_, rfl, ?_⟩, ⟨_, rfl, ?_⟩, trivial⟩)))
          · have hX0 := hX
            have hbsP := hb7
            refine st_app I_ok rfl 32 32 rfl rfl rfl (by decide) (Own.blk (n := 0) (c := 0) hb7 32 rfl (Nat.le_refl _) (by decide)) (Src.slice (hxl.parents.extNo hX) OneC.h) (by dsimp only [maxLen]; omega) (by dsimp only; omega) fun p28 c28 w28 ho28 hE28 hB28 => ⟨hC.trans hE28 (fun y hy hF => by have e : b7 = y := congrArg Addr.block (Option.some.inj hF); omega), ?_⟩
            have hC := hC.trans hE28 (fun y hy hF => by have e : b7 = y := congrArg Addr.block (Option.some.inj hF); omega)
            dsimp only at ho28 hE28 hB28 ⊢
            have hbo28 := Own.blk (n := 0) (c := 0) hbsP 32 rfl (Nat.le_refl _) (by decide)
            have hb1 := hb1.extOwn hbo28 hE28 (show (31 : Nat) ≠ 48 from by decide)
            have hb2 := hb2.extOwn hbo28 hE28 (show (31 : Nat) ≠ 48 from by decide)
            try have hL := hL.extOwn hbo28 hE28 (show (31 : Nat) ≠ 50 from by decide)
            try have hR := hR.extOwn hbo28 hE28 (show (31 : Nat) ≠ 102 from by decide)
            try have hb11 := hb11.extOwn hbo28 hE28 (show (31 : Nat) ≠ 102 from by decide)
            have hX := hX0.trans hE28 fun y hy hF => by have e : b7 = y := congrArg Addr.block (Option.some.inj hF); omega
            obtain ⟨qP, kP, e1, e2, hP⟩ : ∃ q k, q = p28 ∧ k = c28 ∧ Own w28 q x.parents.length k 31 32 (x.parents.flatMap bytesU) := ⟨_, _, rfl, rfl, by have h := ho28; rw [Nat.zero_add] at h; exact h⟩
            have nP := newW hX0 (newB fr7) hB28
            rw [← e1] at nP
            rw [← e1, ← e2, Nat.zero_add]
            refine wx_plan [(8, false), (12, false)] 0 rfl (by kernel_rfl) (wd_l rfl (st_bs I_ok rfl 3 rfl chgZ_c rfl (by decide) (by decide) trivial (l' := []) rfl fun b11 w29 hn11 hb11 hE29 hs29 => ⟨hC.thenNo hE29, ?_⟩))
            have fr11 := Nat.le_trans hX.size hn11
            have frhC11 := Nat.le_trans hC.size hn11
            have hb1 := hb1.extNo hE29
            have hb2 := hb2.extNo hE29
            have hL := hL.ext hE29 fun _ _ => id
            have hP := hP.ext hE29 fun _ _ => id
            have hX := hX.thenNo hE29
            have hC := hC.thenNo hE29
            have hX0 := hX
            have hbsR := hb11
            refine wd_l rfl (st_app I_ok rfl 3 40 rfl rfl rfl (by decide) (Own.blk (n := 0) (c := 0) hb11 3 rfl (Nat.le_refl _) (by decide)) (Src.slice (hxl.rows.extNo hX) OneC.h) (by dsimp only [maxLen]; omega) (by dsimp only; omega) fun p30 c30 w30 ho30 hE30 hB30 => ⟨hC.trans hE30 (fun y hy hF => by have e : b11 = y := congrArg Addr.block (Option.some.inj hF); omega), ?_⟩)
            dsimp only at ho30 hE30 hB30 ⊢
            have hbo30 := Own.blk (n := 0) (c := 0) hbsR 3 rfl (Nat.le_refl _) (by decide)
            have hb1 := hb1.extOwn hbo30 hE30 (show (102 : Nat) ≠ 48 from by decide)
            have hb2 := hb2.extOwn hbo30 hE30 (show (102 : Nat) ≠ 48 from by decide)
            try have hL := hL.extOwn hbo30 hE30 (show (102 : Nat) ≠ 50 from by decide)
            try have hP := hP.extOwn hbo30 hE30 (show (102 : Nat) ≠ 31 from by decide)
            have hX := hX0.trans hE30 fun y hy hF => by have e : b11 = y := congrArg Addr.block (Option.some.inj hF); omega
            obtain ⟨qR, kR, e1, e2, hR⟩ : ∃ q k, q = p30 ∧ k = c30 ∧ Own w30 q x.rows.length k 102 3 (x.rows.flatMap ChgD.cells) := ⟨_, _, rfl, rfl, by have h := ho30; rw [Nat.zero_add] at h; exact h⟩
            have nR := newW hX0 (newB fr11) hB30
            rw [← e1] at nR
            rw [← e1, ← e2, Nat.zero_add]
            refine wd_sw ?_
            have hb1o := hb1
            refine wb rfl (st_st I_ok hb1 rfl rfl rfl fun w31 hb1 hE31 hs31 => ?_)
            have hb2 := hb2.ext1 hE31 ne1_2.symm
            have hL := hL.extTy hE31 hb1o (by decide)
            have hP := hP.extTy hE31 hb1o (by decide)
            have hR := hR.extTy hE31 hb1o (by decide)
            have hX := hX.thenNew hE31 fr1
            have hb1 : Blk w31 b1 48 (objC x ⟨qL, kL, a.pp, a.pc, a.rp, a.rc⟩) := hb1
            refine wb rfl (st_p I_ok rfl rfl rfl ?_)
            have hb1o := hb1
            refine wb rfl (st_set I_ok hb1 rfl rfl (by rw [objC_len hx]; decide) fun w32 hb1 hE32 hs32 => ?_)
            have hb2 := hb2.ext1 hE32 ne1_2.symm
            have hL := hL.extTy hE32 hb1o (by decide)
            have hP := hP.extTy hE32 hb1o (by decide)
            have hR := hR.extTy hE32 hb1o (by decide)
            have hX := hX.thenNew hE32 fr1
            have hb1 : Blk w32 b1 48 (objC x ⟨qL, kL, qP, kP, a.rp, a.rc⟩) := (by have h : Blk _ b1 _ ((objC x ⟨qL, kL, a.pp, a.pc, a.rp, a.rc⟩).set (68 + 0) (.slice qP x.parents.length kP)) := hb1; rw [objC_parents hx] at h; exact h)
            refine wb rfl (st_p I_ok rfl rfl rfl (wb rfl (st_p I_ok rfl rfl rfl ?_)))
            have hb1o := hb1
            refine wb rfl (st_set I_ok hb1 rfl rfl (by rw [objC_len hx]; decide) fun w33 hb1 hE33 hs33 => ?_)
            have hb2 := hb2.ext1 hE33 ne1_2.symm
            have hL := hL.extTy hE33 hb1o (by decide)
            have hP := hP.extTy hE33 hb1o (by decide)
            have hR := hR.extTy hE33 hb1o (by decide)
            have hX := hX.thenNew hE33 fr1
            have hb1 : Blk w33 b1 48 (objC x ⟨qL, kL, qP, kP, qR, kR⟩) := (by have h : Blk _ b1 _ ((objC x ⟨qL, kL, qP, kP, a.rp, a.rc⟩).set (68 + 1) (.slice qR x.rows.length kR)) := hb1; rw [objC_rows hx] at h; exact h)
            refine wb_nil ?_
            exact f_cut (⟨qL, kL, qP, kP, qR, kR⟩) rfl ⟨⟨hL, hP, hR, nL, nP, nR⟩, hb1, hb2, hX⟩
          · refine st_bs I_ok rfl 3 rfl chgZ_c rfl (by decide) (by decide) trivial (l' := []) rfl fun b11 w34 hn11 hb11 hE34 hs34 => ⟨hC.thenNo hE34, ?_⟩
            have fr11 := Nat.le_trans hX.size hn11
            have frhC11 := Nat.le_trans hC.size hn11
            have hb1 := hb1.extNo hE34
            have hb2 := hb2.extNo hE34
            have hb7 := hb7.extNo hE34
            have hL := hL.ext hE34 fun _ _ => id
            have hX := hX.thenNo hE34
            have hC := hC.thenNo hE34
            refine wx_plan [(7, false), (12, false)] 0 rfl (by kernel_rfl) ?_
            have hX0 := hX
            have hbsP := hb7
            refine wd_l rfl (st_app I_ok rfl 32 32 rfl rfl rfl (by decide) (Own.blk (n := 0) (c := 0) hb7 32 rfl (Nat.le_refl _) (by decide)) (Src.slice (hxl.parents.extNo hX) OneC.h) (by dsimp only [maxLen]; omega) (by dsimp only; omega) fun p35 c35 w35 ho35 hE35 hB35 => ⟨hC.trans hE35 (fun y hy hF => by have e : b7 = y := congrArg Addr.block (Option.some.inj hF); omega), ?_⟩)
            have hC := hC.trans hE35 (fun y hy hF => by have e : b7 = y := congrArg Addr.block (Option.some.inj hF); omega)
            dsimp only at ho35 hE35 hB35 ⊢
            have hbo35 := Own.blk (n := 0) (c := 0) hbsP 32 rfl (Nat.le_refl _) (by decide)
            have hb1 := hb1.extOwn hbo35 hE35 (show (31 : Nat) ≠ 48 from by decide)
            have hb2 := hb2.extOwn hbo35 hE35 (show (31 : Nat) ≠ 48 from by decide)
            try have hL := hL.extOwn hbo35 hE35 (show (31 : Nat) ≠ 50 from by decide)
            try have hR := hR.extOwn hbo35 hE35 (show (31 : Nat) ≠ 102 from by decide)
            try have hb11 := hb11.extOwn hbo35 hE35 (show (31 : Nat) ≠ 102 from by decide)
            have hX := hX0.trans hE35 fun y hy hF => by have e : b7 = y := congrArg Addr.block (Option.some.inj hF); omega
            obtain ⟨qP, kP, e1, e2, hP⟩ : ∃ q k, q = p35 ∧ k = c35 ∧ Own w35 q x.parents.length k 31 32 (x.parents.flatMap bytesU) := ⟨_, _, rfl, rfl, by have h := ho35; rw [Nat.zero_add] at h; exact h⟩
            have nP := newW hX0 (newB fr7) hB35
            rw [← e1] at nP
            rw [← e1, ← e2, Nat.zero_add]
            have hX0 := hX
            have hbsR := hb11
            refine wd_l rfl (st_app I_ok rfl 3 40 rfl rfl rfl (by decide) (Own.blk (n := 0) (c := 0) hb11 3 rfl (Nat.le_refl _) (by decide)) (Src.slice (hxl.rows.extNo hX) OneC.h) (by dsimp only [maxLen]; omega) (by dsimp only; omega) fun p36 c36 w36 ho36 hE36 hB36 => ⟨hC.trans hE36 (fun y hy hF => by have e : b11 = y := congrArg Addr.block (Option.some.inj hF); omega), ?_⟩)
            dsimp only at ho36 hE36 hB36 ⊢
            have hbo36 := Own.blk (n := 0) (c := 0) hbsR 3 rfl (Nat.le_refl _) (by decide)
            have hb1 := hb1.extOwn hbo36 hE36 (show (102 : Nat) ≠ 48 from by decide)
            have hb2 := hb2.extOwn hbo36 hE36 (show (102 : Nat) ≠ 48 from by decide)
            try have hL := hL.extOwn hbo36 hE36 (show (102 : Nat) ≠ 50 from by decide)
            try have hP := hP.extOwn hbo36 hE36 (show (102 : Nat) ≠ 31 from by decide)
            have hX := hX0.trans hE36 fun y hy hF => by have e : b11 = y := congrArg Addr.block (Option.some.inj hF); omega
            obtain ⟨qR, kR, e1, e2, hR⟩ : ∃ q k, q = p36 ∧ k = c36 ∧ Own w36 q x.rows.length k 102 3 (x.rows.flatMap ChgD.cells) := ⟨_, _, rfl, rfl, by have h := ho36; rw [Nat.zero_add] at h; exact h⟩
            have nR := newW hX0 (newB fr11) hB36
            rw [← e1] at nR
            rw [← e1, ← e2, Nat.zero_add]
            refine wd_sw ?_
            have hb1o := hb1
            refine wb rfl (st_st I_ok hb1 rfl rfl rfl fun w37 hb1 hE37 hs37 => ?_)
            have hb2 := hb2.ext1 hE37 ne1_2.symm
            have hL := hL.extTy hE37 hb1o (by decide)
            have hP := hP.extTy hE37 hb1o (by decide)
            have hR := hR.extTy hE37 hb1o (by decide)
            have hX := hX.thenNew hE37 fr1
            have hb1 : Blk w37 b1 48 (objC x ⟨qL, kL, a.pp, a.pc, a.rp, a.rc⟩) := hb1
            refine wb rfl (st_p I_ok rfl rfl rfl ?_)
            have hb1o := hb1
            refine wb rfl (st_set I_ok hb1 rfl rfl (by rw [objC_len hx]; decide) fun w38 hb1 hE38 hs38 => ?_)
            have hb2 := hb2.ext1 hE38 ne1_2.symm
            have hL := hL.extTy hE38 hb1o (by decide)
            have hP := hP.extTy hE38 hb1o (by decide)
            have hR := hR.extTy hE38 hb1o (by decide)
            have hX := hX.thenNew hE38 fr1
            have hb1 : Blk w38 b1 48 (objC x ⟨qL, kL, qP, kP, a.rp, a.rc⟩) := (by have h : Blk _ b1 _ ((objC x ⟨qL, kL, a.pp, a.pc, a.rp, a.rc⟩).set (68 + 0) (.slice qP x.parents.length kP)) := hb1; rw [objC_parents hx] at h; exact h)
            refine wb rfl (st_p I_ok rfl rfl rfl (wb rfl (st_p I_ok rfl rfl rfl ?_)))
            have hb1o := hb1
            refine wb rfl (st_set I_ok hb1 rfl rfl (by rw [objC_len hx]; decide) fun w39 hb1 hE39 hs39 => ?_)
            have hb2 := hb2.ext1 hE39 ne1_2.symm
            have hL := hL.extTy hE39 hb1o (by decide)
            have hP := hP.extTy hE39 hb1o (by decide)
            have hR := hR.extTy hE39 hb1o (by decide)
            have hX := hX.thenNew hE39 fr1
            have hb1 : Blk w39 b1 48 (objC x ⟨qL, kL, qP, kP, qR, kR⟩) := (by have h : Blk _ b1 _ ((objC x ⟨qL, kL, qP, kP, a.rp, a.rc⟩).set (68 + 1) (.slice qR x.rows.length kR)) := hb1; rw [objC_rows hx] at h; exact h)
            refine wb_nil ?_
            exact f_cut (⟨qL, kL, qP, kP, qR, kR⟩) rfl ⟨⟨hL, hP, hR, nL, nP, nR⟩, hb1, hb2, hX⟩
        · refine st_bs I_ok rfl 3 rfl chgZ_c rfl (by decide) (by decide) trivial (l' := []) rfl fun b11 w40 hn11 hb11 hE40 hs40 => ⟨hC.thenNo hE40, ?_⟩
          have fr11 := Nat.le_trans hX.size hn11
          have frhC11 := Nat.le_trans hC.size hn11
          have hb1 := hb1.extNo hE40
          have hb2 := hb2.extNo hE40
          have hb3 := hb3.extNo hE40
          have hb7 := hb7.extNo hE40
          have hX := hX.thenNo hE40
          have hC := hC.thenNo hE40
          refine wx_plan [(3, false), (13, true), (7, false), (12, false)] 0 rfl (by kernel_rfl) ?_
          have hX0 := hX
          have hbsL := hb3
          refine wd_l rfl (st_app I_ok rfl 33 48 rfl rfl rfl (by decide) (Own.blk (n := 0) (c := 0) hb3 33 rfl (Nat.le_refl _) (by decide)) (Src.slice (hxl.leaves.extNo hX) OneC.h) (by dsimp only [maxLen]; omega) (by dsimp only; omega) fun p41 c41 w41 ho41 hE41 hB41 => ⟨hC.trans hE41 (fun y hy hF => by have e : b3 = y := congrArg Addr.block (Option.some.inj hF); omega), ?_⟩)
          have hC := hC.trans hE41 (fun y hy hF => by have e : b3 = y := congrArg Addr.block (Option.some.inj hF); omega)
          dsimp only at ho41 hE41 hB41 ⊢
          have hbo41 := Own.blk (n := 0) (c := 0) hbsL 33 rfl (Nat.le_refl _) (by decide)
          have hb1 := hb1.extOwn hbo41 hE41 (show (50 : Nat) ≠ 48 from by decide)
          have hb2 := hb2.extOwn hbo41 hE41 (show (50 : Nat) ≠ 48 from by decide)
          try have hP := hP.extOwn hbo41 hE41 (show (50 : Nat) ≠ 31 from by decide)
          try have hR := hR.extOwn hbo41 hE41 (show (50 : Nat) ≠ 102 from by decide)
          try have hb7 := hb7.extOwn hbo41 hE41 (show (50 : Nat) ≠ 31 from by decide)
          try have hb11 := hb11.extOwn hbo41 hE41 (show (50 : Nat) ≠ 102 from by decide)
          have hX := hX0.trans hE41 fun y hy hF => by have e : b3 = y := congrArg Addr.block (Option.some.inj hF); omega
          obtain ⟨qL, kL, e1, e2, hL⟩ : ∃ q k, q = p41 ∧ k = c41 ∧ Own w41 q x.leaves.length k 50 33 (x.leaves.flatMap LeafD.cells) := ⟨_, _, rfl, rfl, by have h := ho41; rw [Nat.zero_add] at h; exact h⟩
          have nL := newW hX0 (newB fr3) hB41
          rw [← e1] at nL
          rw [← e1, ← e2, Nat.zero_add]
          refine wd_k I_ok 1 rfl ?_
          have hX0 := hX
          have hbsP := hb7
          refine wd_l rfl (st_app I_ok rfl 32 32 rfl rfl rfl (by decide) (Own.blk (n := 0) (c := 0) hb7 32 rfl (Nat.le_refl _) (by decide)) (Src.slice (hxl.parents.extNo hX) OneC.h) (by dsimp only [maxLen]; omega) (by dsimp only; omega) fun p42 c42 w42 ho42 hE42 hB42 => ⟨hC.trans hE42 (fun y hy hF => by have e : b7 = y := congrArg Addr.block (Option.some.inj hF); omega), ?_⟩)
          have hC := hC.trans hE42 (fun y hy hF => by have e : b7 = y := congrArg Addr.block (Option.some.inj hF); omega)
          dsimp only at ho42 hE42 hB42 ⊢
          have hbo42 := Own.blk (n := 0) (c := 0) hbsP 32 rfl (Nat.le_refl _) (by decide)
          have hb1 := hb1.extOwn hbo42 hE42 (show (31 : Nat) ≠ 48 from by decide)
          have hb2 := hb2.extOwn hbo42 hE42 (show (31 : Nat) ≠ 48 from by decide)
          try have hL := hL.extOwn hbo42 hE42 (show (31 : Nat) ≠ 50 from by decide)
          try have hR := hR.extOwn hbo42 hE42 (show (31 : Nat) ≠ 102 from by decide)
          try have hb11 := hb11.extOwn hbo42 hE42 (show (31 : Nat) ≠ 102 from by decide)
          have hX := hX0.trans hE42 fun y hy hF => by have e : b7 = y := congrArg Addr.block (Option.some.inj hF); omega
          obtain ⟨qP, kP, e1, e2, hP⟩ : ∃ q k, q = p42 ∧ k = c42 ∧ Own w42 q x.parents.length k 31 32 (x.parents.flatMap bytesU) := ⟨_, _, rfl, rfl, by have h := ho42; rw [Nat.zero_add] at h; exact h⟩
          have nP := newW hX0 (newB fr7) hB42
          rw [← e1] at nP
          rw [← e1, ← e2, Nat.zero_add]
          have hX0 := hX
          have hbsR := hb11
          refine wd_l rfl (st_app I_ok rfl 3 40 rfl rfl rfl (by decide) (Own.blk (n := 0) (c := 0) hb11 3 rfl (Nat.le_refl _) (by decide)) (Src.slice (hxl.rows.extNo hX) OneC.h) (by dsimp only [maxLen]; omega) (by dsimp only; omega) fun p43 c43 w43 ho43 hE43 hB43 => ⟨hC.trans hE43 (fun y hy hF => by have e : b11 = y := congrArg Addr.block (Option.some.inj hF); omega), ?_⟩)
          dsimp only at ho43 hE43 hB43 ⊢
          have hbo43 := Own.blk (n := 0) (c := 0) hbsR 3 rfl (Nat.le_refl _) (by decide)
          have hb1 := hb1.extOwn hbo43 hE43 (show (102 : Nat) ≠ 48 from by decide)
          have hb2 := hb2.extOwn hbo43 hE43 (show (102 : Nat) ≠ 48 from by decide)
          try have hL := hL.extOwn hbo43 hE43 (show (102 : Nat) ≠ 50 from by decide)
          try have hP := hP.extOwn hbo43 hE43 (show (102 : Nat) ≠ 31 from by decide)
          have hX := hX0.trans hE43 fun y hy hF => by have e : b11 = y := congrArg Addr.block (Option.some.inj hF); omega
          obtain ⟨qR, kR, e1, e2, hR⟩ : ∃ q k, q = p43 ∧ k = c43 ∧ Own w43 q x.rows.length k 102 3 (x.rows.flatMap ChgD.cells) := ⟨_, _, rfl, rfl, by have h := ho43; rw [Nat.zero_add] at h; exact h⟩
          have nR := newW hX0 (newB fr11) hB43
          rw [← e1] at nR
          rw [← e1, ← e2, Nat.zero_add]
          refine wd_sw ?_
          have hb1o := hb1
          refine wb rfl (st_st I_ok hb1 rfl rfl rfl fun w44 hb1 hE44 hs44 => ?_)
          have hb2 := hb2.ext1 hE44 ne1_2.symm
          have hL := hL.extTy hE44 hb1o (by decide)
          have hP := hP.extTy hE44 hb1o (by decide)
          have hR := hR.extTy hE44 hb1o (by decide)
          have hX := hX.thenNew hE44 fr1
          have hb1 : Blk w44 b1 48 (objC x ⟨qL, kL, a.pp, a.pc, a.rp, a.rc⟩) := hb1
          refine wb rfl (st_p I_ok rfl rfl rfl ?_)
          have hb1o := hb1
          refine wb rfl (st_set I_ok hb1 rfl rfl (by rw [objC_len hx]; decide) fun w45 hb1 hE45 hs45 => ?_)
          have hb2 := hb2.ext1 hE45 ne1_2.symm
          have hL := hL.extTy hE45 hb1o (by decide)
          have hP := hP.extTy hE45 hb1o (by decide)
          have hR := hR.extTy hE45 hb1o (by decide)
          have hX := hX.thenNew hE45 fr1
          have hb1 : Blk w45 b1 48 (objC x ⟨qL, kL, qP, kP, a.rp, a.rc⟩) := (by have h : Blk _ b1 _ ((objC x ⟨qL, kL, a.pp, a.pc, a.rp, a.rc⟩).set (68 + 0) (.slice qP x.parents.length kP)) := hb1; rw [objC_parents hx] at h; exact h)
          refine wb rfl (st_p I_ok rfl rfl rfl (wb rfl (st_p I_ok rfl rfl rfl ?_)))
          have hb1o := hb1
          refine wb rfl (st_set I_ok hb1 rfl rfl (by rw [objC_len hx]; decide) fun w46 hb1 hE46 hs46 => ?_)
          have hb2 := hb2.ext1 hE46 ne1_2.symm
          have hL := hL.extTy hE46 hb1o (by decide)
          have hP := hP.extTy hE46 hb1o (by decide)
          have hR := hR.extTy hE46 hb1o (by decide)
          have hX := hX.thenNew hE46 fr1
          have hb1 : Blk w46 b1 48 (objC x ⟨qL, kL, qP, kP, qR, kR⟩) := (by have h : Blk _ b1 _ ((objC x ⟨qL, kL, qP, kP, a.rp, a.rc⟩).set (68 + 1) (.slice qR x.rows.length kR)) := hb1; rw [objC_rows hx] at h; exact h)
          refine wb_nil ?_
          exact f_cut (⟨qL, kL, qP, kP, qR, kR⟩) rfl ⟨⟨hL, hP, hR, nL, nP, nR⟩, hb1, hb2, hX⟩
      · refine st_bs I_ok rfl 3 rfl chgZ_c rfl (by decide) (by decide) trivial (l' := []) rfl fun b11 w47 hn11 hb11 hE47 hs47 => ⟨hC.thenNo hE47, ?_⟩
        have fr11 := Nat.le_trans hX.size hn11
        have frhC11 := Nat.le_trans hC.size hn11
        have hb1 := hb1.extNo hE47
        have hb2 := hb2.extNo hE47
        have hb3 := hb3.extNo hE47
        have hX := hX.thenNo hE47
        have hC := hC.thenNo hE47
        refine wx_plan [] 5 rfl (by kernel_rfl) (wd_tail rfl (wx_alt [3, 4] rfl (by kernel_rfl) ⟨⟨_, rfl, ?_⟩, ⟨_, rfl, ?_⟩, trivial⟩))
        · have hX0 := hX
          have hbsL := hb3
          refine st_app I_ok rfl 33 48 rfl rfl rfl (by decide) (Own.blk (n := 0) (c := 0) hb3 33 rfl (Nat.le_refl _) (by decide)) (Src.slice (hxl.leaves.extNo hX) OneC.h) (by dsimp only [maxLen]; omega) (by dsimp only; omega) fun p48 c48 w48 ho48 hE48 hB48 => ⟨hC.trans hE48 (fun y hy hF => by have e : b3 = y := congrArg Addr.block (Option.some.inj hF); omega), ?_⟩
          have hC := hC.trans hE48 (fun y hy hF => by have e : b3 = y := congrArg Addr.block (Option.some.inj hF); omega)
          dsimp only at ho48 hE48 hB48 ⊢
          have hbo48 := Own.blk (n := 0) (c := 0) hbsL 33 rfl (Nat.le_refl _) (by decide)
          have hb1 := hb1.extOwn hbo48 hE48 (show (50 : Nat) ≠ 48 from by decide)
          have hb2 := hb2.extOwn hbo48 hE48 (show (50 : Nat) ≠ 48 from by decide)
          try have hP := hP.extOwn hbo48 hE48 (show (50 : Nat) ≠ 31 from by decide)
          try have hR := hR.extOwn hbo48 hE48 (show (50 : Nat) ≠ 102 from by decide)
          try have hb7 := hb7.extOwn hbo48 hE48 (show (50 : Nat) ≠ 31 from by decide)
          try have hb11 := hb11.extOwn hbo48 hE48 (show (50 : Nat) ≠ 102 from by decide)
          have hX := hX0.trans hE48 fun y hy hF => by have e : b3 = y := congrArg Addr.block (Option.some.inj hF); omega
          obtain ⟨qL, kL, e1, e2, hL⟩ : ∃ q k, q = p48 ∧ k = c48 ∧ Own w48 q x.leaves.length k 50 33 (x.leaves.flatMap LeafD.cells) := ⟨_, _, rfl, rfl, by have h := ho48; rw [Nat.zero_add] at h; exact h⟩
          have nL := newW hX0 (newB fr3) hB48
          rw [← e1] at nL
          rw [← e1, ← e2, Nat.zero_add]
          refine wx_plan [(13, true), (4, false), (7, false), (12, false)] 0 rfl (by kernel_rfl) (wd_k I_ok 1 rfl ?_)
          refine wd_l rfl (st_bs I_ok rfl 32 rfl idZ_c.symm (by rw [bytesU_len]; rfl) (by decide) (by decide) trivial (l' := []) rfl fun b7 w49 hn7 hb7 hE49 hs49 => ⟨hC.thenNo hE49, ?_⟩)
          have fr7 := Nat.le_trans hX.size hn7
          have frhC7 := Nat.le_trans hC.size hn7
          have hb1 := hb1.extNo hE49
          have hb2 := hb2.extNo hE49
          have hb11 := hb11.extNo hE49
          have hL := hL.ext hE49 fun _ _ => id
          have hX := hX.thenNo hE49
          have hC := hC.thenNo hE49
          have hX0 := hX
          have hbsP := hb7
          refine wd_l rfl (st_app I_ok rfl 32 32 rfl rfl rfl (by decide) (Own.blk (n := 0) (c := 0) hb7 32 rfl (Nat.le_refl _) (by decide)) (Src.slice (hxl.parents.extNo hX) OneC.h) (by dsimp only [maxLen]; omega) (by dsimp only; omega) fun p50 c50 w50 ho50 hE50 hB50 => ⟨hC.trans hE50 (fun y hy hF => by have e : b7 = y := congrArg Addr.block (Option.some.inj hF); omega), ?_⟩)
          have hC := hC.trans hE50 (fun y hy hF => by have e : b7 = y := congrArg Addr.block (Option.some.inj hF); omega)
          dsimp only at ho50 hE50 hB50 ⊢
          have hbo50 := Own.blk (n := 0) (c := 0) hbsP 32 rfl (Nat.le_refl _) (by decide)
          have hb1 := hb1.extOwn hbo50 hE50 (show (31 : Nat) ≠ 48 from by decide)
          have hb2 := hb2.extOwn hbo50 hE50 (show (31 : Nat) ≠ 48 from by decide)
          try have hL := hL.extOwn hbo50 hE50 (show (31 : Nat) ≠ 50 from by decide)
          try have hR := hR.extOwn hbo50 hE50 (show (31 : Nat) ≠ 102 from by decide)
          try have hb11 := hb11.extOwn hbo50 hE50 (show (31 : Nat) ≠ 102 from by decide)
          have hX := hX0.trans hE50 fun y hy hF => by have e : b7 = y := congrArg Addr.block (Option.some.inj hF); omega
          obtain ⟨qP, kP, e1, e2, hP⟩ : ∃ q k, q = p50 ∧ k = c50 ∧ Own w50 q x.parents.length k 31 32 (x.parents.flatMap bytesU) := ⟨_, _, rfl, rfl, by have h := ho50; rw [Nat.zero_add] at h; exact h⟩
          have nP := newW hX0 (newB fr7) hB50
          rw [← e1] at nP
          rw [← e1, ← e2, Nat.zero_add]
          have hX0 := hX
          have hbsR := hb11
          refine wd_l rfl (st_app I_ok rfl 3 40 rfl rfl rfl (by decide) (Own.blk (n := 0) (c := 0) hb11 3 rfl (Nat.le_refl _) (by decide)) (Src.slice (hxl.rows.extNo hX) OneC.h) (by dsimp only [maxLen]; omega) (by dsimp only; omega) fun p51 c51 w51 ho51 hE51 hB51 => ⟨hC.trans hE51 (fun y hy hF => by have e : b11 = y := congrArg Addr.block (Option.some.inj hF); omega), ?_⟩)
          dsimp only at ho51 hE51 hB51 ⊢
          have hbo51 := Own.blk (n := 0) (c := 0) hbsR 3 rfl (Nat.le_refl _) (by decide)
          have hb1 := hb1.extOwn hbo51 hE51 (show (102 : Nat) ≠ 48 from by decide)
          have hb2 := hb2.extOwn hbo51 hE51 (show (102 : Nat) ≠ 48 from by decide)
          try have hL := hL.extOwn hbo51 hE51 (show (102 : Nat) ≠ 50 from by decide)
          try have hP := hP.extOwn hbo51 hE51 (show (102 : Nat) ≠ 31 from by decide)
          have hX := hX0.trans hE51 fun y hy hF => by have e : b11 = y := congrArg Addr.block (Option.some.inj hF); omega
          obtain ⟨qR, kR, e1, e2, hR⟩ : ∃ q k, q = p51 ∧ k = c51 ∧ Own w51 q x.rows.length k 102 3 (x.rows.flatMap ChgD.cells) := ⟨_, _, rfl, rfl, by have h := ho51; rw [Nat.zero_add] at h; exact h⟩
          have nR := newW hX0 (newB fr11) hB51
          rw [← e1] at nR
          rw [← e1, ← e2, Nat.zero_add]
          refine wd_sw ?_
          have hb1o := hb1
          refine wb rfl (st_st I_ok hb1 rfl rfl rfl fun w52 hb1 hE52 hs52 => ?_)
          have hb2 := hb2.ext1 hE52 ne1_2.symm
          have hL := hL.extTy hE52 hb1o (by decide)
          have hP := hP.extTy hE52 hb1o (by decide)
          have hR := hR.extTy hE52 hb1o (by decide)
          have hX := hX.thenNew hE52 fr1
          have hb1 : Blk w52 b1 48 (objC x ⟨qL, kL, a.pp, a.pc, a.rp, a.rc⟩) := hb1
          refine wb rfl (st_p I_ok rfl rfl rfl ?_)
          have hb1o := hb1
          refine wb rfl (st_set I_ok hb1 rfl rfl (by rw [objC_len hx]; decide) fun w53 hb1 hE53 hs53 => ?_)
          have hb2 := hb2.ext1 hE53 ne1_2.symm
          have hL := hL.extTy hE53 hb1o (by decide)
          have hP := hP.extTy hE53 hb1o (by decide)
          have hR := hR.extTy hE53 hb1o (by decide)
          have hX := hX.thenNew hE53 fr1
          have hb1 : Blk w53 b1 48 (objC x ⟨qL, kL, qP, kP, a.rp, a.rc⟩) := (by have h : Blk _ b1 _ ((objC x ⟨qL, kL, a.pp, a.pc, a.rp, a.rc⟩).set (68 + 0) (.slice qP x.parents.length kP)) := hb1; rw [objC_parents hx] at h; exact h)
          refine wb rfl (st_p I_ok rfl rfl rfl (wb rfl (st_p I_ok rfl rfl rfl ?_)))
          have hb1o := hb1
          refine wb rfl (st_set I_ok hb1 rfl rfl (by rw [objC_len hx]; decide) fun w54 hb1 hE54 hs54 => ?_)
          have hb2 := hb2.ext1 hE54 ne1_2.symm
          have hL := hL.extTy hE54 hb1o (by decide)
          have hP := hP.extTy hE54 hb1o (by decide)
          have hR := hR.extTy hE54 hb1o (by decide)
          have hX := hX.thenNew hE54 fr1
          have hb1 : Blk w54 b1 48 (objC x ⟨qL, kL, qP, kP, qR, kR⟩) := (by have h : Blk _ b1 _ ((objC x ⟨qL, kL, qP, kP, a.rp, a.rc⟩).set (68 + 1) (.slice qR x.rows.length kR)) := hb1; rw [objC_rows hx] at h; exact h)
          refine wb_nil ?_
          exact f_cut (⟨qL, kL, qP, kP, qR, kR⟩) rfl ⟨⟨hL, hP, hR, nL, nP, nR⟩, hb1, hb2, hX⟩
        · refine st_bs I_ok rfl 32 rfl idZ_c.symm (by rw [bytesU_len]; rfl) (by decide) (by decide) trivial (l' := []) rfl fun b7 w55 hn7 hb7 hE55 hs55 => ⟨hC.thenNo hE55, ?_⟩
          have fr7 := Nat.le_trans hX.size hn7
          have frhC7 := Nat.le_trans hC.size hn7
          have hb1 := hb1.extNo hE55
          have hb2 := hb2.extNo hE55
          have hb3 := hb3.extNo hE55
          have hb11 := hb11.extNo hE55
          have hX := hX.thenNo hE55
          have hC := hC.thenNo hE55
          refine wx_plan [(3, false), (13, true), (7, false), (12, false)] 0 rfl (by kernel_rfl) ?_
          have hX0 := hX
          have hbsL := hb3
          refine wd_l rfl (st_app I_ok rfl 33 48 rfl rfl rfl (by decide) (Own.blk (n := 0) (c := 0) hb3 33 rfl (Nat.le_refl _) (by decide)) (Src.slice (hxl.leaves.extNo hX) OneC.h) (by dsimp only [maxLen]; omega) (by dsimp only; omega) fun p56 c56 w56 ho56 hE56 hB56 => ⟨hC.trans hE56 (fun y hy hF => by have e : b3 = y := congrArg Addr.block (Option.some.inj hF); omega), ?_⟩)
          have hC := hC.trans hE56 (fun y hy hF => by have e : b3 = y := congrArg Addr.block (Option.some.inj hF); omega)
          dsimp only at ho56 hE56 hB56 ⊢
          have hbo56 := Own.blk (n := 0) (c := 0) hbsL 33 rfl (Nat.le_refl _) (by decide)
          have hb1 := hb1.extOwn hbo56 hE56 (show (50 : Nat) ≠ 48 from by decide)
          have hb2 := hb2.extOwn hbo56 hE56 (show (50 : Nat) ≠ 48 from by decide)
          try have hP := hP.extOwn hbo56 hE56 (show (50 : Nat) ≠ 31 from by decide)
          try have hR := hR.extOwn hbo56 hE56 (show (50 : Nat) ≠ 102 from by decide)
          try have hb7 := hb7.extOwn hbo56 hE56 (show (50 : Nat) ≠ 31 from by decide)
          try have hb11 := hb11.extOwn hbo56 hE56 (show (50 : Nat) ≠ 102 from by decide)
          have hX := hX0.trans hE56 fun y hy hF => by have e : b3 = y := congrArg Addr.block (Option.some.inj hF); omega
          obtain ⟨qL, kL, e1, e2, hL⟩ : ∃ q k, q = p56 ∧ k = c56 ∧ Own w56 q x.leaves.length k 50 33 (x.leaves.flatMap LeafD.cells) := ⟨_, _, rfl, rfl, by have h := ho56; rw [Nat.zero_add] at h; exact h⟩
          have nL := newW hX0 (newB fr3) hB56
          rw [← e1] at nL
          rw [← e1, ← e2, Nat.zero_add]
          refine wd_k I_ok 1 rfl ?_
          have hX0 := hX
          have hbsP := hb7
          refine wd_l rfl (st_app I_ok rfl 32 32 rfl rfl rfl (by decide) (Own.blk (n := 0) (c := 0) hb7 32 rfl (Nat.le_refl _) (by decide)) (Src.slice (hxl.parents.extNo hX) OneC.h) (by dsimp only [maxLen]; omega) (by dsimp only; omega) fun p57 c57 w57 ho57 hE57 hB57 => ⟨hC.trans hE57 (fun y hy hF => by have e : b7 = y := congrArg Addr.block (Option.some.inj hF); omega), ?_⟩)
          have hC := hC.trans hE57 (fun y hy hF => by have e : b7 = y := congrArg Addr.block (Option.some.inj hF); omega)
          dsimp only at ho57 hE57 hB57 ⊢
          have hbo57 := Own.blk (n := 0) (c := 0) hbsP 32 rfl (Nat.le_refl _) (by decide)
          have hb1 := hb1.extOwn hbo57 hE57 (show (31 : Nat) ≠ 48 from by decide)
          have hb2 := hb2.extOwn hbo57 hE57 (show (31 : Nat) ≠ 48 from by decide)
          try have hL := hL.extOwn hbo57 hE57 (show (31 : Nat) ≠ 50 from by decide)
          try have hR := hR.extOwn hbo57 hE57 (show (31 : Nat) ≠ 102 from by decide)
          try have hb11 := hb11.extOwn hbo57 hE57 (show (31 : Nat) ≠ 102 from by decide)
          have hX := hX0.trans hE57 fun y hy hF => by have e : b7 = y := congrArg Addr.block (Option.some.inj hF); omega
          obtain ⟨qP, kP, e1, e2, hP⟩ : ∃ q k, q = p57 ∧ k = c57 ∧ Own w57 q x.parents.length k 31 32 (x.parents.flatMap bytesU) := ⟨_, _, rfl, rfl, by have h := ho57; rw [Nat.zero_add] at h; exact h⟩
          have nP := newW hX0 (newB fr7) hB57
          rw [← e1] at nP
          rw [← e1, ← e2, Nat.zero_add]
          have hX0 := hX
          have hbsR := hb11
          refine wd_l rfl (st_app I_ok rfl 3 40 rfl rfl rfl (by decide) (Own.blk (n := 0) (c := 0) hb11 3 rfl (Nat.le_refl _) (by decide)) (Src.slice (hxl.rows.extNo hX) OneC.h) (by dsimp only [maxLen]; omega) (by dsimp only; omega) fun p58 c58 w58 ho58 hE58 hB58 => ⟨hC.trans hE58 (fun y hy hF => by have e : b11 = y := congrArg Addr.block (Option.some.inj hF); omega), ?_⟩)
          dsimp only at ho58 hE58 hB58 ⊢
          have hbo58 := Own.blk (n := 0) (c := 0) hbsR 3 rfl (Nat.le_refl _) (by decide)
          have hb1 := hb1.extOwn hbo58 hE58 (show (102 : Nat) ≠ 48 from by decide)
          have hb2 := hb2.extOwn hbo58 hE58 (show (102 : Nat) ≠ 48 from by decide)
          try have hL := hL.extOwn hbo58 hE58 (show (102 : Nat) ≠ 50 from by decide)
          try have hP := hP.extOwn hbo58 hE58 (show (102 : Nat) ≠ 31 from by decide)
          have hX := hX0.trans hE58 fun y hy hF => by have e : b11 = y := congrArg Addr.block (Option.some.inj hF); omega
          obtain ⟨qR, kR, e1, e2, hR⟩ : ∃ q k, q = p58 ∧ k = c58 ∧ Own w58 q x.rows.length k 102 3 (x.rows.flatMap ChgD.cells) := ⟨_, _, rfl, rfl, by have h := ho58; rw [Nat.zero_add] at h; exact h⟩
          have nR := newW hX0 (newB fr11) hB58
          rw [← e1] at nR
          rw [← e1, ← e2, Nat.zero_add]
          refine wd_sw ?_
          have hb1o := hb1
          refine wb rfl (st_st I_ok hb1 rfl rfl rfl fun w59 hb1 hE59 hs59 => ?_)
          have hb2 := hb2.ext1 hE59 ne1_2.symm
          have hL := hL.extTy hE59 hb1o (by decide)
          have hP := hP.extTy hE59 hb1o (by decide)
          have hR := hR.extTy hE59 hb1o (by decide)
          have hX := hX.thenNew hE59 fr1
          have hb1 : Blk w59 b1 48 (objC x ⟨qL, kL, a.pp, a.pc, a.rp, a.rc⟩) := hb1
          refine wb rfl (st_p I_ok rfl rfl rfl ?_)
          have hb1o := hb1
          refine wb rfl (st_set I_ok hb1 rfl rfl (by rw [objC_len hx]; decide) fun w60 hb1 hE60 hs60 => ?_)
          have hb2 := hb2.ext1 hE60 ne1_2.symm
          have hL := hL.extTy hE60 hb1o (by decide)
          have hP := hP.extTy hE60 hb1o (by decide)
          have hR := hR.extTy hE60 hb1o (by decide)
          have hX := hX.thenNew hE60 fr1
          have hb1 : Blk w60 b1 48 (objC x ⟨qL, kL, qP, kP, a.rp, a.rc⟩) := (by have h : Blk _ b1 _ ((objC x ⟨qL, kL, a.pp, a.pc, a.rp, a.rc⟩).set (68 + 0) (.slice qP x.parents.length kP)) := hb1; rw [objC_parents hx] at h; exact h)
          refine wb rfl (st_p I_ok rfl rfl rfl (wb rfl (st_p I_ok rfl rfl rfl ?_)))
          have hb1o := hb1
          refine wb rfl (st_set I_ok hb1 rfl rfl (by rw [objC_len hx]; decide) fun w61 hb1 hE61 hs61 => ?_)
          have hb2 := hb2.ext1 hE61 ne1_2.symm
          have hL := hL.extTy hE61 hb1o (by decide)
          have hP := hP.extTy hE61 hb1o (by decide)
          have hR := hR.extTy hE61 hb1o (by decide)
          have hX := hX.thenNew hE61 fr1
          have hb1 : Blk w61 b1 48 (objC x ⟨qL, kL, qP, kP, qR, kR⟩) := (by have h : Blk _ b1 _ ((objC x ⟨qL, kL, qP, kP, a.rp, a.rc⟩).set (68 + 1) (.slice qR x.rows.length kR)) := hb1; rw [objC_rows hx] at h; exact h)
          refine wb_nil ?_
          exact f_cut (⟨qL, kL, qP, kP, qR, kR⟩) rfl ⟨⟨hL, hP, hR, nL, nP, nR⟩, hb1, hb2, hX⟩
    · refine st_bs I_ok rfl 32 rfl idZ_c.symm (by rw [bytesU_len]; rfl) (by decide) (by decide) trivial (l' := []) rfl fun b7 w62 hn7 hb7 hE62 hs62 => ⟨hC.thenNo hE62, ?_⟩
      have fr7 := Nat.le_trans hX.size hn7
      have frhC7 := Nat.le_trans hC.size hn7
      have hb1 := hb1.extNo hE62
      have hb2 := hb2.extNo hE62
      have hX := hX.thenNo hE62
      have hC := hC.thenNo hE62
      refine wx_plan [] 6 rfl (by kernel_rfl) (wd_tail rfl (wx_alt [0, 8] rfl (by kernel_rfl) ⟨⟨_, rfl, ?_⟩, ⟨_, rfl, ?_⟩, trivial⟩))
      · refine st_bs I_ok rfl 33 rfl leafZ_c (LeafD.len rfl) (by decide) (by decide) trivial (l' := []) rfl fun b3 w63 hn3 hb3 hE63 hs63 => ⟨hC.thenNo hE63, ?_⟩
        have fr3 := Nat.le_trans hX.size hn3
        have frhC3 := Nat.le_trans hC.size hn3
        have hb1 := hb1.extNo hE63
        have hb2 := hb2.extNo hE63
        have hb7 := hb7.extNo hE63
        have hX := hX.thenNo hE63
        have hC := hC.thenNo hE63
        refine wx_plan [] 5 rfl (by kernel_rfl) (wd_tail rfl (wx_alt [3, 8] rfl (by kernel_rfl) ⟨⟨_, rfl, ?_⟩, ⟨_, rfl, ?_⟩, trivial⟩))
        · have hX0 := hX
          have hbsL := hb3
          refine st_app I_ok rfl 33 48 rfl rfl rfl (by decide) (Own.blk (n := 0) (c := 0) hb3 33 rfl (Nat.le_refl _) (by decide)) (Src.slice (hxl.leaves.extNo hX) OneC.h) (by dsimp only [maxLen]; omega) (by dsimp only; omega) fun p64 c64 w64 ho64 hE64 hB64 => ⟨hC.trans hE64 (fun y hy hF => by have e : b3 = y := congrArg Addr.block (Option.some.inj hF); omega), ?_⟩
          have hC := hC.trans hE64 (fun y hy hF => by have e : b3 = y := congrArg Addr.block (Option.some.inj hF); omega)
          dsimp only at ho64 hE64 hB64 ⊢
          have hbo64 := Own.blk (n := 0) (c := 0) hbsL 33 rfl (Nat.le_refl _) (by decide)
          have hb1 := hb1.extOwn hbo64 hE64 (show (50 : Nat) ≠ 48 from by decide)
          have hb2 := hb2.extOwn hbo64 hE64 (show (50 : Nat) ≠ 48 from by decide)
          try have hP := hP.extOwn hbo64 hE64 (show (50 : Nat) ≠ 31 from by decide)
          try have hR := hR.extOwn hbo64 hE64 (show (50 : Nat) ≠ 102 from by decide)
          try have hb7 := hb7.extOwn hbo64 hE64 (show (50 : Nat) ≠ 31 from by decide)
          try have hb11 := hb11.extOwn hbo64 hE64 (show (50 : Nat) ≠ 102 from by decide)
          have hX := hX0.trans hE64 fun y hy hF => by have e : b3 = y := congrArg Addr.block (Option.some.inj hF); omega
          obtain ⟨qL, kL, e1, e2, hL⟩ : ∃ q k, q = p64 ∧ k = c64 ∧ Own w64 q x.leaves.length k 50 33 (x.leaves.flatMap LeafD.cells) := ⟨_, _, rfl, rfl, by have h := ho64; rw [Nat.zero_add] at h; exact h⟩
          have nL := newW hX0 (newB fr3) hB64
          rw [← e1] at nL
          rw [← e1, ← e2, Nat.zero_add]
          refine wx_plan [(13, true)] 3 rfl (by kernel_rfl) (wd_k I_ok 1 rfl (wd_tail rfl (wx_alt [7, 8] rfl (by kernel_rfl) ⟨⟨_, rfl, ?_⟩, ⟨_, rfl, ?_⟩, trivial⟩)))
          · have hX0 := hX
            have hbsP := hb7
            refine st_app I_ok rfl 32 32 rfl rfl rfl (by decide) (Own.blk (n := 0) (c := 0) hb7 32 rfl (Nat.le_refl _) (by decide)) (Src.slice (hxl.parents.extNo hX) OneC.h) (by dsimp only [maxLen]; omega) (by dsimp only; omega) fun p65 c65 w65 ho65 hE65 hB65 => ⟨hC.trans hE65 (fun y hy hF => by have e : b7 = y := congrArg Addr.block (Option.some.inj hF); omega), ?_⟩
            have hC := hC.trans hE65 (fun y hy hF => by have e : b7 = y := congrArg Addr.block (Option.some.inj hF); omega)
            dsimp only at ho65 hE65 hB65 ⊢
            have hbo65 := Own.blk (n := 0) (c := 0) hbsP 32 rfl (Nat.le_refl _) (by decide)
            have hb1 := hb1.extOwn hbo65 hE65 (show (31 : Nat) ≠ 48 from by decide)
            have hb2 := hb2.extOwn hbo65 hE65 (show (31 : Nat) ≠ 48 from by decide)
            try have hL := hL.extOwn hbo65 hE65 (show (31 : Nat) ≠ 50 from by decide)
            try have hR := hR.extOwn hbo65 hE65 (show (31 : Nat) ≠ 102 from by decide)
            try have hb11 := hb11.extOwn hbo65 hE65 (show (31 : Nat) ≠ 102 from by decide)
            have hX := hX0.trans hE65 fun y hy hF => by have e : b7 = y := congrArg Addr.block (Option.some.inj hF); omega
            obtain ⟨qP, kP, e1, e2, hP⟩ : ∃ q k, q = p65 ∧ k = c65 ∧ Own w65 q x.parents.length k 31 32 (x.parents.flatMap bytesU) := ⟨_, _, rfl, rfl, by have h := ho65; rw [Nat.zero_add] at h; exact h⟩
            have nP := newW hX0 (newB fr7) hB65
            rw [← e1] at nP
            rw [← e1, ← e2, Nat.zero_add]
            refine wx_plan [(8, false), (12, false)] 0 rfl (by kernel_rfl) (wd_l rfl (st_bs I_ok rfl 3 rfl chgZ_c rfl (by decide) (by decide) trivial (l' := []) rfl fun b11 w66 hn11 hb11 hE66 hs66 => ⟨hC.thenNo hE66, ?_⟩))
            have fr11 := Nat.le_trans hX.size hn11
            have frhC11 := Nat.le_trans hC.size hn11
            have hb1 := hb1.extNo hE66
            have hb2 := hb2.extNo hE66
            have hL := hL.ext hE66 fun _ _ => id
            have hP := hP.ext hE66 fun _ _ => id
            have hX := hX.thenNo hE66
            have hC := hC.thenNo hE66
            have hX0 := hX
            have hbsR := hb11
            refine wd_l rfl (st_app I_ok rfl 3 40 rfl rfl rfl (by decide) (Own.blk (n := 0) (c := 0) hb11 3 rfl (Nat.le_refl _) (by decide)) (Src.slice (hxl.rows.extNo hX) OneC.h) (by dsimp only [maxLen]; omega) (by dsimp only; omega) fun p67 c67 w67 ho67 hE67 hB67 => ⟨hC.trans hE67 (fun y hy hF => by have e : b11 = y := congrArg Addr.block (Option.some.inj hF); omega), ?_⟩)
            dsimp only at ho67 hE67 hB67 ⊢
            have hbo67 := Own.blk (n := 0) (c := 0) hbsR 3 rfl (Nat.le_refl _) (by decide)
            have hb1 := hb1.extOwn hbo67 hE67 (show (102 : Nat) ≠ 48 from by decide)
            have hb2 := hb2.extOwn hbo67 hE67 (show (102 : Nat) ≠ 48 from by decide)
            try have hL := hL.extOwn hbo67 hE67 (show (102 : Nat) ≠ 50 from by decide)
            try have hP := hP.extOwn hbo67 hE67 (show (102 : Nat) ≠ 31 from by decide)
            have hX := hX0.trans hE67 fun y hy hF => by have e : b11 = y := congrArg Addr.block (Option.some.inj hF); omega
            obtain ⟨qR, kR, e1, e2, hR⟩ : ∃ q k, q = p67 ∧ k = c67 ∧ Own w67 q x.rows.length k 102 3 (x.rows.flatMap ChgD.cells) := ⟨_, _, rfl, rfl, by have h := ho67; rw [Nat.zero_add] at h; exact h⟩
            have nR := newW hX0 (newB fr11) hB67
            rw [← e1] at nR
            rw [← e1, ← e2, Nat.zero_add]
            refine wd_sw ?_
            have hb1o := hb1
            refine wb rfl (st_st I_ok hb1 rfl rfl rfl fun w68 hb1 hE68 hs68 => ?_)
            have hb2 := hb2.ext1 hE68 ne1_2.symm
            have hL := hL.extTy hE68 hb1o (by decide)
            have hP := hP.extTy hE68 hb1o (by decide)
            have hR := hR.extTy hE68 hb1o (by decide)
            have hX := hX.thenNew hE68 fr1
            have hb1 : Blk w68 b1 48 (objC x ⟨qL, kL, a.pp, a.pc, a.rp, a.rc⟩) := hb1
            refine wb rfl (st_p I_ok rfl rfl rfl ?_)
            have hb1o := hb1
            refine wb rfl (st_set I_ok hb1 rfl rfl (by rw [objC_len hx]; decide) fun w69 hb1 hE69 hs69 => ?_)
            have hb2 := hb2.ext1 hE69 ne1_2.symm
            have hL := hL.extTy hE69 hb1o (by decide)
            have hP := hP.extTy hE69 hb1o (by decide)
            have hR := hR.extTy hE69 hb1o (by decide)
            have hX := hX.thenNew hE69 fr1
            have hb1 : Blk w69 b1 48 (objC x ⟨qL, kL, qP, kP, a.rp, a.rc⟩) := (by have h : Blk _ b1 _ ((objC x ⟨qL, kL, a.pp, a.pc, a.rp, a.rc⟩).set (68 + 0) (.slice qP x.parents.length kP)) := hb1; rw [objC_parents hx] at h; exact h)
            refine wb rfl (st_p I_ok rfl rfl rfl (wb rfl (st_p I_ok rfl rfl rfl ?_)))
            have hb1o := hb1
            refine wb rfl (st_set I_ok hb1 rfl rfl (by rw [objC_len hx]; decide) fun w70 hb1 hE70 hs70 => ?_)
            have hb2 := hb2.ext1 hE70 ne1_2.symm
            have hL := hL.extTy hE70 hb1o (by decide)
            have hP := hP.extTy hE70 hb1o (by decide)
            have hR := hR.extTy hE70 hb1o (by decide)
            have hX := hX.thenNew hE70 fr1
            have hb1 : Blk w70 b1 48 (objC x ⟨qL, kL, qP, kP, qR, kR⟩) := (by have h : Blk _ b1 _ ((objC x ⟨qL, kL, qP, kP, a.rp, a.rc⟩).set (68 + 1) (.slice qR x.rows.length kR)) := hb1; rw [objC_rows hx] at h; exact h)
            refine wb_nil ?_
            exact f_cut (⟨qL, kL, qP, kP, qR, kR⟩) rfl ⟨⟨hL, hP, hR, nL, nP, nR⟩, hb1, hb2, hX⟩
          · refine st_bs I_ok rfl 3 rfl chgZ_c rfl (by decide) (by decide) trivial (l' := []) rfl fun b11 w71 hn11 hb11 hE71 hs71 => ⟨hC.thenNo hE71, ?_⟩
            have fr11 := Nat.le_trans hX.size hn11
            have frhC11 := Nat.le_trans hC.size hn11
            have hb1 := hb1.extNo hE71
            have hb2 := hb2.extNo hE71
            have hb7 := hb7.extNo hE71
            have hL := hL.ext hE71 fun _ _ => id
            have hX := hX.thenNo hE71
            have hC := hC.thenNo hE71
            refine wx_plan [(7, false), (12, false)] 0 rfl (by kernel_rfl) ?_
            have hX0 := hX
            have hbsP := hb7
            refine wd_l rfl (st_app I_ok rfl 32 32 rfl rfl rfl (by decide) (Own.blk (n := 0) (c := 0) hb7 32 rfl (Nat.le_refl _) (by decide)) (Src.slice (hxl.parents.extNo hX) OneC.h) (by dsimp only [maxLen]; omega) (by dsimp only; omega) fun p72 c72 w72 ho72 hE72 hB72 => ⟨hC.trans hE72 (fun y hy hF => by have e : b7 = y := congrArg Addr.block (Option.some.inj hF); omega), ?_⟩)
            have hC := hC.trans hE72 (fun y hy hF => by have e : b7 = y := congrArg Addr.block (Option.some.inj hF); omega)
            dsimp only at ho72 hE72 hB72 ⊢
            have hbo72 := Own.blk (n := 0) (c := 0) hbsP 32 rfl (Nat.le_refl _) (by decide)
            have hb1 := hb1.extOwn hbo72 hE72 (show (31 : Nat) ≠ 48 from by decide)
            have hb2 := hb2.extOwn hbo72 hE72 (show (31 : Nat) ≠ 48 from by decide)
            try have hL := hL.extOwn hbo72 hE72 (show (31 : Nat) ≠ 50 from by decide)
            try have hR := hR.extOwn hbo72 hE72 (show (31 : Nat) ≠ 102 from by decide)
            try have hb11 := hb11.extOwn hbo72 hE72 (show (31 : Nat) ≠ 102 from by decide)
            have hX := hX0.trans hE72 fun y hy hF => by have e : b7 = y := congrArg Addr.block (Option.some.inj hF); omega
            obtain ⟨qP, kP, e1, e2, hP⟩ : ∃ q k, q = p72 ∧ k = c72 ∧ Own w72 q x.parents.length k 31 32 (x.parents.flatMap bytesU) := ⟨_, _, rfl, rfl, by have h := ho72; rw [Nat.zero_add] at h; exact h⟩
            have nP := newW hX0 (newB fr7) hB72
            rw [← e1] at nP
            rw [← e1, ← e2, Nat.zero_add]
            have hX0 := hX
            have hbsR := hb11
            refine wd_l rfl (st_app I_ok rfl 3 40 rfl rfl rfl (by decide) (Own.blk (n := 0) (c := 0) hb11 3 rfl (Nat.le_refl _) (by decide)) (Src.slice (hxl.rows.extNo hX) OneC.h) (by dsimp only [maxLen]; omega) (by dsimp only; omega) fun p73 c73 w73 ho73 hE73 hB73 => ⟨hC.trans hE73 (fun y hy hF => by have e : b11 = y := congrArg Addr.block (Option.some.inj hF); omega), ?_⟩)
            dsimp only at ho73 hE73 hB73 ⊢
            have hbo73 := Own.blk (n := 0) (c := 0) hbsR 3 rfl (Nat.le_refl _) (by decide)
            have hb1 := hb1.extOwn hbo73 hE73 (show (102 : Nat) ≠ 48 from by decide)
            have hb2 := hb2.extOwn hbo73 hE73 (show (102 : Nat) ≠ 48 from by decide)
            try have hL := hL.extOwn hbo73 hE73 (show (102 : Nat) ≠ 50 from by decide)
            try have hP := hP.extOwn hbo73 hE73 (show (102 : Nat) ≠ 31 from by decide)
            have hX := hX0.trans hE73 fun y hy hF => by have e : b11 = y := congrArg Addr.block (Option.some.inj hF); omega
            obtain ⟨qR, kR, e1, e2, hR⟩ : ∃ q k, q = p73 ∧ k = c73 ∧ Own w73 q x.rows.length k 102 3 (x.rows.flatMap ChgD.cells) := ⟨_, _, rfl, rfl, by have h := ho73; rw [Nat.zero_add] at h; exact h⟩
            have nR := newW hX0 (newB fr11) hB73
            rw [← e1] at nR
            rw [← e1, ← e2, Nat.zero_add]
            refine wd_sw ?_
            have hb1o := hb1
            refine wb rfl (st_st I_ok hb1 rfl rfl rfl fun w74 hb1 hE74 hs74 => ?_)
            have hb2 := hb2.ext1 hE74 ne1_2.symm
            have hL := hL.extTy hE74 hb1o (by decide)
            have hP := hP.extTy hE74 hb1o (by decide)
            have hR := hR.extTy hE74 hb1o (by decide)
            have hX := hX.thenNew hE74 fr1
            have hb1 : Blk w74 b1 48 (objC x ⟨qL, kL, a.pp, a.pc, a.rp, a.rc⟩) := hb1
            refine wb rfl (st_p I_ok rfl rfl rfl ?_)
            have hb1o := hb1
            refine wb rfl (st_set I_ok hb1 rfl rfl (by rw [objC_len hx]; decide) fun w75 hb1 hE75 hs75 => ?_)
            have hb2 := hb2.ext1 hE75 ne1_2.symm
            have hL := hL.extTy hE75 hb1o (by decide)
            have hP := hP.extTy hE75 hb1o (by decide)
            have hR := hR.extTy hE75 hb1o (by decide)
            have hX := hX.thenNew hE75 fr1
            have hb1 : Blk w75 b1 48 (objC x ⟨qL, kL, qP, kP, a.rp, a.rc⟩) := (by have h : Blk _ b1 _ ((objC x ⟨qL, kL, a.pp, a.pc, a.rp, a.rc⟩).set (68 + 0) (.slice qP x.parents.length kP)) := hb1; rw [objC_parents hx] at h; exact h)
            refine wb rfl (st_p I_ok rfl rfl rfl (wb rfl (st_p I_ok rfl rfl rfl ?_)))
            have hb1o := hb1
            refine wb rfl (st_set I_ok hb1 rfl rfl (by rw [objC_len hx]; decide) fun w76 hb1 hE76 hs76 => ?_)
            have hb2 := hb2.ext1 hE76 ne1_2.symm
            have hL := hL.extTy hE76 hb1o (by decide)
            have hP := hP.extTy hE76 hb1o (by decide)
            have hR := hR.extTy hE76 hb1o (by decide)
            have hX := hX.thenNew hE76 fr1
            have hb1 : Blk w76 b1 48 (objC x ⟨qL, kL, qP, kP, qR, kR⟩) := (by have h : Blk _ b1 _ ((objC x ⟨qL, kL, qP, kP, a.rp, a.rc⟩).set (68 + 1) (.slice qR x.rows.length kR)) := hb1; rw [objC_rows hx] at h; exact h)
            refine wb_nil ?_
            exact f_cut (⟨qL, kL, qP, kP, qR, kR⟩) rfl ⟨⟨hL, hP, hR, nL, nP, nR⟩, hb1, hb2, hX⟩
        · refine st_bs I_ok rfl 3 rfl chgZ_c rfl (by decide) (by decide) trivial (l' := []) rfl fun b11 w77 hn11 hb11 hE77 hs77 => ⟨hC.thenNo hE77, ?_⟩
          have fr11 := Nat.le_trans hX.size hn11
          have frhC11 := Nat.le_trans hC.size hn11
          have hb1 := hb1.extNo hE77
          have hb2 := hb2.extNo hE77
          have hb7 := hb7.extNo hE77
          have hb3 := hb3.extNo hE77
          have hX := hX.thenNo hE77
          have hC := hC.thenNo hE77
          refine wx_plan [(3, false), (13, true), (7, false), (12, false)] 0 rfl (by kernel_rfl) ?_
          have hX0 := hX
          have hbsL := hb3
          refine wd_l rfl (st_app I_ok rfl 33 48 rfl rfl rfl (by decide) (Own.blk (n := 0) (c := 0) hb3 33 rfl (Nat.le_refl _) (by decide)) (Src.slice (hxl.leaves.extNo hX) OneC.h) (by dsimp only [maxLen]; omega) (by dsimp only; omega) fun p78 c78 w78 ho78 hE78 hB78 => ⟨hC.trans hE78 (fun y hy hF => by have e : b3 = y := congrArg Addr.block (Option.some.inj hF); omega), ?_⟩)
          have hC := hC.trans hE78 (fun y hy hF => by have e : b3 = y := congrArg Addr.block (Option.some.inj hF); omega)
          dsimp only at ho78 hE78 hB78 ⊢
          have hbo78 := Own.blk (n := 0) (c := 0) hbsL 33 rfl (Nat.le_refl _) (by decide)
          have hb1 := hb1.extOwn hbo78 hE78 (show (50 : Nat) ≠ 48 from by decide)
          have hb2 := hb2.extOwn hbo78 hE78 (show (50 : Nat) ≠ 48 from by decide)
          try have hP := hP.extOwn hbo78 hE78 (show (50 : Nat) ≠ 31 from by decide)
          try have hR := hR.extOwn hbo78 hE78 (show (50 : Nat) ≠ 102 from by decide)
          try have hb7 := hb7.extOwn hbo78 hE78 (show (50 : Nat) ≠ 31 from by decide)
          try have hb11 := hb11.extOwn hbo78 hE78 (show (50 : Nat) ≠ 102 from by decide)
          have hX := hX0.trans hE78 fun y hy hF => by have e : b3 = y := congrArg Addr.block (Option.some.inj hF); omega
          obtain ⟨qL, kL, e1, e2, hL⟩ : ∃ q k, q = p78 ∧ k = c78 ∧ Own w78 q x.leaves.length k 50 33 (x.leaves.flatMap LeafD.cells) := ⟨_, _, rfl, rfl, by have h := ho78; rw [Nat.zero_add] at h; exact h⟩
          have nL := newW hX0 (newB fr3) hB78
          rw [← e1] at nL
          rw [← e1, ← e2, Nat.zero_add]
          refine wd_k I_ok 1 rfl ?_
          have hX0 := hX
          have hbsP := hb7
          refine wd_l rfl (st_app I_ok rfl 32 32 rfl rfl rfl (by decide) (Own.blk (n := 0) (c := 0) hb7 32 rfl (Nat.le_refl _) (by decide)) (Src.slice (hxl.parents.extNo hX) OneC.h) (by dsimp only [maxLen]; omega) (by dsimp only; omega) fun p79 c79 w79 ho79 hE79 hB79 => ⟨hC.trans hE79 (fun y hy hF => by have e : b7 = y := congrArg Addr.block (Option.some.inj hF); omega), ?_⟩)
          have hC := hC.trans hE79 (fun y hy hF => by have e : b7 = y := congrArg Addr.block (Option.some.inj hF); omega)
          dsimp only at ho79 hE79 hB79 ⊢
          have hbo79 := Own.blk (n := 0) (c := 0) hbsP 32 rfl (Nat.le_refl _) (by decide)
          have hb1 := hb1.extOwn hbo79 hE79 (show (31 : Nat) ≠ 48 from by decide)
          have hb2 := hb2.extOwn hbo79 hE79 (show (31 : Nat) ≠ 48 from by decide)
          try have hL := hL.extOwn hbo79 hE79 (show (31 : Nat) ≠ 50 from by decide)
          try have hR := hR.extOwn hbo79 hE79 (show (31 : Nat) ≠ 102 from by decide)
          try have hb11 := hb11.extOwn hbo79 hE79 (show (31 : Nat) ≠ 102 from by decide)
          have hX := hX0.trans hE79 fun y hy hF => by have e : b7 = y := congrArg Addr.block (Option.some.inj hF); omega
          obtain ⟨qP, kP, e1, e2, hP⟩ : ∃ q k, q = p79 ∧ k = c79 ∧ Own w79 q x.parents.length k 31 32 (x.parents.flatMap bytesU) := ⟨_, _, rfl, rfl, by have h := ho79; rw [Nat.zero_add] at h; exact h⟩
          have nP := newW hX0 (newB fr7) hB79
          rw [← e1] at nP
          rw [← e1, ← e2, Nat.zero_add]
          have hX0 := hX
          have hbsR := hb11
          refine wd_l rfl (st_app I_ok rfl 3 40 rfl rfl rfl (by decide) (Own.blk (n := 0) (c := 0) hb11 3 rfl (Nat.le_refl _) (by decide)) (Src.slice (hxl.rows.extNo hX) OneC.h) (by dsimp only [maxLen]; omega) (by dsimp only; omega) fun p80 c80 w80 ho80 hE80 hB80 => ⟨hC.trans hE80 (fun y hy hF => by have e : b11 = y := congrArg Addr.block (Option.some.inj hF); omega), ?_⟩)
          dsimp only at ho80 hE80 hB80 ⊢
          have hbo80 := Own.blk (n := 0) (c := 0) hbsR 3 rfl (Nat.le_refl _) (by decide)
          have hb1 := hb1.extOwn hbo80 hE80 (show (102 : Nat) ≠ 48 from by decide)
          have hb2 := hb2.extOwn hbo80 hE80 (show (102 : Nat) ≠ 48 from by decide)
          try have hL := hL.extOwn hbo80 hE80 (show (102 : Nat) ≠ 50 from by decide)
          try have hP := hP.extOwn hbo80 hE80 (show (102 : Nat) ≠ 31 from by decide)
          have hX := hX0.trans hE80 fun y hy hF => by have e : b11 = y := congrArg Addr.block (Option.some.inj hF); omega
          obtain ⟨qR, kR, e1, e2, hR⟩ : ∃ q k, q = p80 ∧ k = c80 ∧ Own w80 q x.rows.length k 102 3 (x.rows.flatMap ChgD.cells) := ⟨_, _, rfl, rfl, by have h := ho80; rw [Nat.zero_add] at h; exact h⟩
          have nR := newW hX0 (newB fr11) hB80
          rw [← e1] at nR
          rw [← e1, ← e2, Nat.zero_add]
          refine wd_sw ?_
          have hb1o := hb1
          refine wb rfl (st_st I_ok hb1 rfl rfl rfl fun w81 hb1 hE81 hs81 => ?_)
          have hb2 := hb2.ext1 hE81 ne1_2.symm
          have hL := hL.extTy hE81 hb1o (by decide)
          have hP := hP.extTy hE81 hb1o (by decide)
          have hR := hR.extTy hE81 hb1o (by decide)
          have hX := hX.thenNew hE81 fr1
          have hb1 : Blk w81 b1 48 (objC x ⟨qL, kL, a.pp, a.pc, a.rp, a.rc⟩) := hb1
          refine wb rfl (st_p I_ok rfl rfl rfl ?_)
          have hb1o := hb1
          refine wb rfl (st_set I_ok hb1 rfl rfl (by rw [objC_len hx]; decide) fun w82 hb1 hE82 hs82 => ?_)
          have hb2 := hb2.ext1 hE82 ne1_2.symm
          have hL := hL.extTy hE82 hb1o (by decide)
          have hP := hP.extTy hE82 hb1o (by decide)
          have hR := hR.extTy hE82 hb1o (by decide)
          have hX := hX.thenNew hE82 fr1
          have hb1 : Blk w82 b1 48 (objC x ⟨qL, kL, qP, kP, a.rp, a.rc⟩) := (by have h : Blk _ b1 _ ((objC x ⟨qL, kL, a.pp, a.pc, a.rp, a.rc⟩).set (68 + 0) (.slice qP x.parents.length kP)) := hb1; rw [objC_parents hx] at h; exact h)
          refine wb rfl (st_p I_ok rfl rfl rfl (wb rfl (st_p I_ok rfl rfl rfl ?_)))
          have hb1o := hb1
          refine wb rfl (st_set I_ok hb1 rfl rfl (by rw [objC_len hx]; decide) fun w83 hb1 hE83 hs83 => ?_)
          have hb2 := hb2.ext1 hE83 ne1_2.symm
          have hL := hL.extTy hE83 hb1o (by decide)
          have hP := hP.extTy hE83 hb1o (by decide)
          have hR := hR.extTy hE83 hb1o (by decide)
          have hX := hX.thenNew hE83 fr1
          have hb1 : Blk w83 b1 48 (objC x ⟨qL, kL, qP, kP, qR, kR⟩) := (by have h : Blk _ b1 _ ((objC x ⟨qL, kL, qP, kP, a.rp, a.rc⟩).set (68 + 1) (.slice qR x.rows.length kR)) := hb1; rw [objC_rows hx] at h; exact h)
          refine wb_nil ?_
          exact f_cut (⟨qL, kL, qP, kP, qR, kR⟩) rfl ⟨⟨hL, hP, hR, nL, nP, nR⟩, hb1, hb2, hX⟩
      · refine st_bs I_ok rfl 3 rfl chgZ_c rfl (by decide) (by decide) trivial (l' := []) rfl fun b11 w84 hn11 hb11 hE84 hs84 => ⟨hC.thenNo hE84, ?_⟩
        have fr11 := Nat.le_trans hX.size hn11
        have frhC11 := Nat.le_trans hC.size hn11
        have hb1 := hb1.extNo hE84
        have hb2 := hb2.extNo hE84
        have hb7 := hb7.extNo hE84
        have hX := hX.thenNo hE84
        have hC := hC.thenNo hE84
        refine wx_plan [(0, false), (3, false), (13, true), (7, false), (12, false)] 0 rfl (by kernel_rfl) ?_
        refine wd_l rfl (st_bs I_ok rfl 33 rfl leafZ_c (LeafD.len rfl) (by decide) (by decide) trivial (l' := []) rfl fun b3 w85 hn3 hb3 hE85 hs85 => ⟨hC.thenNo hE85, ?_⟩)
        have fr3 := Nat.le_trans hX.size hn3
        have frhC3 := Nat.le_trans hC.size hn3
        have hb1 := hb1.extNo hE85
        have hb2 := hb2.extNo hE85
        have hb7 := hb7.extNo hE85
        have hb11 := hb11.extNo hE85
        have hX := hX.thenNo hE85
        have hC := hC.thenNo hE85
        have hX0 := hX
        have hbsL := hb3
        refine wd_l rfl (st_app I_ok rfl 33 48 rfl rfl rfl (by decide) (Own.blk (n := 0) (c := 0) hb3 33 rfl (Nat.le_refl _) (by decide)) (Src.slice (hxl.leaves.extNo hX) OneC.h) (by dsimp only [maxLen]; omega) (by dsimp only; omega) fun p86 c86 w86 ho86 hE86 hB86 => ⟨hC.trans hE86 (fun y hy hF => by have e : b3 = y := congrArg Addr.block (Option.some.inj hF); omega), ?_⟩)
        have hC := hC.trans hE86 (fun y hy hF => by have e : b3 = y := congrArg Addr.block (Option.some.inj hF); omega)
        dsimp only at ho86 hE86 hB86 ⊢
        have hbo86 := Own.blk (n := 0) (c := 0) hbsL 33 rfl (Nat.le_refl _) (by decide)
        have hb1 := hb1.extOwn hbo86 hE86 (show (50 : Nat) ≠ 48 from by decide)
        have hb2 := hb2.extOwn hbo86 hE86 (show (50 : Nat) ≠ 48 from by decide)
        try have hP := hP.extOwn hbo86 hE86 (show (50 : Nat) ≠ 31 from by decide)
        try have hR := hR.extOwn hbo86 hE86 (show (50 : Nat) ≠ 102 from by decide)
        try have hb7 := hb7.extOwn hbo86 hE86 (show (50 : Nat) ≠ 31 from by decide)
        try have hb11 := hb11.extOwn hbo86 hE86 (show (50 : Nat) ≠ 102 from by decide)
        have hX := hX0.trans hE86 fun y hy hF => by have e : b3 = y := congrArg Addr.block (Option.some.inj hF); omega
        obtain ⟨qL, kL, e1, e2, hL⟩ : ∃ q k, q = p86 ∧ k = c86 ∧ Own w86 q x.leaves.length k 50 33 (x.leaves.flatMap LeafD.cells) := ⟨_, _, rfl, rfl, by have h := ho86; rw [Nat.zero_add] at h; exact h⟩
        have nL := newW hX0 (newB fr3) hB86
        rw [← e1] at nL
        rw [← e1, ← e2, Nat.zero_add]
        refine wd_k I_ok 1 rfl ?_
        have hX0 := hX
        have hbsP := hb7
        refine wd_l rfl (st_app I_ok rfl 32 32 rfl rfl rfl (by decide) (Own.blk (n := 0) (c := 0) hb7 32 rfl (Nat.le_refl _) (by decide)) (Src.slice (hxl.parents.extNo hX) OneC.h) (by dsimp only [maxLen]; omega) (by dsimp only; omega) fun p87 c87 w87 ho87 hE87 hB87 => ⟨hC.trans hE87 (fun y hy hF => by have e : b7 = y := congrArg Addr.block (Option.some.inj hF); omega), ?_⟩)
        have hC := hC.trans hE87 (fun y hy hF => by have e : b7 = y := congrArg Addr.block (Option.some.inj hF); omega)
        dsimp only at ho87 hE87 hB87 ⊢
        have hbo87 := Own.blk (n := 0) (c := 0) hbsP 32 rfl (Nat.le_refl _) (by decide)
        have hb1 := hb1.extOwn hbo87 hE87 (show (31 : Nat) ≠ 48 from by decide)
        have hb2 := hb2.extOwn hbo87 hE87 (show (31 : Nat) ≠ 48 from by decide)
        try have hL := hL.extOwn hbo87 hE87 (show (31 : Nat) ≠ 50 from by decide)
        try have hR := hR.extOwn hbo87 hE87 (show (31 : Nat) ≠ 102 from by decide)
        try have hb11 := hb11.extOwn hbo87 hE87 (show (31 : Nat) ≠ 102 from by decide)
        have hX := hX0.trans hE87 fun y hy hF => by have e : b7 = y := congrArg Addr.block (Option.some.inj hF); omega
        obtain ⟨qP, kP, e1, e2, hP⟩ : ∃ q k, q = p87 ∧ k = c87 ∧ Own w87 q x.parents.length k 31 32 (x.parents.flatMap bytesU) := ⟨_, _, rfl, rfl, by have h := ho87; rw [Nat.zero_add] at h; exact h⟩
        have nP := newW hX0 (newB fr7) hB87
        rw [← e1] at nP
        rw [← e1, ← e2, Nat.zero_add]
        have hX0 := hX
        have hbsR := hb11
        refine wd_l rfl (st_app I_ok rfl 3 40 rfl rfl rfl (by decide) (Own.blk (n := 0) (c := 0) hb11 3 rfl (Nat.le_refl _) (by decide)) (Src.slice (hxl.rows.extNo hX) OneC.h) (by dsimp only [maxLen]; omega) (by dsimp only; omega) fun p88 c88 w88 ho88 hE88 hB88 => ⟨hC.trans hE88 (fun y hy hF => by have e : b11 = y := congrArg Addr.block (Option.some.inj hF); omega), ?_⟩)
        dsimp only at ho88 hE88 hB88 ⊢
        have hbo88 := Own.blk (n := 0) (c := 0) hbsR 3 rfl (Nat.le_refl _) (by decide)
        have hb1 := hb1.extOwn hbo88 hE88 (show (102 : Nat) ≠ 48 from by decide)
        have hb2 := hb2.extOwn hbo88 hE88 (show (102 : Nat) ≠ 48 from by decide)
        try have hL := hL.extOwn hbo88 hE88 (show (102 : Nat) ≠ 50 from by decide)
        try have hP := hP.extOwn hbo88 hE88 (show (102 : Nat) ≠ 31 from by decide)
        have hX := hX0.trans hE88 fun y hy hF => by have e : b11 = y := congrArg Addr.block (Option.some.inj hF); omega
        obtain ⟨qR, kR, e1, e2, hR⟩ : ∃ q k, q = p88 ∧ k = c88 ∧ Own w88 q x.rows.length k 102 3 (x.rows.flatMap ChgD.cells) := ⟨_, _, rfl, rfl, by have h := ho88; rw [Nat.zero_add] at h; exact h⟩
        have nR := newW hX0 (newB fr11) hB88
        rw [← e1] at nR
        rw [← e1, ← e2, Nat.zero_add]
        refine wd_sw ?_
        have hb1o := hb1
        refine wb rfl (st_st I_ok hb1 rfl rfl rfl fun w89 hb1 hE89 hs89 => ?_)
        have hb2 := hb2.ext1 hE89 ne1_2.symm
        have hL := hL.extTy hE89 hb1o (by decide)
        have hP := hP.extTy hE89 hb1o (by decide)
        have hR := hR.extTy hE89 hb1o (by decide)
        have hX := hX.thenNew hE89 fr1
        have hb1 : Blk w89 b1 48 (objC x ⟨qL, kL, a.pp, a.pc, a.rp, a.rc⟩) := hb1
        refine wb rfl (st_p I_ok rfl rfl rfl ?_)
        have hb1o := hb1
        refine wb rfl (st_set I_ok hb1 rfl rfl (by rw [objC_len hx]; decide) fun w90 hb1 hE90 hs90 => ?_)
        have hb2 := hb2.ext1 hE90 ne1_2.symm
        have hL := hL.extTy hE90 hb1o (by decide)
        have hP := hP.extTy hE90 hb1o (by decide)
        have hR := hR.extTy hE90 hb1o (by decide)
        have hX := hX.thenNew hE90 fr1
        have hb1 : Blk w90 b1 48 (objC x ⟨qL, kL, qP, kP, a.rp, a.rc⟩) := (by have h : Blk _ b1 _ ((objC x ⟨qL, kL, a.pp, a.pc, a.rp, a.rc⟩).set (68 + 0) (.slice qP x.parents.length kP)) := hb1; rw [objC_parents hx] at h; exact h)
        refine wb rfl (st_p I_ok rfl rfl rfl (wb rfl (st_p I_ok rfl rfl rfl ?_)))
        have hb1o := hb1
        refine wb rfl (st_set I_ok hb1 rfl rfl (by rw [objC_len hx]; decide) fun w91 hb1 hE91 hs91 => ?_)
        have hb2 := hb2.ext1 hE91 ne1_2.symm
        have hL := hL.extTy hE91 hb1o (by decide)
        have hP := hP.extTy hE91 hb1o (by decide)
        have hR := hR.extTy hE91 hb1o (by decide)
        have hX := hX.thenNew hE91 fr1
        have hb1 : Blk w91 b1 48 (objC x ⟨qL, kL, qP, kP, qR, kR⟩) := (by have h : Blk _ b1 _ ((objC x ⟨qL, kL, qP, kP, a.rp, a.rc⟩).set (68 + 1) (.slice qR x.rows.length kR)) := hb1; rw [objC_rows hx] at h; exact h)
        refine wb_nil ?_
        exact f_cut (⟨qL, kL, qP, kP, qR, kR⟩) rfl ⟨⟨hL, hP, hR, nL, nP, nR⟩, hb1, hb2, hX⟩
    · refine st_bs I_ok rfl 3 rfl chgZ_c rfl (by decide) (by decide) trivial (l' := []) rfl fun b11 w92 hn11 hb11 hE92 hs92 => ⟨hC.thenNo hE92, ?_⟩
      have fr11 := Nat.le_trans hX.size hn11
      have frhC11 := Nat.le_trans hC.size hn11
      have hb1 := hb1.extNo hE92
      have hb2 := hb2.extNo hE92
      have hX := hX.thenNo hE92
      have hC := hC.thenNo hE92
      refine wx_plan [] 6 rfl (by kernel_rfl) (wd_tail rfl (wx_alt [0, 4] rfl (by kernel_rfl) ⟨⟨_, rfl, ?_⟩, ⟨_, rfl, ?_⟩, trivial⟩))
      · refine st_bs I_ok rfl 33 rfl leafZ_c (LeafD.len rfl) (by decide) (by decide) trivial (l' := []) rfl fun b3 w93 hn3 hb3 hE93 hs93 => ⟨hC.thenNo hE93, ?_⟩
        have fr3 := Nat.le_trans hX.size hn3
        have frhC3 := Nat.le_trans hC.size hn3
        have hb1 := hb1.extNo hE93
        have hb2 := hb2.extNo hE93
        have hb11 := hb11.extNo hE93
        have hX := hX.thenNo hE93
        have hC := hC.thenNo hE93
        refine wx_plan [] 5 rfl (by kernel_rfl) (wd_tail rfl (wx_alt [3, 4] rfl (by kernel_rfl) ⟨⟨_, rfl, ?_⟩, ⟨_, rfl, ?_⟩, trivial⟩))
        · have hX0 := hX
          have hbsL := hb3
          refine st_app I_ok rfl 33 48 rfl rfl rfl (by decide) (Own.blk (n := 0) (c := 0) hb3 33 rfl (Nat.le_refl _) (by decide)) (Src.slice (hxl.leaves.extNo hX) OneC.h) (by dsimp only [maxLen]; omega) (by dsimp only; omega) fun p94 c94 w94 ho94 hE94 hB94 => ⟨hC.trans hE94 (fun y hy hF => by have e : b3 = y := congrArg Addr.block (Option.some.inj hF); omega), ?_⟩
          have hC := hC.trans hE94 (fun y hy hF => by have e : b3 = y := congrArg Addr.block (Option.some.inj hF); omega)
          dsimp only at ho94 hE94 hB94 ⊢
          have hbo94 := Own.blk (n := 0) (c := 0) hbsL 33 rfl (Nat.le_refl _) (by decide)
          have hb1 := hb1.extOwn hbo94 hE94 (show (50 : Nat) ≠ 48 from by decide)
          have hb2 := hb2.extOwn hbo94 hE94 (show (50 : Nat) ≠ 48 from by decide)
          try have hP := hP.extOwn hbo94 hE94 (show (50 : Nat) ≠ 31 from by decide)
          try have hR := hR.extOwn hbo94 hE94 (show (50 : Nat) ≠ 102 from by decide)
          try have hb7 := hb7.extOwn hbo94 hE94 (show (50 : Nat) ≠ 31 from by decide)
          try have hb11 := hb11.extOwn hbo94 hE94 (show (50 : Nat) ≠ 102 from by decide)
          have hX := hX0.trans hE94 fun y hy hF => by have e : b3 = y := congrArg Addr.block (Option.some.inj hF); omega
          obtain ⟨qL, kL, e1, e2, hL⟩ : ∃ q k, q = p94 ∧ k = c94 ∧ Own w94 q x.leaves.length k 50 33 (x.leaves.flatMap LeafD.cells) := ⟨_, _, rfl, rfl, by have h := ho94; rw [Nat.zero_add] at h; exact h⟩
          have nL := newW hX0 (newB fr3) hB94
          rw [← e1] at nL
          rw [← e1, ← e2, Nat.zero_add]
          refine wx_plan [(13, true), (4, false), (7, false), (12, false)] 0 rfl (by kernel_rfl) (wd_k I_ok 1 rfl ?_)
          refine wd_l rfl (st_bs I_ok rfl 32 rfl idZ_c.symm (by rw [bytesU_len]; rfl) (by decide) (by decide) trivial (l' := []) rfl fun b7 w95 hn7 hb7 hE95 hs95 => ⟨hC.thenNo hE95, ?_⟩)
          have fr7 := Nat.le_trans hX.size hn7
          have frhC7 := Nat.le_trans hC.size hn7
          have hb1 := hb1.extNo hE95
          have hb2 := hb2.extNo hE95
          have hb11 := hb11.extNo hE95
          have hL := hL.ext hE95 fun _ _ => id
          have hX := hX.thenNo hE95
          have hC := hC.thenNo hE95
          have hX0 := hX
          have hbsP := hb7
          refine wd_l rfl (st_app I_ok rfl 32 32 rfl rfl rfl (by decide) (Own.blk (n := 0) (c := 0) hb7 32 rfl (Nat.le_refl _) (by decide)) (Src.slice (hxl.parents.extNo hX) OneC.h) (by dsimp only [maxLen]; omega) (by dsimp only; omega) fun p96 c96 w96 ho96 hE96 hB96 => ⟨hC.trans hE96 (fun y hy hF => by have e : b7 = y := congrArg Addr.block (Option.some.inj hF); omega), ?_⟩)
          have hC := hC.trans hE96 (fun y hy hF => by have e : b7 = y := congrArg Addr.block (Option.some.inj hF); omega)
          dsimp only at ho96 hE96 hB96 ⊢
          have hbo96 := Own.blk (n := 0) (c := 0) hbsP 32 rfl (Nat.le_refl _) (by decide)
          have hb1 := hb1.extOwn hbo96 hE96 (show (31 : Nat) ≠ 48 from by decide)
          have hb2 := hb2.extOwn hbo96 hE96 (show (31 : Nat) ≠ 48 from by decide)
          try have hL := hL.extOwn hbo96 hE96 (show (31 : Nat) ≠ 50 from by decide)
          try have hR := hR.extOwn hbo96 hE96 (show (31 : Nat) ≠ 102 from by decide)
          try have hb11 := hb11.extOwn hbo96 hE96 (show (31 : Nat) ≠ 102 from by decide)
          have hX := hX0.trans hE96 fun y hy hF => by have e : b7 = y := congrArg Addr.block (Option.some.inj hF); omega
          obtain ⟨qP, kP, e1, e2, hP⟩ : ∃ q k, q = p96 ∧ k = c96 ∧ Own w96 q x.parents.length k 31 32 (x.parents.flatMap bytesU) := ⟨_, _, rfl, rfl, by have h := ho96; rw [Nat.zero_add] at h; exact h⟩
          have nP := newW hX0 (newB fr7) hB96
          rw [← e1] at nP
          rw [← e1, ← e2, Nat.zero_add]
          have hX0 := hX
          have hbsR := hb11
          refine wd_l rfl (st_app I_ok rfl 3 40 rfl rfl rfl (by decide) (Own.blk (n := 0) (c := 0) hb11 3 rfl (Nat.le_refl _) (by decide)) (Src.slice (hxl.rows.extNo hX) OneC.h) (by dsimp only [maxLen]; omega) (by dsimp only; omega) fun p97 c97 w97 ho97 hE97 hB97 => ⟨hC.trans hE97 (fun y hy hF => by have e : b11 = y := congrArg Addr.block (Option.some.inj hF); omega), ?_⟩)
          dsimp only at ho97 hE97 hB97 ⊢
          have hbo97 := Own.blk (n := 0) (c := 0) hbsR 3 rfl (Nat.le_refl _) (by decide)
          have hb1 := hb1.extOwn hbo97 hE97 (show (102 : Nat) ≠ 48 from by decide)
          have hb2 := hb2.extOwn hbo97 hE97 (show (102 : Nat) ≠ 48 from by decide)
          try have hL := hL.extOwn hbo97 hE97 (show (102 : Nat) ≠ 50 from by decide)
          try have hP := hP.extOwn hbo97 hE97 (show (102 : Nat) ≠ 31 from by decide)
          have hX := hX0.trans hE97 fun y hy hF => by have e : b11 = y := congrArg Addr.block (Option.some.inj hF); omega
          obtain ⟨qR, kR, e1, e2, hR⟩ : ∃ q k, q = p97 ∧ k = c97 ∧ Own w97 q x.rows.length k 102 3 (x.rows.flatMap ChgD.cells) := ⟨_, _, rfl, rfl, by have h := ho97; rw [Nat.zero_add] at h; exact h⟩
          have nR := newW hX0 (newB fr11) hB97
          rw [← e1] at nR
          rw [← e1, ← e2, Nat.zero_add]
          refine wd_sw ?_
          have hb1o := hb1
          refine wb rfl (st_st I_ok hb1 rfl rfl rfl fun w98 hb1 hE98 hs98 => ?_)
          have hb2 := hb2.ext1 hE98 ne1_2.symm
          have hL := hL.extTy hE98 hb1o (by decide)
          have hP := hP.extTy hE98 hb1o (by decide)
          have hR := hR.extTy hE98 hb1o (by decide)
          have hX := hX.thenNew hE98 fr1
          have hb1 : Blk w98 b1 48 (objC x ⟨qL, kL, a.pp, a.pc, a.rp, a.rc⟩) := hb1
          refine wb rfl (st_p I_ok rfl rfl rfl ?_)
          have hb1o := hb1
          refine wb rfl (st_set I_ok hb1 rfl rfl (by rw [objC_len hx]; decide) fun w99 hb1 hE99 hs99 => ?_)
          have hb2 := hb2.ext1 hE99 ne1_2.symm
          have hL := hL.extTy hE99 hb1o (by decide)
          have hP := hP.extTy hE99 hb1o (by decide)
          have hR := hR.extTy hE99 hb1o (by decide)
          have hX := hX.thenNew hE99 fr1
          have hb1 : Blk w99 b1 48 (objC x ⟨qL, kL, qP, kP, a.rp, a.rc⟩) := (by have h : Blk _ b1 _ ((objC x ⟨qL, kL, a.pp, a.pc, a.rp, a.rc⟩).set (68 + 0) (.slice qP x.parents.length kP)) := hb1; rw [objC_parents hx] at h; exact h)
          refine wb rfl (st_p I_ok rfl rfl rfl (wb rfl (st_p I_ok rfl rfl rfl ?_)))
          have hb1o := hb1
          refine wb rfl (st_set I_ok hb1 rfl rfl (by rw [objC_len hx]; decide) fun w100 hb1 hE100 hs100 => ?_)
          have hb2 := hb2.ext1 hE100 ne1_2.symm
          have hL := hL.extTy hE100 hb1o (by decide)
          have hP := hP.extTy hE100 hb1o (by decide)
          have hR := hR.extTy hE100 hb1o (by decide)
          have hX := hX.thenNew hE100 fr1
          have hb1 : Blk w100 b1 48 (objC x ⟨qL, kL, qP, kP, qR, kR⟩) := (by have h : Blk _ b1 _ ((objC x ⟨qL, kL, qP, kP, a.rp, a.rc⟩).set (68 + 1) (.slice qR x.rows.length kR)) := hb1; rw [objC_rows hx] at h; exact h)
          refine wb_nil ?_
          exact f_cut (⟨qL, kL, qP, kP, qR, kR⟩) rfl ⟨⟨hL, hP, hR, nL, nP, nR⟩, hb1, hb2, hX⟩
        · refine st_bs I_ok rfl 32 rfl idZ_c.symm (by rw [bytesU_len]; rfl) (by decide) (by decide) trivial (l' := []) rfl fun b7 w101 hn7 hb7 hE101 hs101 => ⟨hC.thenNo hE101, ?_⟩
          have fr7 := Nat.le_trans hX.size hn7
          have frhC7 := Nat.le_trans hC.size hn7
          have hb1 := hb1.extNo hE101
          have hb2 := hb2.extNo hE101
          have hb11 := hb11.extNo hE101
          have hb3 := hb3.extNo hE101
          have hX := hX.thenNo hE101
          have hC := hC.thenNo hE101
          refine wx_plan [(3, false), (13, true), (7, false), (12, false)] 0 rfl (by kernel_rfl) ?_
          have hX0 := hX
          have hbsL := hb3
          refine wd_l rfl (st_app I_ok rfl 33 48 rfl rfl rfl (by decide) (Own.blk (n := 0) (c := 0) hb3 33 rfl (Nat.le_refl _) (by decide)) (Src.slice (hxl.leaves.extNo hX) OneC.h) (by dsimp only [maxLen]; omega) (by dsimp only; omega) fun p102 c102 w102 ho102 hE102 hB102 => ⟨hC.trans hE102 (fun y hy hF => by have e : b3 = y := congrArg Addr.block (Option.some.inj hF); omega), ?_⟩)
          have hC := hC.trans hE102 (fun y hy hF => by have e : b3 = y := congrArg Addr.block (Option.some.inj hF); omega)
          dsimp only at ho102 hE102 hB102 ⊢
          have hbo102 := Own.blk (n := 0) (c := 0) hbsL 33 rfl (Nat.le_refl _) (by decide)
          have hb1 := hb1.extOwn hbo102 hE102 (show (50 : Nat) ≠ 48 from by decide)
          have hb2 := hb2.extOwn hbo102 hE102 (show (50 : Nat) ≠ 48 from by decide)
          try have hP := hP.extOwn hbo102 hE102 (show (50 : Nat) ≠ 31 from by decide)
          try have hR := hR.extOwn hbo102 hE102 (show (50 : Nat) ≠ 102 from by decide)
          try have hb7 := hb7.extOwn hbo102 hE102 (show (50 : Nat) ≠ 31 from by decide)
          try have hb11 := hb11.extOwn hbo102 hE102 (show (50 : Nat) ≠ 102 from by decide)
          have hX := hX0.trans hE102 fun y hy hF => by have e : b3 = y := congrArg Addr.block (Option.some.inj hF); omega
          obtain ⟨qL, kL, e1, e2, hL⟩ : ∃ q k, q = p102 ∧ k = c102 ∧ Own w102 q x.leaves.length k 50 33 (x.leaves.flatMap LeafD.cells) := ⟨_, _, rfl, rfl, by have h := ho102; rw [Nat.zero_add] at h; exact h⟩
          have nL := newW hX0 (newB fr3) hB102
          rw [← e1] at nL
          rw [← e1, ← e2, Nat.zero_add]
          refine wd_k I_ok 1 rfl ?_
          have hX0 := hX
          have hbsP := hb7
          refine wd_l rfl (st_app I_ok rfl 32 32 rfl rfl rfl (by decide) (Own.blk (n := 0) (c := 0) hb7 32 rfl (Nat.le_refl _) (by decide)) (Src.slice (hxl.parents.extNo hX) OneC.h) (by dsimp only [maxLen]; omega) (by dsimp only; omega) fun p103 c103 w103 ho103 hE103 hB103 => ⟨hC.trans hE103 (fun y hy hF => by have e : b7 = y := congrArg Addr.block (Option.some.inj hF); omega), ?_⟩)
          have hC := hC.trans hE103 (fun y hy hF => by have e : b7 = y := congrArg Addr.block (Option.some.inj hF); omega)
          dsimp only at ho103 hE103 hB103 ⊢
          have hbo103 := Own.blk (n := 0) (c := 0) hbsP 32 rfl (Nat.le_refl _) (by decide)
          have hb1 := hb1.extOwn hbo103 hE103 (show (31 : Nat) ≠ 48 from by decide)
          have hb2 := hb2.extOwn hbo103 hE103 (show (31 : Nat) ≠ 48 from by decide)
          try have hL := hL.extOwn hbo103 hE103 (show (31 : Nat) ≠ 50 from by decide)
          try have hR := hR.extOwn hbo103 hE103 (show (31 : Nat) ≠ 102 from by decide)
          try have hb11 := hb11.extOwn hbo103 hE103 (show (31 : Nat) ≠ 102 from by decide)
          have hX := hX0.trans hE103 fun y hy hF => by have e : b7 = y := congrArg Addr.block (Option.some.inj hF); omega
          obtain ⟨qP, kP, e1, e2, hP⟩ : ∃ q k, q = p103 ∧ k = c103 ∧ Own w103 q x.parents.length k 31 32 (x.parents.flatMap bytesU) := ⟨_, _, rfl, rfl, by have h := ho103; rw [Nat.zero_add] at h; exact h⟩
          have nP := newW hX0 (newB fr7) hB103
          rw [← e1] at nP
          rw [← e1, ← e2, Nat.zero_add]
          have hX0 := hX
          have hbsR := hb11
          refine wd_l rfl (st_app I_ok rfl 3 40 rfl rfl rfl (by decide) (Own.blk (n := 0) (c := 0) hb11 3 rfl (Nat.le_refl _) (by decide)) (Src.slice (hxl.rows.extNo hX) OneC.h) (by dsimp only [maxLen]; omega) (by dsimp only; omega) fun p104 c104 w104 ho104 hE104 hB104 => ⟨hC.trans hE104 (fun y hy hF => by have e : b11 = y := congrArg Addr.block (Option.some.inj hF); omega), ?_⟩)
          dsimp only at ho104 hE104 hB104 ⊢
          have hbo104 := Own.blk (n := 0) (c := 0) hbsR 3 rfl (Nat.le_refl _) (by decide)
          have hb1 := hb1.extOwn hbo104 hE104 (show (102 : Nat) ≠ 48 from by decide)
          have hb2 := hb2.extOwn hbo104 hE104 (show (102 : Nat) ≠ 48 from by decide)
          try have hL := hL.extOwn hbo104 hE104 (show (102 : Nat) ≠ 50 from by decide)
          try have hP := hP.extOwn hbo104 hE104 (show (102 : Nat) ≠ 31 from by decide)
          have hX := hX0.trans hE104 fun y hy hF => by have e : b11 = y := congrArg Addr.block (Option.some.inj hF); omega
          obtain ⟨qR, kR, e1, e2, hR⟩ : ∃ q k, q = p104 ∧ k = c104 ∧ Own w104 q x.rows.length k 102 3 (x.rows.flatMap ChgD.cells) := ⟨_, _, rfl, rfl, by have h := ho104; rw [Nat.zero_add] at h; exact h⟩
          have nR := newW hX0 (newB fr11) hB104
          rw [← e1] at nR
          rw [← e1, ← e2, Nat.zero_add]
          refine wd_sw ?_
          have hb1o := hb1
          refine wb rfl (st_st I_ok hb1 rfl rfl rfl fun w105 hb1 hE105 hs105 => ?_)
          have hb2 := hb2.ext1 hE105 ne1_2.symm
          have hL := hL.extTy hE105 hb1o (by decide)
          have hP := hP.extTy hE105 hb1o (by decide)
          have hR := hR.extTy hE105 hb1o (by decide)
          have hX := hX.thenNew hE105 fr1
          have hb1 : Blk w105 b1 48 (objC x ⟨qL, kL, a.pp, a.pc, a.rp, a.rc⟩) := hb1
          refine wb rfl (st_p I_ok rfl rfl rfl ?_)
          have hb1o := hb1
          refine wb rfl (st_set I_ok hb1 rfl rfl (by rw [objC_len hx]; decide) fun w106 hb1 hE106 hs106 => ?_)
          have hb2 := hb2.ext1 hE106 ne1_2.symm
          have hL := hL.extTy hE106 hb1o (by decide)
          have hP := hP.extTy hE106 hb1o (by decide)
          have hR := hR.extTy hE106 hb1o (by decide)
          have hX := hX.thenNew hE106 fr1
          have hb1 : Blk w106 b1 48 (objC x ⟨qL, kL, qP, kP, a.rp, a.rc⟩) := (by have h : Blk _ b1 _ ((objC x ⟨qL, kL, a.pp, a.pc, a.rp, a.rc⟩).set (68 + 0) (.slice qP x.parents.length kP)) := hb1; rw [objC_parents hx] at h; exact h)
          refine wb rfl (st_p I_ok rfl rfl rfl (wb rfl (st_p I_ok rfl rfl rfl ?_)))
          have hb1o := hb1
          refine wb rfl (st_set I_ok hb1 rfl rfl (by rw [objC_len hx]; decide) fun w107 hb1 hE107 hs107 => ?_)
          have hb2 := hb2.ext1 hE107 ne1_2.symm
          have hL := hL.extTy hE107 hb1o (by decide)
          have hP := hP.extTy hE107 hb1o (by decide)
          have hR := hR.extTy hE107 hb1o (by decide)
          have hX := hX.thenNew hE107 fr1
          have hb1 : Blk w107 b1 48 (objC x ⟨qL, kL, qP, kP, qR, kR⟩) := (by have h : Blk _ b1 _ ((objC x ⟨qL, kL, qP, kP, a.rp, a.rc⟩).set (68 + 1) (.slice qR x.rows.length kR)) := hb1; rw [objC_rows hx] at h; exact h)
          refine wb_nil ?_
          exact f_cut (⟨qL, kL, qP, kP, qR, kR⟩) rfl ⟨⟨hL, hP, hR, nL, nP, nR⟩, hb1, hb2, hX⟩
      · refine st_bs I_ok rfl 32 rfl idZ_c.symm (by rw [bytesU_len]; rfl) (by decide) (by decide) trivial (l' := []) rfl fun b7 w108 hn7 hb7 hE108 hs108 => ⟨hC.thenNo hE108, ?_⟩
        have fr7 := Nat.le_trans hX.size hn7
        have frhC7 := Nat.le_trans hC.size hn7
        have hb1 := hb1.extNo hE108
        have hb2 := hb2.extNo hE108
        have hb11 := hb11.extNo hE108
        have hX := hX.thenNo hE108
        have hC := hC.thenNo hE108
        refine wx_plan [(0, false), (3, false), (13, true), (7, false), (12, false)] 0 rfl (by kernel_rfl) ?_
        refine wd_l rfl (st_bs I_ok rfl 33 rfl leafZ_c (LeafD.len rfl) (by decide) (by decide) trivial (l' := []) rfl fun b3 w109 hn3 hb3 hE109 hs109 => ⟨hC.thenNo hE109, ?_⟩)
        have fr3 := Nat.le_trans hX.size hn3
        have frhC3 := Nat.le_trans hC.size hn3
        have hb1 := hb1.extNo hE109
        have hb2 := hb2.extNo hE109
        have hb11 := hb11.extNo hE109
        have hb7 := hb7.extNo hE109
        have hX := hX.thenNo hE109
        have hC := hC.thenNo hE109
        have hX0 := hX
        have hbsL := hb3
        refine wd_l rfl (st_app I_ok rfl 33 48 rfl rfl rfl (by decide) (Own.blk (n := 0) (c := 0) hb3 33 rfl (Nat.le_refl _) (by decide)) (Src.slice (hxl.leaves.extNo hX) OneC.h) (by dsimp only [maxLen]; omega) (by dsimp only; omega) fun p110 c110 w110 ho110 hE110 hB110 => ⟨hC.trans hE110 (fun y hy hF => by have e : b3 = y := congrArg Addr.block (Option.some.inj hF); omega), ?_⟩)
        have hC := hC.trans hE110 (fun y hy hF => by have e : b3 = y := congrArg Addr.block (Option.some.inj hF); omega)
        dsimp only at ho110 hE110 hB110 ⊢
        have hbo110 := Own.blk (n := 0) (c := 0) hbsL 33 rfl (Nat.le_refl _) (by decide)
        have hb1 := hb1.extOwn hbo110 hE110 (show (50 : Nat) ≠ 48 from by decide)
        have hb2 := hb2.extOwn hbo110 hE110 (show (50 : Nat) ≠ 48 from by decide)
        try have hP := hP.extOwn hbo110 hE110 (show (50 : Nat) ≠ 31 from by decide)
        try have hR := hR.extOwn hbo110 hE110 (show (50 : Nat) ≠ 102 from by decide)
        try have hb7 := hb7.extOwn hbo110 hE110 (show (50 : Nat) ≠ 31 from by decide)
        try have hb11 := hb11.extOwn hbo110 hE110 (show (50 : Nat) ≠ 102 from by decide)
        have hX := hX0.trans hE110 fun y hy hF => by have e : b3 = y := congrArg Addr.block (Option.some.inj hF); omega
        obtain ⟨qL, kL, e1, e2, hL⟩ : ∃ q k, q = p110 ∧ k = c110 ∧ Own w110 q x.leaves.length k 50 33 (x.leaves.flatMap LeafD.cells) := ⟨_, _, rfl, rfl, by have h := ho110; rw [Nat.zero_add] at h; exact h⟩
        have nL := newW hX0 (newB fr3) hB110
        rw [← e1] at nL
        rw [← e1, ← e2, Nat.zero_add]
        refine wd_k I_ok 1 rfl ?_
        have hX0 := hX
        have hbsP := hb7
        refine wd_l rfl (st_app I_ok rfl 32 32 rfl rfl rfl (by decide) (Own.blk (n := 0) (c := 0) hb7 32 rfl (Nat.le_refl _) (by decide)) (Src.slice (hxl.parents.extNo hX) OneC.h) (by dsimp only [maxLen]; omega) (by dsimp only; omega) fun p111 c111 w111 ho111 hE111 hB111 => ⟨hC.trans hE111 (fun y hy hF => by have e : b7 = y := congrArg Addr.block (Option.some.inj hF); omega), ?_⟩)
        have hC := hC.trans hE111 (fun y hy hF => by have e : b7 = y := congrArg Addr.block (Option.some.inj hF); omega)
        dsimp only at ho111 hE111 hB111 ⊢
        have hbo111 := Own.blk (n := 0) (c := 0) hbsP 32 rfl (Nat.le_refl _) (by decide)
        have hb1 := hb1.extOwn hbo111 hE111 (show (31 : Nat) ≠ 48 from by decide)
        have hb2 := hb2.extOwn hbo111 hE111 (show (31 : Nat) ≠ 48 from by decide)
        try have hL := hL.extOwn hbo111 hE111 (show (31 : Nat) ≠ 50 from by decide)
        try have hR := hR.extOwn hbo111 hE111 (show (31 : Nat) ≠ 102 from by decide)
        try have hb11 := hb11.extOwn hbo111 hE111 (show (31 : Nat) ≠ 102 from by decide)
        have hX := hX0.trans hE111 fun y hy hF => by have e : b7 = y := congrArg Addr.block (Option.some.inj hF); omega
        obtain ⟨qP, kP, e1, e2, hP⟩ : ∃ q k, q = p111 ∧ k = c111 ∧ Own w111 q x.parents.length k 31 32 (x.parents.flatMap bytesU) := ⟨_, _, rfl, rfl, by have h := ho111; rw [Nat.zero_add] at h; exact h⟩
        have nP := newW hX0 (newB fr7) hB111
        rw [← e1] at nP
        rw [← e1, ← e2, Nat.zero_add]
        have hX0 := hX
        have hbsR := hb11
        refine wd_l rfl (st_app I_ok rfl 3 40 rfl rfl rfl (by decide) (Own.blk (n := 0) (c := 0) hb11 3 rfl (Nat.le_refl _) (by decide)) (Src.slice (hxl.rows.extNo hX) OneC.h) (by dsimp only [maxLen]; omega) (by dsimp only; omega) fun p112 c112 w112 ho112 hE112 hB112 => ⟨hC.trans hE112 (fun y hy hF => by have e : b11 = y := congrArg Addr.block (Option.some.inj hF); omega), ?_⟩)
        dsimp only at ho112 hE112 hB112 ⊢
        have hbo112 := Own.blk (n := 0) (c := 0) hbsR 3 rfl (Nat.le_refl _) (by decide)
        have hb1 := hb1.extOwn hbo112 hE112 (show (102 : Nat) ≠ 48 from by decide)
        have hb2 := hb2.extOwn hbo112 hE112 (show (102 : Nat) ≠ 48 from by decide)
        try have hL := hL.extOwn hbo112 hE112 (show (102 : Nat) ≠ 50 from by decide)
        try have hP := hP.extOwn hbo112 hE112 (show (102 : Nat) ≠ 31 from by decide)
        have hX := hX0.trans hE112 fun y hy hF => by have e : b11 = y := congrArg Addr.block (Option.some.inj hF); omega
        obtain ⟨qR, kR, e1, e2, hR⟩ : ∃ q k, q = p112 ∧ k = c112 ∧ Own w112 q x.rows.length k 102 3 (x.rows.flatMap ChgD.cells) := ⟨_, _, rfl, rfl, by have h := ho112; rw [Nat.zero_add] at h; exact h⟩
        have nR := newW hX0 (newB fr11) hB112
        rw [← e1] at nR
        rw [← e1, ← e2, Nat.zero_add]
        refine wd_sw ?_
        have hb1o := hb1
        refine wb rfl (st_st I_ok hb1 rfl rfl rfl fun w113 hb1 hE113 hs113 => ?_)
        have hb2 := hb2.ext1 hE113 ne1_2.symm
        have hL := hL.extTy hE113 hb1o (by decide)
        have hP := hP.extTy hE113 hb1o (by decide)
        have hR := hR.extTy hE113 hb1o (by decide)
        have hX := hX.thenNew hE113 fr1
        have hb1 : Blk w113 b1 48 (objC x ⟨qL, kL, a.pp, a.pc, a.rp, a.rc⟩) := hb1
        refine wb rfl (st_p I_ok rfl rfl rfl ?_)
        have hb1o := hb1
        refine wb rfl (st_set I_ok hb1 rfl rfl (by rw [objC_len hx]; decide) fun w114 hb1 hE114 hs114 => ?_)
        have hb2 := hb2.ext1 hE114 ne1_2.symm
        have hL := hL.extTy hE114 hb1o (by decide)
        have hP := hP.extTy hE114 hb1o (by decide)
        have hR := hR.extTy hE114 hb1o (by decide)
        have hX := hX.thenNew hE114 fr1
        have hb1 : Blk w114 b1 48 (objC x ⟨qL, kL, qP, kP, a.rp, a.rc⟩) := (by have h : Blk _ b1 _ ((objC x ⟨qL, kL, a.pp, a.pc, a.rp, a.rc⟩).set (68 + 0) (.slice qP x.parents.length kP)) := hb1; rw [objC_parents hx] at h; exact h)
        refine wb rfl (st_p I_ok rfl rfl rfl (wb rfl (st_p I_ok rfl rfl rfl ?_)))
        have hb1o := hb1
        refine wb rfl (st_set I_ok hb1 rfl rfl (by rw [objC_len hx]; decide) fun w115 hb1 hE115 hs115 => ?_)
        have hb2 := hb2.ext1 hE115 ne1_2.symm
        have hL := hL.extTy hE115 hb1o (by decide)
        have hP := hP.extTy hE115 hb1o (by decide)
        have hR := hR.extTy hE115 hb1o (by decide)
        have hX := hX.thenNew hE115 fr1
        have hb1 : Blk w115 b1 48 (objC x ⟨qL, kL, qP, kP, qR, kR⟩) := (by have h : Blk _ b1 _ ((objC x ⟨qL, kL, qP, kP, a.rp, a.rc⟩).set (68 + 1) (.slice qR x.rows.length kR)) := hb1; rw [objC_rows hx] at h; exact h)
        refine wb_nil ?_
        exact f_cut (⟨qL, kL, qP, kP, qR, kR⟩) rfl ⟨⟨hL, hP, hR, nL, nP, nR⟩, hb1, hb2, hX⟩
  rintro a' w116 ⟨hN, hb1, hb2, hX⟩
  refine c_seq (c_region (wl (st_ldB I_ok hb1 rfl (objC_len hx) ?_)))
  have hb2o := hb2
  refine wl (st_stW (l' := objC x a') I_ok hb2 rfl rfl (objC_len hx) (objC_len hx) OneC.h fun w117 hb2 hE117 hs117 => ?_)
  have hN := hN.ext1 hE117 hb2o (by decide) (by decide) (by decide)
  have hX := hX.thenNew hE117 fr2
  refine wl_nil (f_then (c_ret (f_ret [_] ⟨⟨b2, 0, rfl, ld_all I_ok rfl rfl hb2.seg (objC_len hx)⟩, trivial⟩ ?_)))
  exact ⟨a', rfl, hN, hX⟩
end Go.Proofs.YtpcdihkcenfgkaaGreat
namespace Go.Vc
abbrev IdB := List UInt8
abbrev Hp := List (IdB × ObjD)
def Hp.get (h : Hp) (x : IdB) : Option ObjD := (h.find? fun e => decide (e.1 = x)).map (·.2)
def Hp.err (h : Hp) (x : IdB) : Int := match h.get x with
  | none => 4
  | some o => if ObjOk o then 0 else 160
def Hp.obj (h : Hp) (x : IdB) : ObjD := match h.get x with
  | none => objZ
  | some o => if ObjOk o then o else objZ
/-- the object of a kind -/
def Hp.kErr (h : Hp) (x : IdB) (k : Int) : Int := if h.err x = 0 ∧ (h.obj x).kind ≠ k then 160 else h.err x
def Hp.kObj (h : Hp) (x : IdB) (k : Int) : ObjD := if h.err x = 0 ∧ (h.obj x).kind ≠ k then objZ else h.obj x
/-- the map of a tree -/
def Hp.txErr (h : Hp) (L : List LeafD) : Int := match L.find? (fun l => decide (h.kErr l.id 1 ≠ 0)) with
  | none => 0
  | some l => h.kErr l.id 1
def Hp.rowsOf (h : Hp) (L : List LeafD) : List RowD := L.map fun l => ⟨l.path, (h.kObj l.id 1).text⟩
def Hp.mapE (h : Hp) (x : IdB) : Int := if h.kErr x 2 ≠ 0 then h.kErr x 2 else h.txErr (h.kObj x 2).leaves
def Hp.map (h : Hp) (x : IdB) : List RowD := if h.mapE x ≠ 0 then [] else h.rowsOf (h.kObj x 2).leaves
theorem Hp.txErr_ok {h : Hp} {L : List LeafD} (hL : ∀ l ∈ L, h.kErr l.id 1 = 0) : h.txErr L = 0 := by
  unfold Hp.txErr
  rw [List.find?_eq_none.2 fun l hl => by simp [hL l hl]]
theorem Hp.txErr_bad {h : Hp} {L : List LeafD} {i : Nat} (hi : i < L.length) (hL : ∀ l ∈ L.take i, h.kErr l.id 1 = 0) (hb : h.kErr L[i].id 1 ≠ 0) : h.txErr L = h.kErr L[i].id 1 := by
  unfold Hp.txErr
  have e : L.find? (fun l => decide (h.kErr l.id 1 ≠ 0)) = some L[i] := by
    rw [List.find?_eq_some_iff_append]
    refine ⟨by simpa using hb, L.take i, L.drop (i + 1), by simp, fun l hl => by simp [hL l hl]⟩
  rw [e]
/-- where links lead -/
def Hp.links (h : Hp) (x : IdB) : List IdB := linksOf (h.obj x)
inductive Hp.Leads (h : Hp) (x : IdB) : IdB → Prop
  | here : Hp.Leads h x x
  | on {y z : IdB} : Hp.Leads h x y → z ∈ h.links y → Hp.Leads h x z
def Hp.all (h : Hp) (x : IdB) : List IdB := x :: h.flatMap fun e => linksOf e.2
theorem Hp.obj_mem (h : Hp) (x : IdB) : h.obj x = objZ ∨ ∃ e ∈ h, h.obj x = e.2 := by
  unfold Hp.obj Hp.get
  cases hf : h.find? fun e => decide (e.1 = x) with
  | none => exact .inl rfl
  | some e =>
    simp only [Option.map_some]
    split
    · exact .inr ⟨e, List.mem_of_find?_eq_some hf, rfl⟩
    · exact .inl rfl
theorem linksOf_objZ : linksOf objZ = [] := rfl
theorem Hp.links_all (h : Hp) (x y : IdB) : ∀ z ∈ h.links y, z ∈ h.all x := fun z hz => by
  unfold Hp.links at hz
  rcases h.obj_mem y with e | ⟨e, he, e'⟩
  · rw [e, linksOf_objZ] at hz; cases hz
  · rw [e'] at hz
    exact List.mem_cons_of_mem _ (List.mem_flatMap.2 ⟨e, he, hz⟩)
theorem Hp.Leads.all {h : Hp} {x y : IdB} (hl : h.Leads x y) : y ∈ h.all x := by
  cases hl with
  | here => exact List.mem_cons_self
  | on _ hz => exact h.links_all x _ _ hz
theorem Hp.Leads.sub {h : Hp} {x : IdB} {S : IdB → Prop} (hx : S x) (hS : ∀ y, S y → ∀ z ∈ h.links y, S z) : ∀ y, h.Leads x y → S y := fun y hy => by
  induction hy with
  | here => exact hx
  | on _ hz ih => exact hS _ ih _ hz

/-! ### Rising rows of Ids -/
def idLt (a b : IdB) : Prop := Op.bytesLess a b = true
instance (a b : IdB) : Decidable (idLt a b) := inferInstanceAs (Decidable (_ = true))
theorem idLt_irrefl (a : IdB) : ¬ idLt a a := fun h => bl_asymm a a h h
theorem idLt_asymm {a b : IdB} (h : idLt a b) : ¬ idLt b a := fun k => bl_asymm a b h k
theorem idLt_total (a b : IdB) : idLt a b ∨ a = b ∨ idLt b a := by
  rcases bl_total a b with (h | h) | h
  · exact .inl h
  · exact .inr (.inl h)
  · exact .inr (.inr h)
theorem bl_trans : ∀ (x y z : List UInt8), Op.bytesLess x y = true → Op.bytesLess y z = true → Op.bytesLess x z = true
  | [], [], _, h, _ => by cases h
  | [], _ :: _, [], _, h => by cases h
  | [], _ :: _, _ :: _, _, _ => rfl
  | _ :: _, [], _, h, _ => by cases h
  | _ :: _, _ :: _, [], _, h => by cases h
  | a :: x, b :: y, c :: z, h, k => by
    simp only [Op.bytesLess, Bool.or_eq_true, Bool.and_eq_true, decide_eq_true_eq, beq_iff_eq] at h k ⊢
    rcases h with h | ⟨rfl, h⟩
    · rcases k with k | ⟨rfl, k⟩
      · exact .inl (UInt8.lt_trans h k)
      · exact .inl h
    · rcases k with k | ⟨rfl, k⟩
      · exact .inl k
      · exact .inr ⟨rfl, bl_trans x y z h k⟩
theorem idLt_trans {a b c : IdB} (h : idLt a b) (k : idLt b c) : idLt a c := bl_trans a b c h k
def Rise (l : List IdB) : Prop := l.Pairwise idLt
/-- two sorted rows with the same in them are one -/
theorem sorted_one {α : Type} {R : α → α → Prop} (hirr : ∀ a, ¬ R a a) (hasym : ∀ a b, R a b → ¬ R b a) : ∀ {l m : List α}, l.Pairwise R → m.Pairwise R → (∀ x, x ∈ l ↔ x ∈ m) → l = m
  | [], [], _, _, _ => rfl
  | [], b :: m, _, _, h => by have := (h b).2 List.mem_cons_self; cases this
  | a :: l, [], _, _, h => by have := (h a).1 List.mem_cons_self; cases this
  | a :: l, b :: m, hl, hm, h => by
    have hl' := List.pairwise_cons.1 hl
    have hm' := List.pairwise_cons.1 hm
    have hab : a = b := by
      rcases List.mem_cons.1 ((h a).1 List.mem_cons_self) with e | e
      · exact e
      · rcases List.mem_cons.1 ((h b).2 List.mem_cons_self) with e' | e'
        · exact e'.symm
        · exact absurd (hl'.1 b e') (hasym _ _ (hm'.1 a e))
    subst hab
    congr 1
    refine sorted_one hirr hasym hl'.2 hm'.2 fun x => ⟨fun hx => ?_, fun hx => ?_⟩
    · rcases List.mem_cons.1 ((h x).1 (List.mem_cons_of_mem _ hx)) with e | e
      · subst e; exact absurd (hl'.1 _ hx) (hirr _)
      · exact e
    · rcases List.mem_cons.1 ((h x).2 (List.mem_cons_of_mem _ hx)) with e | e
      · subst e; exact absurd (hm'.1 _ hx) (hirr _)
      · exact e
theorem rise_one {l m : List IdB} (hl : Rise l) (hm : Rise m) (h : ∀ x, x ∈ l ↔ x ∈ m) : l = m := sorted_one idLt_irrefl (fun _ _ h => idLt_asymm h) hl hm h
def insId : List IdB → IdB → List IdB
  | [], x => [x]
  | y :: r, x => if idLt x y then x :: y :: r else y :: insId r x
def withId (l : List IdB) (x : IdB) : List IdB := if x ∈ l then l else insId l x
theorem insId_mem (x : IdB) : ∀ (l : List IdB) (y : IdB), y ∈ insId l x ↔ y = x ∨ y ∈ l
  | [], y => by simp [insId]
  | z :: r, y => by
    unfold insId
    split
    · simp
    · simp only [List.mem_cons, insId_mem x r y]
      constructor
      · rintro (h | h | h); exact .inr (.inl h); exact .inl h; exact .inr (.inr h)
      · rintro (h | h | h); exact .inr (.inl h); exact .inl h; exact .inr (.inr h)
theorem insId_rise (x : IdB) : ∀ {l : List IdB}, Rise l → x ∉ l → Rise (insId l x)
  | [], _, _ => by unfold insId Rise; simp
  | z :: r, h, hx => by
    have h' := List.pairwise_cons.1 h
    unfold insId
    split
    · rename_i hlt
      refine List.pairwise_cons.2 ⟨fun y hy => ?_, h⟩
      rcases List.mem_cons.1 hy with rfl | hy
      · exact hlt
      · exact idLt_trans hlt (h'.1 y hy)
    · rename_i hlt
      refine List.pairwise_cons.2 ⟨fun y hy => ?_, insId_rise x h'.2 fun e => hx (List.mem_cons_of_mem _ e)⟩
      rcases (insId_mem x r y).1 hy with rfl | hy
      · rcases idLt_total z y with e | e | e
        · exact e
        · exact absurd (e ▸ List.mem_cons_self) hx
        · exact absurd e hlt
      · exact h'.1 y hy
theorem withId_mem (l : List IdB) (x y : IdB) : y ∈ withId l x ↔ y = x ∨ y ∈ l := by
  unfold withId
  split
  · rename_i h; exact ⟨.inr, fun e => e.elim (fun e => e ▸ h) id⟩
  · exact insId_mem x l y
theorem withId_rise {l : List IdB} (h : Rise l) (x : IdB) : Rise (withId l x) := by
  unfold withId
  split
  · exact h
  · rename_i hx; exact insId_rise x h hx
theorem foldWith_mem : ∀ (xs l : List IdB) (y : IdB), y ∈ xs.foldl withId l ↔ y ∈ xs ∨ y ∈ l
  | [], l, y => by simp
  | x :: r, l, y => by
    rw [List.foldl_cons, foldWith_mem r, withId_mem, List.mem_cons]
    constructor
    · rintro (h | h | h); exact .inl (.inr h); exact .inl (.inl h); exact .inr h
    · rintro ((h | h) | h); exact .inr (.inl h); exact .inl h; exact .inr (.inr h)
theorem foldWith_rise : ∀ (xs : List IdB) {l : List IdB}, Rise l → Rise (xs.foldl withId l)
  | [], _, h => h
  | x :: r, _, h => foldWith_rise r (withId_rise h x)
/-- a rising row that has as many as another one in which all of it is, is that -/
theorem rise_nodup {l : List IdB} (h : Rise l) : l.Nodup := List.Pairwise.imp (fun {a b} (hab : idLt a b) (e : a = b) => idLt_irrefl b (e ▸ hab)) h
theorem sub_len {l m : List IdB} (hl : l.Nodup) (hs : ∀ x ∈ l, x ∈ m) : l.length ≤ m.length := by
  induction l generalizing m with
  | nil => exact Nat.zero_le _
  | cons a l ih =>
    have hl' := List.nodup_cons.1 hl
    have ha := hs a List.mem_cons_self
    have := ih hl'.2 (m := m.erase a) fun x hx => by
      have hne : x ≠ a := fun e => hl'.1 (e ▸ hx)
      exact (List.mem_erase_of_ne hne).2 (hs x (List.mem_cons_of_mem _ hx))
    rw [List.length_erase_of_mem ha] at this
    have h0 : 0 < m.length := List.length_pos_of_mem ha
    rw [List.length_cons]
    omega
theorem sub_all {l m : List IdB} (hl : l.Nodup) (_hm : m.Nodup) (hs : ∀ x ∈ l, x ∈ m) (hn : m.length ≤ l.length) : ∀ x ∈ m, x ∈ l := fun x hx => by
  refine Classical.byContradiction fun hnl => ?_
  have := sub_len (l := x :: l) (m := m) (List.nodup_cons.2 ⟨hnl, hl⟩) fun y hy => by
    rcases List.mem_cons.1 hy with rfl | hy
    · exact hx
    · exact hs y hy
  rw [List.length_cons] at this
  omega

/-! ### All that an Id leads to -/
open Classical in
noncomputable def Hp.led (h : Hp) (x : IdB) : List IdB := ((h.all x).filter fun y => decide (h.Leads x y)).foldl withId []
theorem Hp.led_rise (h : Hp) (x : IdB) : Rise (h.led x) := foldWith_rise _ List.Pairwise.nil
theorem Hp.led_mem (h : Hp) (x y : IdB) : y ∈ h.led x ↔ h.Leads x y := by
  unfold Hp.led
  rw [foldWith_mem]
  simp only [List.mem_filter, decide_eq_true_eq, List.not_mem_nil, or_false]
  exact ⟨fun e => e.2, fun e => ⟨e.all, e⟩⟩
theorem Hp.led_eq {h : Hp} {x : IdB} {L : List IdB} (hr : Rise L) (hm : ∀ y, y ∈ L ↔ h.Leads x y) : L = h.led x := rise_one hr (h.led_rise x) fun y => (hm y).trans (h.led_mem x y).symm
def Hp.waveGo (h : Hp) (ys acc : List IdB) : List IdB := ys.foldl (fun acc y => (h.links y).foldl withId acc) acc
theorem Hp.waveGo_mem (h : Hp) : ∀ (ys acc : List IdB) (z : IdB), z ∈ h.waveGo ys acc ↔ z ∈ acc ∨ ∃ y ∈ ys, z ∈ h.links y
  | [], acc, z => by simp [Hp.waveGo]
  | y :: r, acc, z => by
    show z ∈ h.waveGo r ((h.links y).foldl withId acc) ↔ _
    rw [Hp.waveGo_mem h r, foldWith_mem]
    constructor
    · rintro ((e | e) | ⟨u, hu, e⟩)
      · exact .inr ⟨y, List.mem_cons_self, e⟩
      · exact .inl e
      · exact .inr ⟨u, List.mem_cons_of_mem _ hu, e⟩
    · rintro (e | ⟨u, hu, e⟩)
      · exact .inl (.inr e)
      · rcases List.mem_cons.1 hu with rfl | hu
        · exact .inl (.inl e)
        · exact .inr ⟨u, hu, e⟩
theorem Hp.waveGo_rise (h : Hp) : ∀ (ys : List IdB) {acc : List IdB}, Rise acc → Rise (h.waveGo ys acc)
  | [], _, ha => ha
  | _y :: r, _, ha => Hp.waveGo_rise h r (foldWith_rise _ ha)
/-- what is on the way -/
structure Hp.Part (h : Hp) (x : IdB) (L : List IdB) : Prop where
  rise : Rise L
  has : x ∈ L
  led : ∀ y ∈ L, h.Leads x y
theorem Hp.Part.wave {h : Hp} {x : IdB} {L : List IdB} (hp : h.Part x L) : h.Part x (h.waveGo L L) := by
  refine ⟨h.waveGo_rise L hp.rise, (h.waveGo_mem L L x).2 (.inl hp.has), fun y hy => ?_⟩
  rcases (h.waveGo_mem L L y).1 hy with e | ⟨u, hu, e⟩
  · exact hp.led y e
  · exact .on (hp.led u hu) e
theorem Hp.Part.done {h : Hp} {x : IdB} {L : List IdB} (hp : h.Part x L) (hn : (h.waveGo L L).length = L.length) : L = h.led x := by
  refine Hp.led_eq hp.rise fun y => ⟨hp.led y, fun hy => ?_⟩
  have hall := sub_all (rise_nodup hp.rise) (rise_nodup hp.wave.rise) (fun z hz => (h.waveGo_mem L L z).2 (.inl hz)) (by omega)
  exact Hp.Leads.sub (S := fun z => z ∈ L) hp.has (fun u hu z hz => hall z ((h.waveGo_mem L L z).2 (.inr ⟨u, hu, hz⟩))) y hy
/-! ### Closed commits -/
def Hp.top (h : Hp) (l : List IdB) : Nat := l.foldl (fun t p => max t ((h.kObj p 3).number + 1)) 0
def Hp.ParOk (h : Hp) (o : ObjD) : Prop := (∀ p ∈ o.parents, h.kErr p 3 = 0 ∧ (h.kObj p 3).number < o.number) ∧ h.top o.parents = o.number
instance (h : Hp) (o : ObjD) : Decidable (h.ParOk o) := inferInstanceAs (Decidable (_ ∧ _))
def Hp.Good (h : Hp) (x : IdB) : Prop := h.err x = 0 ∧ ((h.obj x).kind = 3 → h.mapE (h.obj x).tree = 0 ∧ h.ParOk (h.obj x))
instance (h : Hp) (x : IdB) : Decidable (h.Good x) := inferInstanceAs (Decidable (_ ∧ _))
noncomputable def Hp.closed (h : Hp) (x : IdB) : Int := if h.kErr x 3 ≠ 0 then h.kErr x 3 else if ∀ y ∈ h.led x, h.Good y then 0 else 180
def Hp.num (h : Hp) (x : IdB) : Nat := (h.kObj x 3).number
end Go.Vc
namespace Go.Proofs.YtpcdihkcenfgkaaGreat
open Go.Vc
abbrev toHp (l : List HeldT) : Hp := l.map fun h => (h.id, h.o)
/-- a heap's row -/
structure HpIn (w : World) (p : Option Addr) (l : List HeldT) : Prop where
  sl : Sl w p l.length 105 (l.flatMap heldC)
  ins : ∀ h ∈ l, HeldIn w h
  len : l.length < 1000000
  lk : (l.flatMap fun e => linksOf e.o).length < 100000
theorem HpIn.extNo {w w' : World} {p : Option Addr} {l : List HeldT} (h : HpIn w p l) (hE : Ext No w w') : HpIn w' p l := ⟨h.sl.extNo hE, fun x hx => (h.ins x hx).extNo hE, h.len, h.lk⟩
theorem HpIn.c {w : World} {p : Option Addr} {l : List HeldT} (h : HpIn w p l) : ∀ x ∈ l, (heldC x).length = 105 := fun x hx => (h.ins x hx).c
/-- where the lists of an Id's object lie -/
def objP (l : List HeldT) (x : IdB) : ObjP := match l.find? fun h => decide (h.id = x) with
  | none => noP
  | some h => if ObjOk h.o then h.a else noP
def kObjP (l : List HeldT) (x : IdB) (k : Int) : ObjP := if (toHp l).err x = 0 ∧ ((toHp l).obj x).kind ≠ k then noP else objP l x
theorem find_at {l : List HeldT} {x : IdB} {i : Nat} (hi : i < l.length) (hno : ∀ k (hk : k < l.length), k < i → ¬ l[k].id = x) (he : l[i].id = x) : l.find? (fun h => decide (h.id = x)) = some l[i] := by
  rw [List.find?_eq_some_iff_append]
  refine ⟨by simpa using he, l.take i, l.drop (i + 1), ?_, fun e hm => ?_⟩
  · rw [← List.drop_eq_getElem_cons hi, List.take_append_drop]
  · obtain ⟨k, hk, rfl⟩ := List.mem_iff_getElem.1 hm
    rw [List.length_take] at hk
    have hk2 : k < l.length := by omega
    have := hno k hk2 (by omega)
    simp [this]
theorem find_no {l : List HeldT} {x : IdB} (hno : ∀ k (hk : k < l.length), k < l.length → ¬ l[k].id = x) : l.find? (fun h => decide (h.id = x)) = none := by
  rw [List.find?_eq_none]
  intro e hm
  obtain ⟨k, hk, rfl⟩ := List.mem_iff_getElem.1 hm
  have := hno k hk hk
  simp [this]
theorem get_find (l : List HeldT) (x : IdB) : (toHp l).get x = (l.find? fun h => decide (h.id = x)).map HeldT.o := by
  unfold Hp.get toHp
  rw [List.find?_map, Option.map_map]
  rfl
theorem get_at {l : List HeldT} {x : IdB} {i : Nat} (hi : i < l.length) (hno : ∀ k (hk : k < l.length), k < i → ¬ l[k].id = x) (he : l[i].id = x) : (toHp l).get x = some l[i].o := by rw [get_find, find_at hi hno he]; rfl
theorem get_no {l : List HeldT} {x : IdB} (hno : ∀ k (hk : k < l.length), k < l.length → ¬ l[k].id = x) : (toHp l).get x = none := by rw [get_find, find_no hno]; rfl
theorem objP_at {l : List HeldT} {x : IdB} {i : Nat} (hi : i < l.length) (hno : ∀ k (hk : k < l.length), k < i → ¬ l[k].id = x) (he : l[i].id = x) : (ObjOk l[i].o → objP l x = l[i].a) ∧ (¬ ObjOk l[i].o → objP l x = noP) := by
  unfold objP
  rw [find_at hi hno he]
  exact ⟨fun k => if_pos k, fun k => if_neg k⟩
theorem objP_no {l : List HeldT} {x : IdB} (hno : ∀ k (hk : k < l.length), k < l.length → ¬ l[k].id = x) : objP l x = noP := by
  unfold objP
  rw [find_no hno]
theorem Hp.obj_held {l : List HeldT} {x : IdB} : (toHp l).obj x = objZ ∨ ∃ h ∈ l, (toHp l).obj x = h.o := by
  rcases (toHp l).obj_mem x with e | ⟨e, he, e'⟩
  · exact .inl e
  · obtain ⟨h, hh, rfl⟩ := List.mem_map.1 he
    exact .inr ⟨h, hh, e'⟩
theorem HpIn.objIn {w : World} {p : Option Addr} {l : List HeldT} (h : HpIn w p l) (x : IdB) : ObjIn ((toHp l).obj x) := by
  rcases Hp.obj_held (l := l) (x := x) with e | ⟨y, hy, e⟩
  · rw [e]; exact objZ_in
  · rw [e]; exact (h.ins y hy).o
theorem HpIn.objSh {w : World} {p : Option Addr} {l : List HeldT} (h : HpIn w p l) (x : IdB) : Short ((toHp l).obj x) := by
  rcases Hp.obj_held (l := l) (x := x) with e | ⟨y, hy, e⟩
  · rw [e]; exact objZ_sh
  · rw [e]; exact (h.ins y hy).sh
theorem Hp.err_at {h : Hp} {x : IdB} {o : ObjD} (hg : h.get x = some o) : (ObjOk o → h.err x = 0 ∧ h.obj x = o) ∧ (¬ ObjOk o → h.err x = 160 ∧ h.obj x = objZ) := by
  unfold Hp.err Hp.obj
  rw [hg]
  exact ⟨fun k => ⟨if_pos k, if_pos k⟩, fun k => ⟨if_neg k, if_neg k⟩⟩
theorem HpIn.objL {w : World} {p : Option Addr} {l : List HeldT} (h : HpIn w p l) (x : IdB) : ObjL w ((toHp l).obj x) (objP l x) := by
  unfold Hp.obj objP
  rw [get_find]
  cases hf : l.find? fun h => decide (h.id = x) with
  | none => exact objZ_l w
  | some e =>
    simp only [Option.map_some]
    split
    · exact (h.ins e (List.mem_of_find?_eq_some hf)).l
    · exact objZ_l w
theorem HpIn.kObjL {w : World} {p : Option Addr} {l : List HeldT} (h : HpIn w p l) (x : IdB) (k : Int) : ObjL w ((toHp l).kObj x k) (kObjP l x k) := by
  unfold Hp.kObj kObjP
  split
  · exact objZ_l w
  · exact h.objL x
theorem Hp.err_no {h : Hp} {x : IdB} (hg : h.get x = none) : h.err x = 4 ∧ h.obj x = objZ := by
  unfold Hp.err Hp.obj
  rw [hg]
  exact ⟨rfl, rfl⟩
theorem get8_calls (w : World) {p : Option Addr} {c : Nat} {l : List HeldT} {x : IdB} (h : HpIn w p l) (hx : IdIn x) :
    CallsV Tryz.prog 41 [.agg #[.slice p l.length c], .agg (bytesU x).toArray] w fun v w' => v = .tuple #[.agg (objC ((toHp l).obj x) (objP l x)).toArray, .int .i64 ((toHp l).err x)] ∧ Ext No w w' := by
  have hlen := h.len
  refine calls_enter Tryz.func41 rfl rfl rfl rfl ?_
  have hX := Ext.refl No w
  refine c_seq (c_region (wl (st_al I_ok rfl fun b2 w1 hn2 hb2 hE1 => ?_)))
  have hX := hX.thenNo hE1
  have hb2 : Blk w1 b2 26 ([.slice p l.length c]) := hb2
  refine wl (st_al I_ok rfl fun b3 w2 hn3 hb3 hE2 => ?_)
  have hb2 := hb2.extNo hE2
  have hX := hX.thenNo hE2
  have hb3 : Blk w2 b3 31 (bytesU x) := hb3
  refine wl (st_al I_ok rfl fun b4 w3 hn4 hb4 hE3 => ?_)
  have fr4 := Nat.le_trans hX.size hn4
  have hb2 := hb2.extNo hE3
  have hb3 := hb3.extNo hE3
  have hX := hX.thenNo hE3
  refine wl_p I_ok rfl (wl_nil (f_then (c_seq (c_seq (c_region (wl_p I_ok rfl (wl (st_ldb I_ok hb2 rfl rfl (wl_p I_ok rfl (wl_nil (f_then (c_block ?_))))))))))))
  refine c_loopK (α := Nat) [3, 4, 9, 10] rfl (fun z => [(11, .int .i64 (z : Int))]) (fun z u => (z ≤ l.length ∧ ∀ k (hk : k < l.length), k < z → ¬ l[k].id = x) ∧ Blk u b2 26 ([.slice p l.length c]) ∧ Blk u b3 31 (bytesU x) ∧ Blk u b4 48 (cellsOf ti48.zero) ∧ Ext No w u) (fun z u => l.length - z) (0) rfl ⟨⟨Nat.zero_le _, fun k _ h => absurd h (Nat.not_lt_zero _)⟩, hb2, hb3, hb4, hX⟩ ?_
  rintro i w4 ⟨⟨hi, hno⟩, hb2, hb3, hb4, hX⟩
  refine c_seq (c_region (wl_p I_ok rfl (wl_nil (f_then (c_seq (c_if rfl (fun hc => ?_) (fun hc => ?_)))))))
  · have hi : i < l.length := by omega
    obtain ⟨qb, qoff, hp, hsq⟩ := h.sl.rowAll h.c (by omega)
    rw [hp] at hb2 ⊢
    have hni := h.ins _ (List.getElem_mem hi)
    refine c_skip (f_then (c_seq (c_block (c_seq (c_region (wl (st_ix I_ok rfl 105 rfl i rfl (by omega) (qoff + i * 105) rfl (wl (st_ldN I_ok rfl ((hsq i hi).extNo hX) hni.c (wl (st_al I_ok rfl fun b7 w5 hn7 hb7 hE5 => ?_)))))))))))
    have ne2_7 : b2 ≠ b7 := Nat.ne_of_lt (Nat.lt_of_lt_of_le hb2.lt hn7)
    have ne3_7 : b3 ≠ b7 := Nat.ne_of_lt (Nat.lt_of_lt_of_le hb3.lt hn7)
    have ne4_7 : b4 ≠ b7 := Nat.ne_of_lt (Nat.lt_of_lt_of_le hb4.lt hn7)
    have fr7 := Nat.le_trans hX.size hn7
    have hb2 := hb2.extNo hE5
    have hb3 := hb3.extNo hE5
    have hb4 := hb4.extNo hE5
    have hX := hX.thenNo hE5
    refine wl (st_stW (l' := heldC l[i]) I_ok hb7 rfl rfl hni.c (by rw [hni.c]; rfl) OneC.h fun w6 hb7 hE6 hs6 => ?_)
    have hb2 := hb2.ext1 hE6 ne2_7
    have hb3 := hb3.ext1 hE6 ne3_7
    have hb4 := hb4.ext1 hE6 ne4_7
    have hX := hX.thenNew hE6 fr7
    refine wl_nil (f_then (c_seq (c_seq (c_region (wl_p I_ok rfl (wl (st_ldN I_ok rfl (held_id hb7.seg) (IdIn.len hni.id) (wl (st_ldB I_ok hb3 rfl hx.len ?_)))))))))
    refine wl (st_eqK rfl gId 10 (by decide) kId (idForm hni.id) (idForm hx) (idKey hni.id) (idKey hx) idLits_inj ?_)
    simp only [Bool.false_eq_true, if_false]
    refine wl_nil (f_then (c_if rfl (fun hc => ?_) (fun hc => ?_)))
    · refine c_exit ?_
      refine f_thenE (f_blockE (f_then (c_region (wl_p I_ok rfl ?_))))
      rw [IntWalk.i64_in _ (by omega)]
      refine wl_nil ?_
      exact f_round (i + 1) rfl ⟨⟨by omega, fun k hk hlt => (Nat.lt_or_eq_of_le (Nat.le_of_lt_succ hlt)).elim (fun h => hno k hk h) fun h => by subst h; exact hc⟩, hb2, hb3, hb4, hX⟩ (by first | omega | (dsimp only; omega))
    · have he : l[i].id = x := Decidable.not_not.1 hc
      have hg := get_at hi hno he
      obtain ⟨e1, e2⟩ := Hp.err_at hg
      obtain ⟨e3, e4⟩ := objP_at hi hno he
      refine c_skip (f_then (c_seq (c_seq (c_region (wl_p I_ok rfl (wl (st_ldN I_ok rfl (held_obj hb7.seg hni.id) (objC_len hni.o) ?_)))))))
      refine wl (st_call Tryz.call59 rfl rfl rfl rfl rfl rfl (right6_calls w6 hni.o (hni.l.extNo hX) hni.sh) fun v7 w7 hr7 => ?_)
      obtain ⟨rfl, hE7⟩ := hr7
      have hb4 := hb4.extNo hE7
      have hb7 := hb7.extNo hE7
      have hX := hX.thenNo hE7
      refine wl_p I_ok rfl (wl_nil (f_then (c_cond rfl (fun hc => ?_) (fun hc => ?_))))
      · have hk : ¬ ObjOk l[i].o := by simpa using hc
        obtain ⟨e1, e2⟩ := e2 hk
        have e3 := e4 hk
        refine c_seq (c_region (wl (st_bd I_ok rfl trivial (l' := objC objZ noP) objZ_c.symm (wl (st_stW (l' := objC objZ noP) I_ok hb4 rfl rfl rfl rfl OneC.h fun w8 hb4 hE8 hs8 => ?_)))))
        have hX := hX.thenNew hE8 fr4
        refine wl_p I_ok rfl (wl_nil (f_then (c_ret (f_thenR (f_blockR (f_thenR (f_thenR (f_blockR (f_thenR (f_ret [_, _] ⟨⟨b4, 0, rfl, ld_all I_ok rfl rfl hb4.seg rfl⟩, rfl, trivial⟩ ?_))))))))))
        exact ⟨by rw [e1, e2, e3]; rfl, hX⟩
      · have hk : ObjOk l[i].o := by simpa using hc
        obtain ⟨e1, e2⟩ := e1 hk
        have e3 := e3 hk
        refine c_skip (f_then (c_seq (c_region (wl_p I_ok rfl (wl (st_ldN I_ok rfl (held_obj hb7.seg hni.id) (objC_len hni.o) ?_))))))
        refine wl (st_stW (l' := objC l[i].o l[i].a) I_ok hb4 rfl rfl (objC_len hni.o) (by rw [objC_len hni.o]; rfl) OneC.h fun w9 hb4 hE9 hs9 => ?_)
        have hX := hX.thenNew hE9 fr4
        refine wl_p I_ok rfl (wl_nil (f_then (c_ret (f_blockR (f_thenR (f_thenR (f_blockR (f_thenR (f_ret [_, _] ⟨⟨b4, 0, rfl, ld_all I_ok rfl rfl hb4.seg (by rw [objC_len hni.o]; rfl)⟩, rfl, trivial⟩ ?_)))))))))
        exact ⟨by rw [e1, e2, e3]; rfl, hX⟩
  · have hi0 : i = l.length := by omega
    subst hi0
    have hg := get_no hno
    obtain ⟨e1, e2⟩ := Hp.err_no hg
    have e3 := objP_no hno
    refine c_exit (f_thenE (f_thenE (f_blockE (f_then (c_seq (c_region (wl (st_bd I_ok rfl trivial (l' := objC objZ noP) objZ_c.symm (wl (st_stW (l' := objC objZ noP) I_ok hb4 rfl rfl rfl rfl OneC.h fun w10 hb4 hE10 hs10 => ?_))))))))))
    have hX := hX.thenNew hE10 fr4
    refine wl_p I_ok rfl (wl_nil (f_then (c_ret (f_ret [_, _] ⟨⟨b4, 0, rfl, ld_all I_ok rfl rfl hb4.seg rfl⟩, rfl, trivial⟩ ?_))))
    exact ⟨by rw [e1, e2, e3]; rfl, hX⟩
end Go.Proofs.YtpcdihkcenfgkaaGreat
namespace Go.Proofs.YtpcdihkcenfgkaaGreat
open Go.Vc
theorem HpIn.kIn {w : World} {p : Option Addr} {l : List HeldT} (h : HpIn w p l) (x : IdB) (k : Int) : ObjIn ((toHp l).kObj x k) := by
  unfold Hp.kObj
  split
  · exact objZ_in
  · exact h.objIn x
theorem HpIn.kSh {w : World} {p : Option Addr} {l : List HeldT} (h : HpIn w p l) (x : IdB) (k : Int) : Short ((toHp l).kObj x k) := by
  unfold Hp.kObj
  split
  · exact objZ_sh
  · exact h.objSh x
theorem of8_calls (w : World) {p : Option Addr} {c : Nat} {l : List HeldT} {x : IdB} (h : HpIn w p l) (hx : IdIn x) (kd : Int) :
    CallsV Tryz.prog 66 [.agg #[.slice p l.length c], .agg (bytesU x).toArray, .int .i64 kd] w fun v w' => v = .tuple #[.agg (objC ((toHp l).kObj x kd) (kObjP l x kd)).toArray, .int .i64 ((toHp l).kErr x kd)] ∧ Ext No w w' := by
  refine calls_enter Tryz.func66 rfl rfl rfl rfl ?_
  have hX := Ext.refl No w
  refine c_seq (c_region (wl (st_al I_ok rfl fun b3 w1 hn3 hb3 hE1 => ?_)))
  have hX := hX.thenNo hE1
  have hb3 : Blk w1 b3 26 ([.slice p l.length c]) := hb3
  refine wl (st_al I_ok rfl fun b4 w2 hn4 hb4 hE2 => ?_)
  have hb3 := hb3.extNo hE2
  have hX := hX.thenNo hE2
  have hb4 : Blk w2 b4 31 (bytesU x) := hb4
  refine wl (st_al I_ok rfl fun b6 w3 hn6 hb6 hE3 => ?_)
  have fr6 := Nat.le_trans hX.size hn6
  have hb3 := hb3.extNo hE3
  have hb4 := hb4.extNo hE3
  have hX := hX.thenNo hE3
  refine wl_p I_ok rfl (wl_nil (f_then (c_seq (c_region (wl (st_ldB I_ok hb3 rfl rfl (wl (st_ldB I_ok hb4 rfl (IdIn.len hx) (wl (st_call Tryz.call41 rfl rfl rfl rfl rfl rfl (get8_calls w3 (h.extNo hX) hx) fun v4 w4 hr4 => ?_))))))))))
  obtain ⟨rfl, hE4⟩ := hr4
  have hb6 := hb6.extNo hE4
  have hX := hX.thenNo hE4
  refine wl_p I_ok rfl (wl (st_al I_ok rfl fun b8 w5 hn8 hb8 hE5 => ?_))
  have ne6_8 : b6 ≠ b8 := Nat.ne_of_lt (Nat.lt_of_lt_of_le hb6.lt hn8)
  have fr8 := Nat.le_trans hX.size hn8
  have hb6 := hb6.extNo hE5
  have hX := hX.thenNo hE5
  refine wl (st_stW (l' := objC ((toHp l).obj x) (objP l x)) I_ok hb8 rfl rfl (objC_len (h.objIn x)) (by rw [objC_len (h.objIn x)]; rfl) OneC.h fun w6 hb8 hE6 hs6 => ?_)
  have hb6 := hb6.ext1 hE6 ne6_8
  have hX := hX.thenNew hE6 fr8
  refine wl_p I_ok rfl (wl_nil (f_then (c_seq (c_cutK (α := Bool) [6, 8, 9] rfl (fun z => [(23, .bool z)]) (fun z u => u = w6 ∧ z = decide ((toHp l).err x = 0 ∧ ((toHp l).obj x).kind ≠ kd)) ?_ ?_))))
  · refine c_region ?_
    refine wl_p I_ok rfl (wl_caseD 18 rfl (fun hg => ?_) (fun hg => ?_))
    · refine wl_pk I_ok 1 rfl ?_
      refine wl (st_ld I_ok rfl (hb8.seg.obj (h.objIn x)).kind (wl_pk I_ok 3 rfl (wl_nil ?_)))
      exact f_cut (_) rfl ⟨rfl, by rw [decide_eq_decide]; exact ⟨fun k => ⟨hg, k⟩, fun k => k.2⟩⟩
    · refine wl_pk I_ok 5 rfl ?_
      refine wl_nil ?_
      exact f_cut (false) rfl ⟨rfl, by symm; rw [decide_eq_false_iff_not]; exact fun k => hg k.1⟩
  rintro z w7 ⟨hu, rfl⟩
  have hu := hu.symm
  subst hu
  refine c_if rfl (fun hc => ?_) (fun hc => ?_)
  · have e1 : (toHp l).kErr x kd = 160 := if_pos hc
    have e2 : (toHp l).kObj x kd = objZ := if_pos hc
    have e3 : kObjP l x kd = noP := if_pos hc
    refine c_seq (c_region (wl (st_bd I_ok rfl trivial (l' := objC objZ noP) objZ_c.symm (wl (st_stW (l' := objC objZ noP) I_ok hb6 rfl rfl rfl rfl OneC.h fun w8 hb6 hE8 hs8 => ?_)))))
    have hX := hX.thenNew hE8 fr6
    refine wl_p I_ok rfl (wl_nil (f_then (c_ret (f_thenR (f_ret [_, _] ⟨⟨b6, 0, rfl, ld_all I_ok rfl rfl hb6.seg rfl⟩, rfl, trivial⟩ ?_)))))
    exact ⟨by rw [e1, e2, e3]; rfl, hX⟩
  · have e1 : (toHp l).kErr x kd = (toHp l).err x := if_neg hc
    have e2 : (toHp l).kObj x kd = (toHp l).obj x := if_neg hc
    have e3 : kObjP l x kd = objP l x := if_neg hc
    refine c_skip (f_then (c_seq (c_region (wl (st_ldB I_ok hb8 rfl (objC_len (h.objIn x)) (wl_p I_ok rfl ?_))))))
    refine wl (st_stW (l' := objC ((toHp l).obj x) (objP l x)) I_ok hb6 rfl rfl (objC_len (h.objIn x)) (by rw [objC_len (h.objIn x)]; rfl) OneC.h fun w9 hb6 hE9 hs9 => ?_)
    have hX := hX.thenNew hE9 fr6
    refine wl_p I_ok rfl (wl_nil (f_then (c_ret (f_ret [_, _] ⟨⟨b6, 0, rfl, ld_all I_ok rfl rfl hb6.seg (by rw [objC_len (h.objIn x)]; rfl)⟩, rfl, trivial⟩ ?_))))
    exact ⟨by rw [e1, e2, e3]; rfl, hX⟩

theorem commit8_calls (w : World) {p : Option Addr} {c : Nat} {l : List HeldT} {x : IdB} (h : HpIn w p l) (hx : IdIn x) :
    CallsV Tryz.prog 31 [.agg #[.slice p l.length c], .agg (bytesU x).toArray] w fun v w' => v = .tuple #[.agg (objC ((toHp l).kObj x 3) (kObjP l x 3)).toArray, .int .i64 ((toHp l).kErr x 3)] ∧ Ext No w w' := by
  refine calls_enter Tryz.func31 rfl rfl rfl rfl ?_
  have hX := Ext.refl No w
  refine c_seq (c_region (wl (st_al I_ok rfl fun b2 w1 hn2 hb2 hE1 => ?_)))
  have hX := hX.thenNo hE1
  have hb2 : Blk w1 b2 26 ([.slice p l.length c]) := hb2
  refine wl (st_al I_ok rfl fun b3 w2 hn3 hb3 hE2 => ?_)
  have hb2 := hb2.extNo hE2
  have hX := hX.thenNo hE2
  have hb3 : Blk w2 b3 31 (bytesU x) := hb3
  refine wl (st_al I_ok rfl fun b4 w3 hn4 hb4 hE3 => ?_)
  have fr4 := Nat.le_trans hX.size hn4
  have hb2 := hb2.extNo hE3
  have hb3 := hb3.extNo hE3
  have hX := hX.thenNo hE3
  refine wl_p I_ok rfl (wl_nil (f_then (c_seq (c_region (wl (st_ldB I_ok hb2 rfl rfl (wl (st_ldB I_ok hb3 rfl (IdIn.len hx) (wl (st_call Tryz.call66 rfl rfl rfl rfl rfl rfl (of8_calls w3 (h.extNo hX) hx 3) fun v4 w4 hr4 => ?_))))))))))
  obtain ⟨rfl, hE4⟩ := hr4
  have hb4 := hb4.extNo hE4
  have hX := hX.thenNo hE4
  refine wl_p I_ok rfl (wl (st_stW (l' := objC ((toHp l).kObj x 3) (kObjP l x 3)) I_ok hb4 rfl rfl (objC_len (h.kIn x 3)) (by rw [objC_len (h.kIn x 3)]; rfl) OneC.h fun w5 hb4 hE5 hs5 => ?_))
  have hX := hX.thenNew hE5 fr4
  refine wl_p I_ok rfl (wl_nil (f_then (c_ret (f_ret [_, _] ⟨⟨b4, 0, rfl, ld_all I_ok rfl rfl hb4.seg (by rw [objC_len (h.kIn x 3)]; rfl)⟩, rfl, trivial⟩ ?_))))
  exact ⟨rfl, hX⟩

end Go.Proofs.YtpcdihkcenfgkaaGreat
namespace Go.Proofs.YtpcdihkcenfgkaaGreat
open Go.Vc
theorem bl_at : ∀ (i : Nat) (a b : List UInt8) (ha : i < a.length) (hb : i < b.length), (∀ k (h1 : k < a.length) (h2 : k < b.length), k < i → a[k] = b[k]) → a[i] ≠ b[i] → Op.bytesLess a b = decide (a[i] < b[i])
  | 0, x :: a, y :: b, _, _, _, hne => by
    have hne : x ≠ y := hne
    show (decide (x < y) || (x == y && Op.bytesLess a b)) = decide (x < y)
    rw [show (x == y) = false from by simpa using hne]
    simp
  | i + 1, x :: a, y :: b, ha, hb, hk, hne => by
    have h0 : x = y := hk 0 (by simp) (by simp) (by omega)
    subst h0
    have ha' : i < a.length := by simpa using ha
    have hb' : i < b.length := by simpa using hb
    show (decide (x < x) || (x == x && Op.bytesLess a b)) = decide (a[i] < b[i])
    rw [bl_at i a b (by simpa using ha) (by simpa using hb) (fun k h1 h2 hlt => by have := hk (k + 1) (by simpa using h1) (by simpa using h2) (by omega); simpa using this) (by simpa using hne)]
    simp
theorem byte_ne {a b : UInt8} : (¬ ((a.toNat : Int) = (b.toNat : Int))) ↔ a ≠ b := by
  rw [Int.ofNat_inj, UInt8.toNat_inj]
theorem byte_lt {a b : UInt8} : ((a.toNat : Int) < (b.toNat : Int)) ↔ a < b := by
  rw [Int.ofNat_lt]; exact UInt8.lt_iff_toNat_lt.symm
theorem there8_calls (w : World) {p : Option Addr} {c : Nat} {l : List HeldT} {x : IdB} (h : HpIn w p l) (hx : IdIn x) :
    CallsV Tryz.prog 67 [.agg #[.slice p l.length c], .agg (bytesU x).toArray] w fun v w' => v = .bool (decide (x ∈ l.map HeldT.id)) ∧ Ext No w w' := by
  have hlen := h.len
  refine calls_enter Tryz.func67 rfl rfl rfl rfl ?_
  have hX := Ext.refl No w
  refine c_seq (c_region (wl (st_al I_ok rfl fun b2 w1 hn2 hb2 hE1 => ?_)))
  have hX := hX.thenNo hE1
  have hb2 : Blk w1 b2 26 ([.slice p l.length c]) := hb2
  refine wl (st_al I_ok rfl fun b3 w2 hn3 hb3 hE2 => ?_)
  have hb2 := hb2.extNo hE2
  have hX := hX.thenNo hE2
  have hb3 : Blk w2 b3 31 (bytesU x) := hb3
  refine wl_p I_ok rfl (wl_nil (f_then (c_seq (c_seq (c_region (wl_p I_ok rfl (wl (st_ldb I_ok hb2 rfl rfl (wl_p I_ok rfl (wl_nil (f_then (c_block ?_))))))))))))
  refine c_loopK (α := Nat) [3, 8, 9] rfl (fun z => [(10, .int .i64 (z : Int))]) (fun z u => (z ≤ l.length ∧ ∀ k (hk : k < l.length), k < z → ¬ l[k].id = x) ∧ Blk u b2 26 ([.slice p l.length c]) ∧ Blk u b3 31 (bytesU x) ∧ Ext No w u) (fun z u => l.length - z) (0) rfl ⟨⟨Nat.zero_le _, fun k _ h => absurd h (Nat.not_lt_zero _)⟩, hb2, hb3, hX⟩ ?_
  rintro i w3 ⟨⟨hi, hno⟩, hb2, hb3, hX⟩
  refine c_seq (c_region (wl_p I_ok rfl (wl_nil (f_then (c_seq (c_if rfl (fun hc => ?_) (fun hc => ?_)))))))
  · have hi : i < l.length := by omega
    obtain ⟨qb, qoff, hp, hsq⟩ := h.sl.rowAll h.c (by omega)
    rw [hp] at hb2 ⊢
    have hni := h.ins _ (List.getElem_mem hi)
    refine c_skip (f_then (c_seq (c_block (c_seq (c_region (wl (st_ix I_ok rfl 105 rfl i rfl (by omega) (qoff + i * 105) rfl (wl (st_ldN I_ok rfl ((hsq i hi).extNo hX) hni.c (wl (st_al I_ok rfl fun b6 w4 hn6 hb6 hE4 => ?_)))))))))))
    have ne2_6 : b2 ≠ b6 := Nat.ne_of_lt (Nat.lt_of_lt_of_le hb2.lt hn6)
    have ne3_6 : b3 ≠ b6 := Nat.ne_of_lt (Nat.lt_of_lt_of_le hb3.lt hn6)
    have fr6 := Nat.le_trans hX.size hn6
    have hb2 := hb2.extNo hE4
    have hb3 := hb3.extNo hE4
    have hX := hX.thenNo hE4
    refine wl (st_stW (l' := heldC l[i]) I_ok hb6 rfl rfl hni.c (by rw [hni.c]; rfl) OneC.h fun w5 hb6 hE5 hs5 => ?_)
    have hb2 := hb2.ext1 hE5 ne2_6
    have hb3 := hb3.ext1 hE5 ne3_6
    have hX := hX.thenNew hE5 fr6
    refine wl_nil (f_then (c_seq (c_region (wl_p I_ok rfl (wl (st_ldN I_ok rfl (held_id hb6.seg) (IdIn.len hni.id) (wl (st_ldB I_ok hb3 rfl hx.len ?_))))))))
    refine wl (st_eqK rfl gId 10 (by decide) kId (idForm hni.id) (idForm hx) (idKey hni.id) (idKey hx) idLits_inj ?_)
    simp only [if_true]
    refine wl_nil (f_then (c_if rfl (fun hc => ?_) (fun hc => ?_)))
    · refine c_seq ?_
      refine c_region (wl_p I_ok rfl (wl_nil (f_then (c_ret (f_blockR (f_thenR (f_thenR (f_blockR (f_thenR (f_ret1 rfl rfl ?_))))))))))
      exact ⟨congrArg Value.bool (by symm; rw [decide_eq_true_eq]; exact List.mem_map.2 ⟨_, List.getElem_mem hi, hc⟩), hX⟩
    · refine c_skip ?_
      refine f_blockN (f_then (c_region (wl_p I_ok rfl ?_)))
      rw [IntWalk.i64_in _ (by omega)]
      refine wl_nil ?_
      exact f_round (i + 1) rfl ⟨⟨by omega, fun k hk hlt => (Nat.lt_or_eq_of_le (Nat.le_of_lt_succ hlt)).elim (fun h => hno k hk h) fun h => by subst h; exact hc⟩, hb2, hb3, hX⟩ (by first | omega | (dsimp only; omega))
  · have hall : ¬ x ∈ l.map HeldT.id := fun hr => by
      obtain ⟨y, hy, e⟩ := List.mem_map.1 hr
      obtain ⟨k, hk, rfl⟩ := List.mem_iff_getElem.1 hy
      exact hno k hk (by omega) e
    refine c_exit (f_thenE (f_thenE (f_blockE (f_then (c_seq (c_region (wl_p I_ok rfl (wl_nil (f_then (c_ret (f_ret1 rfl rfl ?_)))))))))))
    exact ⟨congrArg Value.bool (by symm; rw [decide_eq_false_iff_not]; exact hall), hX⟩
end Go.Proofs.YtpcdihkcenfgkaaGreat
namespace Go.Proofs.YtpcdihkcenfgkaaGreat
open Go.Vc
theorem linksOf_in {o : ObjD} (h : ObjIn o) : ∀ z ∈ linksOf o, IdIn z := fun z hz => by
  unfold linksOf at hz
  split at hz
  · obtain ⟨y, hy, rfl⟩ := List.mem_map.1 hz; exact (h.leaves y hy).2
  · split at hz
    · rcases List.mem_cons.1 hz with rfl | hz
      · exact h.tree
      · exact h.parents z hz
    · cases hz
theorem HpIn.leadsIn {w : World} {p : Option Addr} {l : List HeldT} (h : HpIn w p l) {x : IdB} (hx : IdIn x) : ∀ y, (toHp l).Leads x y → IdIn y := fun y hy => by
  cases hy with
  | here => exact hx
  | on _ hz => exact linksOf_in (h.objIn _) _ hz
theorem HpIn.allLen {w : World} {p : Option Addr} {l : List HeldT} (h : HpIn w p l) (x : IdB) : ((toHp l).all x).length < 10000001 := by
  have e : (toHp l).flatMap (fun e => linksOf e.2) = l.flatMap fun e => linksOf e.o := by rw [toHp, List.flatMap_map]
  have := h.lk
  rw [Hp.all, e, List.length_cons]
  omega
theorem links_len (h : Hp) (y : IdB) : ∀ x, (h.links y).length ≤ (h.all x).length := fun x => by
  unfold Hp.links
  rcases h.obj_mem y with e | ⟨e, he, e'⟩
  · rw [e]; exact Nat.zero_le _
  · rw [e', Hp.all, List.length_cons]
    obtain ⟨a, b, hab⟩ := List.append_of_mem he
    rw [hab, List.flatMap_append, List.flatMap_cons]
    simp only [List.length_append]
    omega
end Go.Proofs.YtpcdihkcenfgkaaGreat
namespace Go.Proofs.YtpcdihkcenfgkaaGreat
open Go.Vc
theorem rowZ_c : cellsOf ti73.zero = RowD.cells ⟨[], []⟩ := by kernel_rfl
theorem room_ml {n : Nat} (h : n ≤ 1000000000) : n + 1 ≤ maxLen := by dsimp only [maxLen]; omega
theorem room_by {n : Nat} (h : n ≤ 1000000000) : (n + 1) * 32 ≤ 140737488355328 := by omega
def row8 (l : List HeldT) (y : LeafD) : RowD := ⟨y.path, ((toHp l).kObj y.id 1).text⟩
theorem rowsOf_take {l : List HeldT} {L : List LeafD} {i : Nat} (hi : i < L.length) : (toHp l).rowsOf (L.take (i + 1)) = (toHp l).rowsOf (L.take i) ++ [row8 l L[i]] := by
  rw [List.take_succ_eq_append_getElem hi, Hp.rowsOf, List.map_append]; rfl
theorem rowsOf_len (h : Hp) (L : List LeafD) : (h.rowsOf L).length = L.length := List.length_map _
theorem Hp.map_no {h : Hp} {x : IdB} {e : Int} (he : h.mapE x = e) (hn : e ≠ 0) : h.map x = [] := if_pos (by rw [he]; exact hn)
theorem Hp.map_ok {h : Hp} {x : IdB} (he : h.mapE x = 0) : h.map x = h.rowsOf (h.kObj x 2).leaves := if_neg (by rw [he]; exact fun k => k rfl)
end Go.Proofs.YtpcdihkcenfgkaaGreat
namespace Go.Proofs.YtpcdihkcenfgkaaGreat
open Go.Vc
theorem top_take {h : Hp} {L : List IdB} {i : Nat} (hi : i < L.length) : h.top (L.take (i + 1)) = max (h.top (L.take i)) ((h.kObj L[i] 3).number + 1) := by
  rw [List.take_succ_eq_append_getElem hi, Hp.top, List.foldl_append]; rfl
theorem max_u32 {t n m : Nat} (h : n < m) (hm : m < 2 ^ 32) : (if (t : Int) < IntKind.u32.wrap ((n : Int) + 1) then IntKind.u32.wrap ((n : Int) + 1) else (t : Int)) = ((max t (n + 1) : Nat) : Int) := by
  rw [IntWalk.u32_in _ (by omega)]
  split <;> omega
theorem top_le {h : Hp} {m : Nat} {L : List IdB} (hL : ∀ p ∈ L, (h.kObj p 3).number < m) : h.top L ≤ m := by
  have : ∀ (L : List IdB) (t : Nat), t ≤ m → (∀ p ∈ L, (h.kObj p 3).number < m) → L.foldl (fun t p => max t ((h.kObj p 3).number + 1)) t ≤ m := by
    intro L
    induction L with
    | nil => intro t ht _; exact ht
    | cons a L ih =>
      intro t ht hL
      have := hL a List.mem_cons_self
      exact ih _ (by show max t _ ≤ m; omega) fun p hp => hL p (List.mem_cons_of_mem _ hp)
  exact this _ 0 (Nat.zero_le _) hL
theorem par_no {h : Hp} {o : ObjD} {i : Nat} (hi : i < o.parents.length) (hc : ¬ (h.kErr o.parents[i] 3 = 0 ∧ (h.kObj o.parents[i] 3).number < o.number)) : ¬ h.ParOk o := fun k => hc (k.1 _ (List.getElem_mem hi))
end Go.Proofs.YtpcdihkcenfgkaaGreat
