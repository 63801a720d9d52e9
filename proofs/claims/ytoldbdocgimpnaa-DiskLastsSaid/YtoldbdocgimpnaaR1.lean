/- the document's disk: begin -/
import Derived.Test.YtoldbdocgimpnaaP2
namespace Go.Proofs.Ytoldbdocgimpnaa
open Go.Vc

abbrev refL (x : RDsk) (p : Option Addr) (c : Nat) : List Value := [.int .i64 x.n, .slice p x.wr.length c, .bool x.dead, .int .i64 x.fuse, .int .i64 x.fault, .int .i64 x.done]
theorem ref_flat (x : RDsk) (p : Option Addr) (c : Nat) : ∀ u ∈ refL x p c, u.oneCell' = true := by
  simp only [List.mem_cons, List.not_mem_nil, or_false, forall_eq_or_imp, forall_eq]
  exact ⟨rfl, rfl, rfl, rfl, rfl, rfl⟩

structure RDsk.Fits (x : RDsk) : Prop where
  fuse : -1 ≤ x.fuse ∧ x.fuse < 9223372036854775808
  fault : -1 ≤ x.fault ∧ x.fault < 9223372036854775808
  done : 0 ≤ x.done ∧ x.done < 9223372036854775807

/-- the copy of a box into the result's cell, and the end -/
theorem begin_calls (w : World) (x : RDsk) (p : Option Addr) (c : Nat) (hx : x.Fits) (i : Int) (b : Bool) :
    CallsV Try.prog 58 [.agg (refL x p c).toArray, .int .i64 i, .bool b] w fun v w' => v = .tuple #[.agg (refL (x.begin i b).1 p c).toArray, .int .i64 (x.begin i b).2] ∧ Ext No w w' := by
  have hfu := hx.fuse
  have hfa := hx.fault
  have hdn := hx.done
  refine calls_enter Try.func58 rfl rfl rfl rfl ?_
  have hX := Ext.refl No w
  refine c_seq (c_region (wl (st_al I_ok rfl fun b3 w1 hn3 hb3 hE1 => ?_)))
  have fr3 := Nat.le_trans hX.size hn3
  have hX := hX.thenNo hE1
  refine wl (st_al I_ok rfl fun b6 w2 hn6 hb6 hE2 => ?_)
  have ne3_6 : b3 ≠ b6 := Nat.ne_of_lt (Nat.lt_of_lt_of_le hb3.lt hn6)
  have fr6 := Nat.le_trans hX.size hn6
  have hb3 := hb3.extNo hE2
  have hX := hX.thenNo hE2
  have hb3 : Blk w2 b3 48 (refL x p c) := hb3
  have l6 : (cellsOf ti48.zero).length = 6 := rfl
  unfold RDsk.begin
  refine wl_p I_ok rfl (wl_nil (f_then (c_seq (c_seq (c_region (wl_p I_ok rfl (wl (st_ldb I_ok hb3 rfl rfl (wl_nil (f_then (c_cond rfl (fun hc => ?_) (fun hc => ?_))))))))))))
  · rw [if_pos hc]
    refine c_seq ?_
    refine c_region (wl (st_ldB I_ok hb3 rfl rfl (wl (st_stW (l' := refL x p c) I_ok hb6 rfl rfl rfl rfl (ref_flat _ _ _) fun w3 hb6 hE3 hs3 => ?_))))
    have hX := hX.thenNew hE3 fr6
    refine wl_p I_ok rfl (wl_nil (f_then (c_ret (f_thenR (f_ret [_, _] ⟨⟨b6, 0, rfl, ld_all I_ok rfl rfl hb6.seg rfl⟩, rfl, trivial⟩ ?_)))))
    exact ⟨rfl, hX⟩
  rw [if_neg (by rw [hc]; decide)]
  refine c_skip ?_
  refine f_then (c_seq (c_cutK (α := Bool) [2, 3, 6] rfl (fun z => [(18, .bool z)]) (fun z u => u = w2 ∧ z = decide (i < 0 ∨ x.n ≤ i)) ?_ ?_))
  · refine c_region ?_
    refine wl_p I_ok rfl (wl_caseD 13 rfl (fun hg => ?_) (fun hg => ?_))
    · refine wl_pg I_ok rfl (wl_nil (f_cut _ rfl ⟨rfl, ?_⟩))
      simp [hg]
    · refine wl_pg I_ok rfl ?_
      refine wl (st_ldb I_ok hb3 rfl rfl (wl_pg I_ok rfl (wl_nil (f_cut _ rfl ⟨rfl, ?_⟩))))
      simp only [decide_eq_decide]; omega
  rintro z w3 ⟨rfl, rfl⟩
  refine c_if rfl (fun hc => ?_) (fun hc => ?_)
  · rw [if_pos hc]
    refine c_seq ?_
    refine c_region (wl (st_ldB I_ok hb3 rfl rfl (wl (st_stW (l' := refL x p c) I_ok hb6 rfl rfl rfl rfl (ref_flat _ _ _) fun w3 hb6 hE3 hs3 => ?_))))
    have hX := hX.thenNew hE3 fr6
    refine wl_p I_ok rfl (wl_nil (f_then (c_ret (f_thenR (f_ret [_, _] ⟨⟨b6, 0, rfl, ld_all I_ok rfl rfl hb6.seg rfl⟩, rfl, trivial⟩ ?_)))))
    exact ⟨rfl, hX⟩
  rw [if_neg hc]
  refine c_skip ?_
  refine f_then (c_seq (c_seq (c_region (wl_p I_ok rfl (wl (st_ldb I_ok hb3 rfl rfl (wl_p I_ok rfl (wl_nil (f_then (c_if rfl (fun hc => ?_) (fun hc => ?_)))))))))))
  · rw [if_pos hc]
    refine c_seq ?_
    refine c_region (wl_p I_ok rfl (wl (st_st I_ok hb3 rfl rfl rfl fun w4 hb3 hE3 hs3 => ?_)))
    have hb6 := hb6.ext1 hE3 ne3_6.symm
    have hX := hX.thenNew hE3 fr3
    refine wl_nil (f_then (c_seq (c_region (wl (st_ldB I_ok hb3 rfl rfl (wl (st_stW (l' := refL { x with fault := -1 } p c) I_ok hb6 rfl rfl rfl rfl (ref_flat _ _ _) fun w4 hb6 hE4 hs4 => ?_)))))))
    have hX := hX.thenNew hE4 fr6
    refine wl_p I_ok rfl (wl_nil (f_then (c_ret (f_thenR (f_ret [_, _] ⟨⟨b6, 0, rfl, ld_all I_ok rfl rfl hb6.seg rfl⟩, rfl, trivial⟩ ?_)))))
    exact ⟨rfl, hX⟩
  rw [if_neg hc]
  refine c_skip ?_
  refine f_then (c_cutK (α := Unit) [2, 3, 6] rfl (fun z => []) (fun z u => Blk u b3 48 (refL (if 0 < x.fault then { x with fault := x.fault - 1 } else x) p c) ∧ Blk u b6 48 (cellsOf ti48.zero) ∧ Ext No w u) ?_ ?_)
  · refine c_seq ?_
    refine c_region (wl_p I_ok rfl (wl (st_ldb I_ok hb3 rfl rfl (wl_p I_ok rfl (wl_nil (f_then (c_if rfl (fun hc => ?_) (fun hc => ?_))))))))
    · refine c_region ?_
      refine wl_p I_ok rfl (wl (st_ldb I_ok hb3 rfl rfl (wl_p I_ok rfl ?_)))
      rw [IntWalk.i64_in _ (by omega)]
      refine wl (st_st I_ok hb3 rfl rfl rfl fun w4 hb3 hE3 hs3 => ?_)
      refine wl_nil (f_cut () rfl ⟨?_, hb6.ext1 hE3 ne3_6.symm, hX.thenNew hE3 fr3⟩)
      rw [if_pos hc]; exact hb3
    · refine c_skip (f_cut () rfl ⟨?_, hb6, hX⟩)
      rw [if_neg hc]; exact hb3
  have hy1 : (if 0 < x.fault then { x with fault := x.fault - 1 } else x).fuse = x.fuse := by split <;> rfl
  have hy2 : (if 0 < x.fault then { x with fault := x.fault - 1 } else x).done = x.done := by split <;> rfl
  generalize (if 0 < x.fault then { x with fault := x.fault - 1 } else x) = y at hy1 hy2
  rw [← hy1] at hfu
  rw [← hy2] at hdn
  clear hX hb3 hb6 hE1 hE2
  rintro ⟨⟩ w3 ⟨hb3, hb6, hX⟩
  dsimp only
  refine c_seq (c_cutK (α := Bool) [2, 3, 6] rfl (fun z => [(37, .bool z)]) (fun z u => u = w3 ∧ z = decide (b = true ∧ y.fuse = 0)) ?_ ?_)
  · refine c_region ?_
    refine wl_p I_ok rfl (wl_case 33 rfl (fun hg => ?_) (fun hg => ?_))
    · refine wl_pg I_ok rfl ?_
      refine wl (st_ldb I_ok hb3 rfl rfl (wl_pg I_ok rfl (wl_nil (f_cut _ rfl ⟨rfl, ?_⟩))))
      simp [hg]
    · refine wl_pg I_ok rfl (wl_nil (f_cut _ rfl ⟨rfl, ?_⟩))
      simp [hg]
  rintro z w4 ⟨rfl, rfl⟩
  refine c_if rfl (fun hc => ?_) (fun hc => ?_)
  · rw [if_pos hc]
    refine c_seq ?_
    refine c_region (wl_p I_ok rfl (wl (st_st I_ok hb3 rfl rfl rfl fun w3 hb3 hE3 hs3 => ?_)))
    have hb6 := hb6.ext1 hE3 ne3_6.symm
    have hX := hX.thenNew hE3 fr3
    refine wl_nil (f_then (c_seq (c_region (wl_p I_ok rfl (wl (st_st I_ok hb3 rfl rfl rfl fun w4 hb3 hE4 hs4 => ?_))))))
    have hb6 := hb6.ext1 hE4 ne3_6.symm
    have hX := hX.thenNew hE4 fr3
    refine wl_nil (f_then (c_seq (c_region (wl (st_ldB I_ok hb3 rfl rfl (wl (st_stW (l' := refL { y with fuse := -1, dead := true } p c) I_ok hb6 rfl rfl rfl rfl (ref_flat _ _ _) fun w5 hb6 hE5 hs5 => ?_)))))))
    have hX := hX.thenNew hE5 fr6
    refine wl_p I_ok rfl (wl_nil (f_then (c_ret (f_thenR (f_ret [_, _] ⟨⟨b6, 0, rfl, ld_all I_ok rfl rfl hb6.seg rfl⟩, rfl, trivial⟩ ?_)))))
    exact ⟨rfl, hX⟩
  rw [if_neg hc]
  refine c_skip ?_
  refine f_then (c_cutK (α := Unit) [3, 6] rfl (fun z => []) (fun z u => Blk u b3 48 (refL (if b = true ∧ 0 < y.fuse then { y with fuse := y.fuse - 1 } else y) p c) ∧ Blk u b6 48 (cellsOf ti48.zero) ∧ Ext No w u) ?_ ?_)
  · refine c_cutK (α := Bool) [3, 6] rfl (fun z => [(46, .bool z)]) (fun z u => u = w4 ∧ z = decide (b = true ∧ 0 < y.fuse)) ?_ ?_
    · refine c_region ?_
      refine wl_p I_ok rfl (wl_case 42 rfl (fun hg => ?_) (fun hg => ?_))
      · refine wl_pg I_ok rfl ?_
        refine wl (st_ldb I_ok hb3 rfl rfl (wl_pg I_ok rfl (wl_nil (f_cut _ rfl ⟨rfl, ?_⟩))))
        simp [hg]
      · refine wl_pg I_ok rfl (wl_nil (f_cut _ rfl ⟨rfl, ?_⟩))
        simp [hg]
    rintro z w5 ⟨rfl, rfl⟩
    refine c_if rfl (fun hc => ?_) (fun hc => ?_)
    · refine c_region ?_
      refine wl_p I_ok rfl (wl (st_ldb I_ok hb3 rfl rfl (wl_p I_ok rfl ?_)))
      rw [IntWalk.i64_in _ (by omega)]
      refine wl (st_st I_ok hb3 rfl rfl rfl fun w3 hb3 hE3 hs3 => ?_)
      refine wl_nil (f_cut () rfl ⟨?_, hb6.ext1 hE3 ne3_6.symm, hX.thenNew hE3 fr3⟩)
      rw [if_pos hc]; exact hb3
    · refine c_skip (f_cut () rfl ⟨?_, hb6, hX⟩)
      rw [if_neg hc]; exact hb3
  have hy3 : (if b = true ∧ 0 < y.fuse then { y with fuse := y.fuse - 1 } else y).done = y.done := by split <;> rfl
  generalize (if b = true ∧ 0 < y.fuse then { y with fuse := y.fuse - 1 } else y) = z at hy3
  rw [← hy3] at hdn
  clear hX hb3 hb6
  rintro ⟨⟩ w3 ⟨hb3, hb6, hX⟩
  dsimp only
  refine c_seq (c_region (wl_p I_ok rfl (wl (st_ldb I_ok hb3 rfl rfl (wl_p I_ok rfl ?_)))))
  rw [IntWalk.i64_in _ (by omega)]
  refine wl (st_st I_ok hb3 rfl rfl rfl fun w4 hb3 hE3 hs3 => ?_)
  have hb6 := hb6.ext1 hE3 ne3_6.symm
  have hX := hX.thenNew hE3 fr3
  refine wl_nil (f_then (c_seq (c_region (wl (st_ldB I_ok hb3 rfl rfl (wl (st_stW (l' := refL { z with done := z.done + 1 } p c) I_ok hb6 rfl rfl rfl rfl (ref_flat _ _ _) fun w5 hb6 hE4 hs4 => ?_)))))))
  have hX := hX.thenNew hE4 fr6
  refine wl_p I_ok rfl (wl_nil (f_then (c_ret (f_ret [_, _] ⟨⟨b6, 0, rfl, ld_all I_ok rfl rfl hb6.seg rfl⟩, rfl, trivial⟩ ?_))))
  exact ⟨rfl, hX⟩
end Go.Proofs.Ytoldbdocgimpnaa
