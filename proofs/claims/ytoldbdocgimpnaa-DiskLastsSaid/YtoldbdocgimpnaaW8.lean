/- Pending, New -/
import Derived.Test.YtoldbdocgimpnaaW7
namespace Go.Proofs.Ytoldbdocgimpnaa
open Go.Vc

theorem DiskAt.order_src {w : World} {d sb oc : Nat} {F : Nat → Prop} {op : Option Addr} {D : Dsk} (h : DiskAt w d sb op oc F D) {w' : World} (hE : Ext No w w') : Src Try.prog w' 1 (.slice op D.order.length oc) D.order.length (orderL D.order) :=
  Src.slice (h.order.sl.extNo hE) fun v hv => by
    obtain ⟨x, _, rfl⟩ := List.mem_map.1 hv
    rfl

theorem pending_calls (w : World) {d m : Nat} {F : Nat → Prop} {D : Dsk} (h : At w d F D) (hok : D.Ok m) (hm : m < 1000000000) :
    CallsV Try.prog 16 [.pointer (some ⟨d, 0, none⟩)] w fun v w' => ∃ b, v = .slice (some ⟨b, 0, none⟩) D.order.length D.order.length ∧ w.heap.size ≤ b ∧ Blk w' b 3 (orderL D.order) ∧ Ext No w w' := by
  obtain ⟨sb, op, oc, h⟩ := h
  have hfew := hok.few
  refine calls_enter Try.func16 rfl rfl rfl rfl ?_
  have hX := Ext.refl No w
  refine c_seq (c_region (wl_p I_ok rfl (wl_nil (f_then (c_seq (c_seq (c_region (wl_p I_ok rfl (wl_nil (f_then (c_condF rfl ?_)))))))))))
  refine c_skip ?_
  refine f_then (c_seq (c_region (wl_p I_ok rfl (wl (st_ldb I_ok h.head rfl rfl (wl_p I_ok rfl (wl (st_mk I_ok rfl D.order.length D.order.length 8 rfl (zs := [.int .i64 0]) rfl rfl (by decide) rfl rfl (Nat.le_refl _) (by omega) (by unfold maxLen; omega) fun b11 w1 hn11 hb11 hE1 hs1 => ?_))))))))
  have h1 := h.extNo hE1
  have hX := hX.thenNo hE1
  refine wl_p I_ok rfl (wl_nil (f_then (c_seq (c_region (wl_p I_ok rfl (wl (st_ldb I_ok h1.head rfl rfl (wl (st_cp I_ok rfl 1 rfl hb11 (h1.order_src (Ext.refl _ _)) (Nat.le_refl _) (by rw [rep_length]; simp) fun w2 hc2 hE2 hs2 => ?_)))))))))
  have hX := hX.thenNew hE2 hn11
  refine wl_nil (f_then (c_seq (c_region (wl_p I_ok rfl (wl_nil (f_then (c_ret (f_ret1 rfl rfl ?_))))))))
  refine ⟨b11, rfl, hn11, ?_, hX⟩
  have hc2 : Blk w2 b11 3 (put (rep D.order.length [.int .i64 0]) 0 (orderL D.order)) := hc2
  rwa [put_whole (by rw [rep_length]; simp [orderL])] at hc2

theorem nilPending_calls (w : World) : CallsV Try.prog 16 [.pointer none] w fun v w' => v = .slice none 0 0 ∧ w' = w := by
  refine calls_enter Try.func16 rfl rfl rfl rfl ?_
  refine c_seq (c_region (wl_p I_ok rfl (wl_nil (f_then (c_seq (c_seq (c_region (wl_p I_ok rfl (wl_nil (f_then (c_condT rfl ?_)))))))))))
  refine c_seq ?_
  refine c_region (wl_p I_ok rfl (wl_nil (f_then (c_ret (f_thenR (f_ret1 rfl rfl ?_))))))
  exact ⟨rfl, rfl⟩

theorem fresh_rows (w : World) (F : Nat → Prop) (n : Nat) : RowsAt w F (Dsk.fresh n).secs (List.replicate n (secRow zeros none 0 0)) := by
  refine ⟨by simp [Dsk.fresh], fun i s r hs hr => ?_⟩
  simp only [Dsk.fresh] at hs
  have h1 := List.mem_of_getElem? hs
  have h2 := List.mem_of_getElem? hr
  rw [List.eq_of_mem_replicate h1, List.eq_of_mem_replicate h2]
  refine ⟨none, 0, rfl, Nat.le_refl _, zeros_length, fun b hb => (by cases hb), ⟨rfl, .inl rfl⟩, fun b off hb => (by cases hb)⟩

theorem new_calls (w : World) (n : Int) : CallsV Try.prog 11 [.int .i64 n] w fun v w' =>
    if 1 ≤ n ∧ n ≤ 2048 then ∃ d, v = .tuple #[.pointer (some ⟨d, 0, none⟩), .int .i64 0] ∧ w.heap.size ≤ d ∧ At w' d (Grow No w w') (Dsk.fresh n.toNat) ∧ Ext No w w'
    else v = .tuple #[.pointer none, .int .i64 2] ∧ Ext No w w' := by
  refine calls_enter Try.func11 rfl rfl rfl rfl ?_
  have hX := Ext.refl No w
  refine c_seq (c_region (wl_p I_ok rfl (wl_nil (f_then (c_seq (c_cutK (α := Bool) [0] rfl (fun z => [(9, .bool z)]) (fun z u => u = w ∧ z = decide (¬ (1 ≤ n ∧ n ≤ 2048))) ?_ ?_))))))
  · refine c_region ?_
    refine wl_p I_ok rfl (wl_caseD 6 rfl (fun hg => ?_) (fun hg => ?_))
    · refine wl_pg I_ok rfl (wl_nil (f_cut _ rfl ⟨rfl, ?_⟩))
      simp; omega
    · refine wl_pg I_ok rfl (wl_nil (f_cut _ rfl ⟨rfl, ?_⟩))
      simp only [decide_eq_decide]; omega
  rintro z w ⟨rfl, rfl⟩
  refine c_if rfl (fun hc => ?_) (fun hc => ?_)
  · refine c_seq ?_
    refine c_region (wl_p I_ok rfl (wl_nil (f_then (c_ret (f_thenR (f_ret2 rfl rfl rfl ?_))))))
    rw [if_neg hc]
    exact ⟨rfl, hX⟩
  · have hn := Decidable.not_not.1 hc
    refine c_skip ?_
    refine f_then (c_seq (c_region (wl_p I_ok rfl (wl (st_mk I_ok rfl n.toNat n.toNat 88 rfl (zs := secRow zeros none 0 0) (by simp [ti94, secRow, zeros, bytesL]) rfl (by decide) (by omega) (by omega) (Nat.le_refl _) (by omega) (by unfold maxLen; omega) fun b11 w1 hn11 hb11 hE1 hs1 => ?_)))))
    have hX := hX.thenNo hE1
    refine wl (st_bd I_ok rfl (by simp [partsOk, ti76]) rfl (wl (st_al I_ok rfl fun b13 w2 hn13 hb13 hE2 => ?_)))
    have fr13 := Nat.le_trans hX.size hn13
    have hb11' := hb11.extNo hE2
    have hX := hX.thenNo hE2
    refine wl_p I_ok rfl (wl_nil (f_then (c_ret (f_ret2 rfl rfl rfl ?_))))
    rw [if_pos hn]
    have e : (Dsk.fresh n.toNat).secs.length = n.toNat := by simp [Dsk.fresh]
    refine ⟨b13, rfl, fr13, ⟨b11, none, 0, ?_, ⟨_, hb11', fresh_rows _ _ _⟩, .inl ⟨rfl, rfl, rfl, rfl⟩, ⟨.inr ⟨fr13, hb13.lt⟩, .inr ⟨hn11, hb11'.lt⟩, fun x hx => (by cases hx)⟩, fun x hx => hx.elim False.elim fun h => h.2⟩, hX⟩
    rw [e]
    exact hb13
end Go.Proofs.Ytoldbdocgimpnaa
