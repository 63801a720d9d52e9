/- is a block in a row of blocks? -/
import Derived.Test.YtoldbdocgimpnaaK0
namespace Go.Proofs.Ytoldbdocgimpnaa
open Go.Vc
theorem rowN_congr {f g : Nat → Value} (h : ∀ i, i < 6 → f i = g i) : rowN f = rowN g := List.map_congr_left fun i hi => h i (List.mem_range.1 hi)
theorem index_calls (w : World) {p : Option Addr} {c : Nat} {ws : List (List Int)} {b : List Int} (hs : Sl w p ws.length 64 (bl ws).flatten) (h64 : ∀ x ∈ ws, x.length = 64) (hb : b.length = 64) (hn : ws.length < 1000000000) :
    CallsV Try.prog 56 [.slice p ws.length c, numA .u8 b] w fun v w' => (∃ r : Int, v = .int .i64 r ∧ (0 ≤ r ↔ b ∈ ws)) ∧ Ext No w w' := by
  have hu : Uni 64 (bl ws) := Uni.map fun y hy => bytesL_len (h64 y hy)
  have hbl := bytesL_len hb
  refine calls_enter Try.func56 rfl rfl rfl rfl ?_
  have hX := Ext.refl No w
  refine c_seq (c_region (wl (st_al I_ok rfl fun b3 w1 hn3 hb3 hE1 => ?_)))
  have fr3 := Nat.le_trans hX.size hn3
  have hX := hX.thenNo hE1
  have hb3 : Blk w1 b3 29 (bytesL b) := by rw [← cells_num]; exact hb3
  refine wl_p I_ok rfl (wl_nil (f_then (c_seq (c_seq (c_region (wl_p I_ok rfl (wl_nil (f_then (c_block ?_)))))))))
  refine c_loopK (α := Nat) [0, 3, 7] rfl (fun z => [(8, .int .i64 (z : Int))]) (fun z u => (z ≤ ws.length ∧ ∀ j (hj : j < ws.length), j < z → b ≠ ws[j]) ∧ Blk u b3 29 (bytesL b) ∧ Ext No w u) (fun z u => ws.length - z) (0) rfl ⟨⟨Nat.zero_le _, fun j _ h => by omega⟩, hb3, hX⟩ ?_
  rintro k w2 ⟨⟨hk, hnot⟩, hb3, hX⟩
  refine c_seq (c_region (wl_p I_ok rfl (wl_nil (f_then (c_seq (c_if rfl (fun hc => ?_) (fun hc => ?_)))))))
  · have hk' : k < ws.length := by omega
    obtain ⟨eb, eo, rfl, hseg⟩ := hs.2.resolve_left (by omega)
    have hrow : Seg w eb (eo + k * 64) (bytesL ws[k]) := by
      have := (hseg.drop (k * 64)).take 64
      rwa [rows_row hu (r := bytesL ws[k]) (by simp [bl, hk'])] at this
    have hy64 := h64 _ (List.getElem_mem hk')
    refine c_skip (f_then (c_seq (c_block (c_seq (c_region (wl_p I_ok rfl (wl_nil (f_then (c_seq (c_draw rfl 6 [(0, true), (1, true), (2, true), (3, true), (4, true), (5, true)] [] (No) (by kernel_rfl) fun w3 hE3 hs3 => ?_))))))))))
    have hd3 := hb3
    have hXd := hX
    have hb3 := hb3.extNo hE3
    have hX := hX.thenNo hE3
    have hC : Ext (No) _ w3 := hE3.no
    refine wd_ldN I_ok rfl rfl (fun w' hw' => (hd3.extNo hw').seg) hbl ?_
    refine wd_k I_ok 2 rfl (wd_ix I_ok rfl rfl 64 rfl k rfl hk' (eo + k * 64) rfl (wd_ldN I_ok rfl rfl (fun w' hw' => hrow.extNo (hXd.thenNo hw')) (bytesL_len hy64) ?_))
    refine wd_eqA (xs := b) (ys := ws[k]) I_ok rfl rfl (by kernel_rfl) rfl rfl hb hy64 (wd_sw (wb_nil (f_then (c_if rfl (fun hc => ?_) (fun hc => ?_)))))
    · have hc : b = ws[k] := hc
      refine c_seq (c_region (wl_p I_ok rfl (wl_nil (f_then (c_ret (f_blockR (f_thenR (f_thenR (f_blockR (f_thenR (f_ret1 rfl rfl ?_)))))))))))
      exact ⟨⟨(k : Int), rfl, fun _ => by rw [hc]; exact List.getElem_mem hk', fun _ => by omega⟩, hX⟩
    · have hc : ¬ b = ws[k] := hc
      refine c_skip (f_blockN (f_then (c_region (wl_p I_ok rfl ?_))))
      rw [IntWalk.i64_in _ (by omega)]
      refine wl_nil ?_
      exact f_round (k + 1) rfl ⟨⟨by omega, fun j hj h => if e : j = k then (by subst e; exact hc) else hnot j hj (by omega)⟩, hb3, hX⟩ (by first | omega | (dsimp only; omega))
  · refine c_exit ?_
    refine f_thenE (f_thenE (f_blockE (f_then (c_seq (c_region (wl_p I_ok rfl (wl_nil (f_then (c_ret (f_ret1 rfl rfl (⟨⟨-1, rfl, fun h => by omega, fun h => ?_⟩, hX⟩)))))))))))
    obtain ⟨j, hj, e⟩ := List.mem_iff_getElem.1 h
    exact absurd e.symm (hnot j hj (by omega))

theorem contains_calls (w : World) {p : Option Addr} {c : Nat} {ws : List (List Int)} {b : List Int} (hs : Sl w p ws.length 64 (bl ws).flatten) (h64 : ∀ x ∈ ws, x.length = 64) (hb : b.length = 64) (hn : ws.length < 1000000000) :
    CallsV Try.prog 35 [.slice p ws.length c, numA .u8 b] w fun v w' => v = .bool (decide (b ∈ ws)) ∧ Ext No w w' := by
  refine calls_enter Try.func35 rfl rfl rfl rfl ?_
  have hX := Ext.refl No w
  refine c_seq (c_region (wl (st_al I_ok rfl fun b3 w1 hn3 hb3 hE1 => ?_)))
  have fr3 := Nat.le_trans hX.size hn3
  have hX := hX.thenNo hE1
  have hb3 : Blk w1 b3 29 (bytesL b) := by rw [← cells_num]; exact hb3
  refine wl_p I_ok rfl (wl_nil (f_then (c_seq (c_region (wl_p I_ok rfl (wl (st_ldB I_ok hb3 rfl (bytesL_len hb) (wl (st_call Try.call56 rfl rfl rfl rfl rfl rfl (index_calls w1 (hs.extNo hX) h64 hb hn) fun v2 w2 hr2 => ?_)))))))))
  obtain ⟨⟨r, rfl, hr⟩, hE2⟩ := hr2
  have hb3 := hb3.extNo hE2
  have hX := hX.thenNo hE2
  refine wl_p I_ok rfl (wl_nil (f_then (c_ret (f_ret1 rfl rfl ?_))))
  exact ⟨congrArg Value.bool (decide_eq_decide.2 hr), hX⟩
end Go.Proofs.Ytoldbdocgimpnaa
