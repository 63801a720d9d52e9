/- does the disk tell what the document says? -/
import Derived.Test.YtoldbdocgimpnaaR6
namespace Go.Proofs.Ytoldbdocgimpnaa
open Go.Vc

def waits (D : Dsk) : List Int := D.order.map fun k : Nat => (k : Int)
theorem waits_len (D : Dsk) : (waits D).length = D.order.length := by simp [waits]
theorem pending_ints (w : World) {d m : Nat} {F : Nat → Prop} {D : Dsk} (h : At w d F D) (hok : D.Ok m) (hm : m < 1000000000) :
    CallsV Try.prog 16 [.pointer (some ⟨d, 0, none⟩)] w fun v w' => ∃ b, v = .slice (some ⟨b, 0, none⟩) (waits D).length (waits D).length ∧ w.heap.size ≤ b ∧ Blk w' b 3 (intsL (waits D)) ∧ Ext No w w' := by
  refine (pending_calls w h hok hm).mono fun v w' ⟨b, h1, h2, h3, h4⟩ => ⟨b, by rw [waits_len]; exact h1, h2, ?_, h4⟩
  have e : orderL D.order = intsL (waits D) := by simp [orderL, intsL, waits]
  rw [← e]; exact h3
theorem stands_calls (w : World) {d m : Nat} {F : Nat → Prop} {D : Dsk} (h : At w d F D) (hok : D.Ok m) (hm : m < 1000000000) (x : RDsk) (p : Option Addr) (c : Nat) (hR : RefW w p x.wr) (hn : x.wr.length < 1000000000) {s t : Wr} (hG : Goes D x s t) :
    CallsV Try.prog 21 [.pointer (some ⟨d, 0, none⟩), .agg (refL x p c).toArray] w fun v w' => v = .bool true ∧ Ext No w w' := by
  have hwt : waits D = x.waiting := (waiting_goes hG).symm
  have hfew := hok.few
  have hwl := waits_len D
  refine calls_enter Try.func21 rfl rfl rfl rfl ?_
  have hX := Ext.refl No w
  refine c_seq (c_region (wl (st_al I_ok rfl fun b3 w1 hn3 hb3 hE1 => ?_)))
  have fr3 := Nat.le_trans hX.size hn3
  have hX := hX.thenNo hE1
  have hb3 : Blk w1 b3 48 (refL x p c) := hb3
  refine wl_p I_ok rfl (wl_nil (f_then (c_seq (c_region (wl_p I_ok rfl (wl (st_call Try.call16 rfl rfl rfl rfl rfl rfl (pending_ints w1 (h.extNo hX) hok hm) fun v2 w2 hr2 => ?_)))))))
  obtain ⟨b5, rfl, hn5, hb5, hE2⟩ := hr2
  have ne3_5 : b3 ≠ b5 := Nat.ne_of_lt (Nat.lt_of_lt_of_le hb3.lt hn5)
  have fr5 := Nat.le_trans hX.size hn5
  have hb3 := hb3.extNo hE2
  have hX := hX.thenNo hE2
  refine wl_p I_ok rfl (wl_nil (f_then (c_cutK (α := Bool) [0, 3, 5] rfl (fun z => [(6, .bool z)]) (fun z u => (z = true) ∧ Blk u b3 48 (refL x p c) ∧ Blk u b5 3 (intsL (waits D)) ∧ Ext No w u) ?_ ?_)))
  · refine c_draw rfl 26 [(0, true), (1, true), (2, false), (3, false), (4, true), (5, true), (7, true), (8, true), (6, false), (9, true), (10, true), (11, true), (12, true), (14, true), (15, true), (13, false), (16, true), (17, true), (18, true), (19, true), (21, true), (22, true), (20, false), (23, true), (24, true), (25, true)] [] (No) (by kernel_rfl) fun w3 hE3 hs3 => ?_
    have hd3 := hb3
    have hd5 := hb5
    have hb3 := hb3.extNo hE3
    have hb5 := hb5.extNo hE3
    have hX := hX.thenNo hE3
    have hC : Ext (No) _ w3 := hE3.no
    refine wd_k I_ok 1 rfl (wd_ldN I_ok rfl rfl (fun w' hw' => (hd3.extNo hw').seg) rfl ?_)
    refine wd_l rfl (st_call Try.call43 rfl rfl rfl rfl rfl rfl (waiting_calls w3 x p c (hR.extNo hX) hn) fun v4 w4 hr4 => ⟨(by obtain ⟨q2, qc, rfl, hq2, hE4⟩ := hr4; exact hC.thenNo hE4), ?_⟩)
    obtain ⟨q2, qc, rfl, hq2, hE4⟩ := hr4
    have hb3 := hb3.extNo hE4
    have hb5 := hb5.extNo hE4
    have hX := hX.thenNo hE4
    have hC := hC.thenNo hE4
    refine wd_l rfl (st_call Try.call32 rfl rfl rfl rfl rfl rfl (equal_calls w4 ⟨by simp [intsL], .inr ⟨b5, 0, rfl, hb5.seg⟩⟩ hq2 (by omega)) fun v5 w5 hr5 => ⟨(by obtain ⟨rfl, hE5⟩ := hr5; exact hC.thenNo hE5), ?_⟩)
    obtain ⟨rfl, hE5⟩ := hr5
    have hb3 := hb3.extNo hE5
    have hb5 := hb5.extNo hE5
    have hX := hX.thenNo hE5
    have hC := hC.thenNo hE5
    refine wd_k I_ok 1 rfl (wd_caseD 14 rfl (fun hg => ?_) (fun hg => ?_))
    · refine wd_k I_ok 2 rfl ?_
      refine wd_ld I_ok rfl rfl (fun w' hw' => (hd3.extNo hw').cell rfl) ?_
      refine wd_l rfl (st_call Try.call36 rfl rfl rfl rfl rfl rfl ((len_calls w5 (h.extNo hX)).same) fun v6 w6 hr6 => ⟨(by obtain ⟨rfl, hE6⟩ := hr6; exact hC.thenNo hE6), ?_⟩)
      obtain ⟨rfl, hE6⟩ := hr6
      have hb3 := hb3.extNo hE6
      have hb5 := hb5.extNo hE6
      have hX := hX.thenNo hE6
      have hC := hC.thenNo hE6
      refine wd_k I_ok 3 rfl (wd_caseD 21 rfl (fun hg => ?_) (fun hg => ?_))
      · refine wd_k I_ok 2 rfl ?_
        refine wd_ld I_ok rfl rfl (fun w' hw' => (hd3.extNo hw').cell rfl) ?_
        refine wd_l rfl (st_call Try.call29 rfl rfl rfl rfl rfl rfl ((dead_calls w6 (h.extNo hX)).same) fun v7 w7 hr7 => ⟨(by obtain ⟨rfl, hE7⟩ := hr7; exact hC.thenNo hE7), ?_⟩)
        obtain ⟨rfl, hE7⟩ := hr7
        have hb3 := hb3.extNo hE7
        have hb5 := hb5.extNo hE7
        have hX := hX.thenNo hE7
        have hC := hC.thenNo hE7
        refine wd_k I_ok 3 rfl (wd_case 28 rfl (fun hg => ?_) (fun hg => ?_))
        · refine wd_k I_ok 2 rfl ?_
          refine wd_ld I_ok rfl rfl (fun w' hw' => (hd3.extNo hw').cell rfl) ?_
          refine wd_l rfl (st_call Try.call33 rfl rfl rfl rfl rfl rfl ((ops_calls w7 (h.extNo hX)).same) fun v8 w8 hr8 => ⟨(by obtain ⟨rfl, hE8⟩ := hr8; exact hC.thenNo hE8), ?_⟩)
          obtain ⟨rfl, hE8⟩ := hr8
          have hb3 := hb3.extNo hE8
          have hb5 := hb5.extNo hE8
          have hX := hX.thenNo hE8
          have hC := hC.thenNo hE8
          refine wd_k I_ok 3 rfl (wd_sw (wb_nil ?_))
          exact f_cut (decide (D.done = x.done)) rfl ⟨decide_eq_true hG.done.symm, hb3, hb5, hX⟩
        · exact absurd hg (by rw [hG.dead]; simp)
      · exact absurd hG.n.symm hg
    · exact absurd hwt hg
  rintro z w9 ⟨rfl, hb3, hb5, hX⟩
  refine c_seq (c_seq (c_region (wl_p I_ok rfl (wl_nil (f_then (c_block ?_))))))
  refine c_loopK (α := Nat × List Int) [0, 3, 5, 6, 36] rfl (fun z => [(37, .int .i64 (z.1 : Int))]) (fun z u => (z.1 ≤ (waits D).length ∧ z.2.length = (waits D).length) ∧ Blk u b3 48 (refL x p c) ∧ Blk u b5 3 (intsL z.2) ∧ Ext No w u) (fun z u => (waits D).length - z.1) (0, waits D) rfl ⟨⟨Nat.zero_le _, rfl⟩, hb3, hb5, hX⟩ ?_
  rintro ⟨k, l⟩ w10 ⟨⟨hk, hl⟩, hb3, hb5, hX⟩
  dsimp only
  dsimp only at hk hl hb5
  refine c_seq (c_region (wl_p I_ok rfl (wl_nil (f_then (c_seq (c_if rfl (fun hc => ?_) (fun hc => ?_)))))))
  · have hk' : k < (waits D).length := by omega
    refine c_skip (f_then (c_seq (c_block (c_seq (c_region (wl_p I_ok rfl (wl_nil (f_then (c_region (wl_p I_ok rfl (wl (st_ix I_ok rfl 1 rfl k rfl hk' (0 + k * 1) rfl ?_))))))))))))
    refine wl (st_ld I_ok rfl (hb5.cell (i := 0 + k * 1) (v := .int .i64 (l[k]'(by omega))) (by simp [intsL, hl, hk'])) (wl_p I_ok rfl (wl (st_ix I_ok rfl 1 rfl k rfl hk' (0 + k * 1) rfl ?_))))
    refine wl (st_set I_ok hb5 rfl rfl (by simp [intsL, hl, hk']) fun w11 hb5 hE11 hs11 => ?_)
    have hb3 := hb3.ext1 hE11 ne3_5
    have hX := hX.thenNew hE11 fr5
    have hb5 : Blk w11 b5 3 (intsL (l.set k (IntKind.i64.wrap (l[k]'(by omega) + 5)))) := by simpa [intsL, List.map_set] using hb5
    refine wl_nil (f_blockN (f_then (c_region (wl_p I_ok rfl ?_))))
    rw [IntWalk.i64_in _ (by omega)]
    refine wl_nil ?_
    exact f_round (k + 1, _) rfl ⟨⟨by dsimp only; omega, by simpa using hl⟩, hb3, hb5, hX⟩ (by first | omega | (dsimp only; omega))
  · refine c_exit ?_
    refine f_thenE (f_thenE (f_blockE (f_then (c_cutK (α := Bool) [] rfl (fun z => [(4, .bool z)]) (fun z u => (z = true) ∧ Blk u b3 48 (refL x p c) ∧ Blk u b5 3 (intsL l) ∧ Ext No w u) ?_ ?_))))
    · refine c_draw rfl 9 [(0, true), (1, true), (2, true), (4, true), (3, false), (5, false), (6, false), (7, true), (8, true)] [] (No) (by kernel_rfl) fun w12 hE12 hs12 => ?_
      have hd3 := hb3
      have hd5 := hb5
      have hb3 := hb3.extNo hE12
      have hb5 := hb5.extNo hE12
      have hX := hX.thenNo hE12
      have hC : Ext (No) _ w12 := hE12.no
      refine wd_k I_ok 2 rfl (wd_case 48 rfl (fun hg => ?_) (fun hg => ?_))
      · refine wd_k I_ok 1 rfl ?_
        refine wd_ldN I_ok rfl rfl (fun w' hw' => (hd3.extNo hw').seg) rfl ?_
        refine wd_l rfl (st_call Try.call16 rfl rfl rfl rfl rfl rfl (pending_ints w12 (h.extNo hX) hok hm) fun v13 w13 hr13 => ⟨(by obtain ⟨b50, rfl, hn50, hb50, hE13⟩ := hr13; exact hC.thenNo hE13), ?_⟩)
        obtain ⟨b50, rfl, hn50, hb50, hE13⟩ := hr13
        have ne3_50 : b3 ≠ b50 := Nat.ne_of_lt (Nat.lt_of_lt_of_le hb3.lt hn50)
        have ne5_50 : b5 ≠ b50 := Nat.ne_of_lt (Nat.lt_of_lt_of_le hb5.lt hn50)
        have fr50 := Nat.le_trans hX.size hn50
        have hb3 := hb3.extNo hE13
        have hb5 := hb5.extNo hE13
        have hX := hX.thenNo hE13
        have hC := hC.thenNo hE13
        refine wd_l rfl (st_call Try.call43 rfl rfl rfl rfl rfl rfl (waiting_calls w13 x p c (hR.extNo hX) hn) fun v14 w14 hr14 => ⟨(by obtain ⟨q3, qc3, rfl, hq3, hE14⟩ := hr14; exact hC.thenNo hE14), ?_⟩)
        obtain ⟨q3, qc3, rfl, hq3, hE14⟩ := hr14
        have hb3 := hb3.extNo hE14
        have hb5 := hb5.extNo hE14
        have hb50 := hb50.extNo hE14
        have hX := hX.thenNo hE14
        have hC := hC.thenNo hE14
        refine wd_l rfl (st_call Try.call32 rfl rfl rfl rfl rfl rfl (equal_calls w14 ⟨by simp [intsL], .inr ⟨b50, 0, rfl, hb50.seg⟩⟩ hq3 (by omega)) fun v15 w15 hr15 => ⟨(by obtain ⟨rfl, hE15⟩ := hr15; exact hC.thenNo hE15), ?_⟩)
        obtain ⟨rfl, hE15⟩ := hr15
        have hb3 := hb3.extNo hE15
        have hb5 := hb5.extNo hE15
        have hb50 := hb50.extNo hE15
        have hX := hX.thenNo hE15
        have hC := hC.thenNo hE15
        refine wd_k I_ok 2 rfl (wd_sw (wb_nil ?_))
        exact f_cut (decide (waits D = x.waiting)) rfl ⟨decide_eq_true hwt, hb3, hb5, hX⟩
      · cases hg
    rintro z w16 ⟨rfl, hb3, hb5, hX⟩
    refine c_ret (f_ret1 rfl rfl ?_)
    exact ⟨rfl, hX⟩
end Go.Proofs.Ytoldbdocgimpnaa
