/- Copy -/
import Derived.Test.YtoldbdocgimpnaaW8
namespace Go.Proofs.Ytoldbdocgimpnaa
open Go.Vc

theorem flat_sec (s : List Int) (p : Option Addr) (n c : Nat) : ∀ u ∈ secRow s p n c, u.oneCell' = true := fun u hu => by
  simp only [secRow, List.mem_append, List.mem_singleton] at hu
  rcases hu with hu | rfl
  · exact one_ints u hu
  · rfl

theorem copy_calls (w : World) {d m : Nat} {F : Nat → Prop} {D : Dsk} (h : At w d F D) (hok : D.Ok m) (hm : m < 1000000000) :
    CallsV Try.prog 27 [.pointer (some ⟨d, 0, none⟩)] w fun v w' => ∃ c, v = .pointer (some ⟨c, 0, none⟩) ∧ w.heap.size ≤ c ∧ At w' c (Grow No w w') D ∧ Ext No w w' := by
  obtain ⟨sb, op, oc, h⟩ := h
  have hfew := hok.few
  have hsize := hok.size
  refine calls_enter Try.func27 rfl rfl rfl rfl ?_
  have hX := Ext.refl No w
  refine c_seq (c_region (wl_p I_ok rfl (wl_nil (f_then (c_seq (c_seq (c_region (wl_p I_ok rfl (wl_nil (f_then (c_condF rfl ?_)))))))))))
  refine c_skip ?_
  refine f_then (c_seq (c_region (wl_p I_ok rfl (wl (st_ldB I_ok h.head rfl rfl (wl (st_al I_ok rfl fun b3 w1 hn3 hb3 hE1 => ?_)))))))
  have fr3 := Nat.le_trans hX.size hn3
  have hX := hX.thenNo hE1
  refine wl (st_stW I_ok hb3 rfl rfl rfl rfl (by simp; exact ⟨rfl, rfl, rfl, rfl, rfl, rfl⟩) fun w2 hb3 hE2 hs2 => ?_)
  have hX := hX.thenNew hE2 fr3
  have h2 := h.extNo hX
  refine wl_nil (f_then (c_seq (c_region (wl_p I_ok rfl (wl (st_call Try.call16 rfl rfl rfl rfl rfl rfl (pending_calls w2 ⟨_, _, _, h2⟩ hok hm) fun v3 w3 hr3 => ?_))))))
  obtain ⟨bo, rfl, hno, hbo, hE3⟩ := hr3
  have ne3_o : b3 ≠ bo := Nat.ne_of_lt (Nat.lt_of_lt_of_le hb3.lt hno)
  have fro := Nat.le_trans hX.size hno
  have hb3 := hb3.extNo hE3
  have hX := hX.thenNo hE3
  refine wl_p I_ok rfl (wl (st_st I_ok hb3 rfl rfl rfl fun w4 hb3 hE4 hs4 => ?_))
  have hbo := hbo.ext1 hE4 ne3_o.symm
  have hX := hX.thenNew hE4 fr3
  have h4 := h.extNo hX
  refine wl_nil (f_then (c_seq (c_region (wl_p I_ok rfl (wl (st_ldb I_ok h4.head rfl rfl (wl_p I_ok rfl (wl (st_mk I_ok rfl D.secs.length D.secs.length 88 rfl (zs := secRow zeros none 0 0) (by simp [ti94, secRow, zeros, bytesL]) rfl (by decide) rfl rfl (Nat.le_refl _) (by omega) (by unfold maxLen; omega) fun b19 w5 hn19 hb19 hE5 hs5 => ?_)))))))))
  have ne3_19 : b3 ≠ b19 := Nat.ne_of_lt (Nat.lt_of_lt_of_le hb3.lt hn19)
  have neo_19 : bo ≠ b19 := Nat.ne_of_lt (Nat.lt_of_lt_of_le hbo.lt hn19)
  have fr19 := Nat.le_trans hX.size hn19
  have hb3 := hb3.extNo hE5
  have hbo := hbo.extNo hE5
  have hX := hX.thenNo hE5
  refine wl_p I_ok rfl (wl (st_st I_ok hb3 rfl rfl rfl fun w6 hb3 hE6 hs6 => ?_))
  have hb19 := hb19.ext1 hE6 ne3_19.symm
  have hbo := hbo.ext1 hE6 ne3_o.symm
  have hX := hX.thenNew hE6 fr3
  have hb3 : Blk w6 b3 76 (dskL b19 D.secs.length (some ⟨bo, 0, none⟩) D.order.length D.order.length D.dead D.fuse D.fault D.done) := hb3
  have h6 := h.extNo hX
  obtain ⟨L, hL1, hL2⟩ := h.secs
  have hu := hL2.uni
  have hlenL := rows_length hu
  refine wl_nil (f_then (c_seq (c_seq (c_region (wl_p I_ok rfl (wl (st_ldb I_ok h6.head rfl rfl (wl_p I_ok rfl (wl_nil (f_then (c_block ?_)))))))))))
  refine c_loop (α := Nat × List Sec) (fun z u => z.1 ≤ D.secs.length ∧ z.2.length = D.secs.length ∧ (∀ j, j < z.1 → z.2[j]? = D.secs[j]?) ∧ Ext No w u ∧
      Blk u b3 76 (dskL b19 D.secs.length (some ⟨bo, 0, none⟩) D.order.length D.order.length D.dead D.fuse D.fault D.done) ∧ Blk u bo 3 (orderL D.order) ∧ ∃ M, Blk u b19 94 (List.flatten M) ∧ RowsAt u (Grow No w u) z.2 M)
    (fun z => [(26, .int .i64 (z.1 : Int)), (3, .pointer (some ⟨b3, 0, none⟩)), (24, .slice (some ⟨sb, 0, none⟩) D.secs.length D.secs.length), (25, .int .i64 (D.secs.length : Int))]) (fun z u => D.secs.length - z.1) (0, (Dsk.fresh D.secs.length).secs) rfl ?_ ?_
  · exact ⟨Nat.zero_le _, by simp [Dsk.fresh], fun j hj => absurd hj (by simp), hX, hb3, hbo, _, hb19, fresh_rows _ _ _⟩
  rintro ⟨i, cur⟩ u ⟨hi, hlen, hsame, hXu, hb3, hbo, M, hM1, hM2⟩
  dsimp only at hi hlen hsame hM2 ⊢
  refine c_seq ?_
  refine c_region (wl_p I_ok rfl (wl_nil (f_then (c_seq (c_if rfl (fun hc => ?_) (fun hc => ?_))))))
  · have hi' : i < D.secs.length := by omega
    have hs : D.secs[i]? = some D.secs[i] := by simp [hi']
    generalize hss : D.secs[i] = s at hs
    have hiL : i < L.length := by rw [hL2.1]; exact hi'
    have hr : L[i]? = some L[i] := by simp
    generalize hrd : L[i] = r at hr
    obtain ⟨p, c, hrow, hcap, h64, hw64, hsl, hpF⟩ := (hL2.2 i s r hs hr).ext hXu fun _ _ _ => id
    have hfewS := waits_few hok hs
    have hrlen : r.length = 65 := by rw [hrow]; simp [secRow, bytesL, h64]
    have hrseg : Seg u sb (0 + i * 65) r := by
      have := ((hL1.extNo hXu).seg.drop (i * 65)).take 65
      rwa [rows_row hu hr] at this
    refine c_skip ?_
    refine f_then (c_seq (c_block (c_seq (c_region (wl_p I_ok rfl (wl (st_ix I_ok rfl 65 rfl i rfl hi' (0 + i * 65) rfl (wl (st_ldN I_ok rfl hrseg hrlen (wl (st_al I_ok rfl fun b5 w7 hn5 hb5 hE7 => ?_)))))))))))
    have ne3_5 : b3 ≠ b5 := Nat.ne_of_lt (Nat.lt_of_lt_of_le hb3.lt hn5)
    have neo_5 : bo ≠ b5 := Nat.ne_of_lt (Nat.lt_of_lt_of_le hbo.lt hn5)
    have ne19_5 : b19 ≠ b5 := Nat.ne_of_lt (Nat.lt_of_lt_of_le hM1.lt hn5)
    have fr5 := Nat.le_trans hXu.size hn5
    have hb3 := hb3.extNo hE7
    have hbo := hbo.extNo hE7
    have hM1u := hM1
    have hM1 := hM1.extNo hE7
    have hX := hXu.thenNo hE7
    have hXX : Ext No u w7 := hE7
    subst hrow
    refine wl_p I_ok rfl (wl (st_stW I_ok hb5 rfl rfl (by rw [cellsOf_agg]; exact hrlen) (by rw [cellsOf_agg, hrlen]; rfl) (by rw [cellsOf_agg]; exact flat_sec _ _ _ _) fun w8 hb5 hE8 hs8 => ?_))
    have hb5 : Blk w8 b5 94 (secRow s.safe p s.waits.length c) := hb5
    have hb3 := hb3.ext1 hE8 ne3_5
    have hbo := hbo.ext1 hE8 neo_5
    have hM1 := hM1.ext1 hE8 ne19_5
    have hXX := hXX.thenNew hE8 hn5
    have hX := hX.thenNew hE8 fr5
    have hMlen : M.length = D.secs.length := hM2.1.trans hlen
    have hiM : i < M.length := by omega
    have hx : M[i]? = some M[i] := by simp
    generalize hxd : M[i] = x at hx
    have hcs : cur[i]? = some (cur[i]'(by omega)) := by simp [show i < cur.length by omega]
    generalize hcd : cur[i]'(by omega) = s0 at hcs
    obtain ⟨p0, c0, hrow0, _, h640, _, _, _⟩ := hM2.2 i s0 x hcs hx
    have huM := hM2.uni
    have hlenM := rows_length huM
    have hbig := Nat.mul_le_mul_right 65 (Nat.succ_le_of_lt hiM)
    have hcell5 : w8.cell? ⟨b5, 64, none⟩ = some (.slice p s.waits.length c) := hb5.cell (by simp [secRow, bytesL, h64])
    have hseg5 : Seg w8 b5 0 (bytesL s.safe) := by
      have := hb5.seg.take 64
      simpa [secRow, bytesL, h64] using this
    refine wl_nil (f_then (c_seq (c_region (wl_p I_ok rfl (wl (st_ldb I_ok hb3 rfl rfl (wl_p I_ok rfl (wl (st_ldN I_ok rfl hseg5 (by simp [bytesL, h64]) (wl (st_ix I_ok rfl 65 rfl i rfl (by omega) (0 + i * 65) rfl (wl_p I_ok rfl ?_))))))))))))
    refine wl (st_stN I_ok hM1 rfl (by rw [cellsOf_agg]; simp [bytesL, h64]) (by rw [hlenM]; show 0 + i * 65 + 64 ≤ _; omega) (by rw [cellsOf_agg]; exact one_ints) fun w9 hM9 hE9 hs9 => ?_)
    have hM9 : Blk w9 b19 94 (Vc.put M.flatten (i * 65 + 0) (bytesL s.safe)) := by simpa using hM9
    rw [rows_put huM hx _ (by simp [bytesL, h64])] at hM9
    have hrow9 : Vc.put x 0 (bytesL s.safe) = secRow s.safe p0 s0.waits.length c0 := by
      rw [hrow0, put_eq _ _ _ (by simp [secRow, bytesL, h64, h640])]
      simp [secRow, bytesL, h64, h640]
    rw [hrow9] at hM9
    have hb3 := hb3.ext1 hE9 ne3_19
    have hbo := hbo.ext1 hE9 neo_19
    have hcell5 := cell_ext hcell5 hE9 (Ne.symm ne19_5)
    have hX := hX.thenNew hE9 fr19
    have hXX : Ext (Vc.One b19) u w9 := hXX.no.then hE9
    refine wl_nil (f_then (c_draw rfl 7 [(0, true), (1, true), (2, true), (4, true), (5, true), (3, false), (6, false)] [7, 8, 9] No (by kernel_rfl) fun w10 hE10 hs10 => ?_))
    have hXX := hXX.thenNo hE10
    have hX := hX.thenNo hE10
    refine wd_p I_ok rfl (wd_ld I_ok rfl rfl (fun w' hw' => (hb3.extNo hw').cell rfl) ?_)
    refine wd_p I_ok rfl (wd_ld I_ok rfl rfl (fun w' hw' => cell_ext hcell5 hw' id) ?_)
    refine wd_l rfl (st_bs I_ok rfl 64 rfl z29 (bytesL_len zeros_length) (by decide) (by decide) trivial (l' := []) rfl fun b43 w11 hn43 hb43 hE11 hs11 => ⟨hE10.thenNo hE11, ?_⟩)
    have fr43 := Nat.le_trans hX.size hn43
    have fr43u := Nat.le_trans hXX.size hn43
    have hXX := hXX.thenNo hE11
    have hX := hX.thenNo hE11
    have hE911 := hE10.thenNo hE11
    have hown : Own w11 (some ⟨b43, 0, none⟩) 0 0 29 64 [] := .inr ⟨b43, [], rfl, hb43, rfl, Nat.le_refl _, by unfold maxLen; omega, rfl⟩
    have hSt : ∀ x, TyB u x 29 → x ≠ b19 := fun x hx => hx.ne hM1u (by decide)
    have hsl11 := hsl.ext hXX fun b off hb => hSt b (hpF b off hb).2
    have hsrc : Src Try.prog w11 64 (.slice p s.waits.length c) s.waits.length (bl s.waits).flatten := Src.slice hsl11 fun v hv => by
      simp only [bl, bytesL, List.mem_flatten, List.mem_map] at hv
      obtain ⟨l, ⟨b, _, rfl⟩, hv⟩ := hv
      exact one_ints v hv
    refine wd_l rfl (st_app I_ok rfl 64 64 rfl rfl (by rw [z29]; exact bytesL_len zeros_length) (by decide) hown hsrc (by dsimp only [maxLen]; omega) (by dsimp only; omega) fun p12 c12 w12 ho12 hE12 hB12 => ⟨hE911.trans hE12 fun x hx e => ?_, ?_⟩)
    · simp at e
    have ho12 : Own w12 p12 (0 + s.waits.length) c12 29 64 (bl s.waits).flatten := ho12
    rw [Nat.zero_add] at ho12
    have hE12' : Ext (Vc.One b43) w11 w12 := hE12.mono fun x _ e => by simp at e; exact e.symm
    have hXX := hXX.thenNew hE12' fr43u
    have hX := hX.thenNew hE12' fr43
    have hM12 := (hM9.extNo hE911).ext1 hE12' (Nat.ne_of_lt (Nat.lt_of_lt_of_le hM9.lt (Nat.le_trans hE10.size hn43)))
    have hu9 : Uni 65 (M.set i (secRow s.safe p0 s0.waits.length c0)) := huM.set i (by simp [secRow, bytesL, h64])
    have hx9 : (M.set i (secRow s.safe p0 s0.waits.length c0))[i]? = some (secRow s.safe p0 s0.waits.length c0) := by simp [hiM]
    have hlen9 := rows_length hu9
    rw [List.length_set] at hlen9
    refine wd_sw (wb rfl (st_ix I_ok rfl 65 rfl i rfl (by omega) (0 + i * 65) rfl (wb rfl (st_p I_ok rfl rfl rfl (wb rfl (st_set I_ok hM12 rfl rfl (by rw [hlen9]; show 0 + i * 65 + 64 < _; omega) fun w13 hM13 hE13 hs13 => ?_))))))
    have hM13 : Blk w13 b19 94 ((M.set i (secRow s.safe p0 s0.waits.length c0)).flatten.set (0 + i * 65 + 64) (.slice p12 (0 + s.waits.length) c12)) := hM13
    rw [Nat.zero_add, Nat.zero_add] at hM13
    have hM13 : Blk w13 b19 94 (Vc.put (M.set i (secRow s.safe p0 s0.waits.length c0)).flatten (i * 65 + 64) [.slice p12 s.waits.length c12]) := hM13
    rw [rows_put hu9 hx9 _ (by simp), List.set_set] at hM13
    have hXX := hXX.then hE13
    have hX := hX.thenNew hE13 fr19
    have hrow13 : Vc.put (secRow s.safe p0 s0.waits.length c0) 64 [.slice p12 s.waits.length c12] = secRow s.safe p12 s.waits.length c12 := by
      rw [put_eq _ _ _ (by simp [secRow, bytesL, h64])]
      simp [secRow, bytesL, h64]
    rw [hrow13] at hM13
    have hE913 : Ext (fun x => x = b43 ∨ x = b19) w9 w13 := ((hE911.no.then (hE12'.mono fun _ _ e => .inl e))).then (hE13.mono fun _ _ e => .inr e)
    have hb3' := hb3.ext hE913 fun e => e.elim (fun e => Nat.ne_of_lt (Nat.lt_of_lt_of_le hb3.lt (Nat.le_trans hE10.size hn43)) e) ne3_19
    have hbo' := hbo.ext hE913 fun e => e.elim (fun e => Nat.ne_of_lt (Nat.lt_of_lt_of_le hbo.lt (Nat.le_trans hE10.size hn43)) e) neo_19
    refine wb_nil (f_blockN (f_then (c_region (wl_p I_ok rfl ?_))))
    rw [IntWalk.i64_in _ (by omega)]
    refine wl_nil (f_round (i + 1, cur.modify i fun _ => s) rfl ⟨by simp only; omega, by simp only [List.length_modify]; omega, ?_, hX, hb3', hbo', _, hM13, ?_⟩ (by simp only; omega))
    · intro j hj
      simp only at hj ⊢
      rw [List.getElem?_modify]
      by_cases hij : i = j
      · subst hij
        rw [hcs, hs]
        simp
      · rw [hsame j (by omega)]
        simp [hij]
    · have hM2u : RowsAt w13 (Grow No w w13) cur M := (hM2.ext hXX fun x _ hx => hSt x hx).mono fun x hx => hx.wide (Nat.le_refl _) hXX.size
      refine hM2u.modify fun _ _ => ?_
      have hnew : ∀ b off, p12 = some ⟨b, off, none⟩ → w.heap.size ≤ b ∧ TyB w12 b 29 ∧ off = 0 := by
        intro b off hb
        have hown12 : OwnB p12 b ∧ off = 0 := by
          rcases ho12 with ⟨hp, _⟩ | ⟨b', l, hp, _⟩
          · rw [hp] at hb; cases hb
          · rw [hp] at hb; simp at hb; obtain ⟨rfl, rfl⟩ := hb; exact ⟨hp, rfl⟩
        refine ⟨?_, Own.ty ho12 hown12.1, hown12.2⟩
        rcases hB12 b hown12.1 with h' | h'
        · have h' : some (⟨b43, 0, none⟩ : Addr) = some ⟨b, 0, none⟩ := h'
          have h' : b43 = b := by simp at h'; exact h'
          omega
        · have := hb43.lt
          omega
      have hb19at : ∀ b, TyB w12 b 29 → b ≠ b19 := fun b hb => hb.ne hM12 (by decide)
      refine ⟨p12, c12, rfl, ho12.cap, h64, hw64, ?_, fun b off hb => ?_⟩
      · exact ho12.sl.ext hE13 fun b off hb => hb19at b (hnew b off hb).2.1
      · have hty := (hnew b off hb).2.1.ext hE13 (hb19at b (hnew b off hb).2.1)
        obtain ⟨l, hl⟩ := hty
        exact ⟨.inr ⟨(hnew b off hb).1, hl.lt⟩, l, hl⟩
  · have hie : i = D.secs.length := by omega
    refine c_exit ?_
    refine f_thenE (f_thenE (f_blockE (f_then (c_seq (c_region (wl_p I_ok rfl (wl_nil (f_then (c_ret (f_ret1 rfl rfl ?_))))))))))
    have hcur : cur = D.secs := by
      apply List.ext_getElem?
      intro j
      by_cases hj : j < i
      · exact hsame j hj
      · rw [List.getElem?_eq_none (by omega), List.getElem?_eq_none (by omega)]
    rw [hcur] at hM2
    refine ⟨b3, rfl, fr3, ⟨b19, some ⟨bo, 0, none⟩, D.order.length, hb3, ⟨M, hM1, hM2⟩, ?_, ⟨.inr ⟨fr3, hb3.lt⟩, .inr ⟨fr19, hM1.lt⟩, fun x hx => ?_⟩, fun x hx => hx.elim False.elim fun h => h.2⟩, hXu⟩
    · have := Own.blk hbo 1 (n := D.order.length) (c := D.order.length) (by simp [orderL]) (Nat.le_refl _) (by unfold maxLen; omega)
      rwa [List.take_of_length_le (by simp [orderL])] at this
    · simp at hx
      subst hx
      exact .inr ⟨fro, hbo.lt⟩
end Go.Proofs.Ytoldbdocgimpnaa
