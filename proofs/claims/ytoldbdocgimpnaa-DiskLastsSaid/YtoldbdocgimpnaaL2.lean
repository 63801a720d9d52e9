/- happens -/
import Derived.Test.YtoldbdocgimpnaaL1
namespace Go.Proofs.Ytoldbdocgimpnaa
open Go.Vc

/-- an act happens to a disk -/
def Dsk.act (D : Dsk) (a : PAct) : Dsk × List Int × Int :=
  if whichN a.k = 0 then D.read a.n
  else if whichN a.k = 1 ∨ whichN a.k = 2 then ((D.write a.n (actBytes a.b)).1, zeros, (D.write a.n (actBytes a.b)).2)
  else if whichN a.k = 3 then (D.sync.1, zeros, D.sync.2)
  else if whichN a.k = 4 then ((D.arm a.n).1, zeros, (D.arm a.n).2)
  else if whichN a.k = 5 then ((D.fail a.n).1, zeros, (D.fail a.n).2)
  else (D.crash (a.keep.take 200), zeros, 0)

theorem actBytes_length (b : Int) : (actBytes b).length = 64 := by simp [actBytes]

theorem Dsk.Ok.act {D : Dsk} {m : Nat} (h : D.Ok m) (a : PAct) (h1 : -9223372036854775808 ≤ a.n) (h2 : a.n < 9223372036854775808) : (D.act a).1.Ok (m + 2) := by
  unfold Dsk.act
  split
  · exact (h.begin a.n false).mono (by omega)
  split
  · simp only [Dsk.write]
    split
    · rename_i h0
      have hb := Dsk.begin0 _ _ h0
      have hs := D.begin_secs a.n true
      exact (h.begin a.n true).put (i := a.n.toNat) (by rw [hs.1]; omega) (actBytes_length a.b)
    · exact (h.begin a.n true).mono (by omega)
  split
  · simp only [Dsk.sync]
    split
    · exact ((h.begin 0 true).settle _).mono (by omega)
    · exact (h.begin 0 true).mono (by omega)
  split
  · simp only [Dsk.arm]
    split
    · exact h.mono (by omega)
    · exact ⟨h.size, h.safe, h.inside, h.count, Nat.le_trans h.few (by omega), setTo_ge _ h2, h.fault, by have := h.done; simp only; omega⟩
  split
  · simp only [Dsk.fail]
    split
    · exact h.mono (by omega)
    · exact ⟨h.size, h.safe, h.inside, h.count, Nat.le_trans h.few (by omega), h.fuse, setTo_ge _ h2, by have := h.done; simp only; omega⟩
  · exact (h.crash _).mono (by omega)

theorem read_at (w : World) {d m : Nat} {F : Nat → Prop} {D : Dsk} (h : At w d F D) (hok : D.Ok m) (hm : m < 1000000000) (i : Int) :
    CallsV Try.prog 24 [.pointer (some ⟨d, 0, none⟩), .int .i64 i] w fun v w' => v = .tuple #[numA .u8 (D.read i).2.1, .int .i64 (D.read i).2.2] ∧ At w' d F (D.read i).1 ∧ Ext F w w' := by
  obtain ⟨sb, op, oc, h⟩ := h
  refine (read_calls w h hok hm i).mono fun v w' ⟨h1, h2, h3⟩ => ⟨h1, ⟨_, _, _, h2⟩, h3.mono fun x _ e => e ▸ h.own.1⟩

theorem read_len {D : Dsk} {m : Nat} (hok : D.Ok m) (i : Int) : (D.read i).2.1.length = 64 := by
  unfold Dsk.read
  dsimp only
  split
  · exact now_length (hok.begin i false) _
  · exact zeros_length

theorem happens_calls (w : World) {d m : Nat} {F : Nat → Prop} {D : Dsk} (h : At w d F D) (hok : D.Ok m) (hm : m + 1 < 1000000000) {G : Nat → Prop} {a : PAct} {r : List Value} (ha : ActAt w G a r) :
    CallsV Try.prog 15 [.pointer (some ⟨d, 0, none⟩), .agg r.toArray] w fun v w' => v = .tuple #[numA .u8 (D.act a).2.1, .int .i64 (D.act a).2.2] ∧ At w' d (Grow F w w') (D.act a).1 ∧ Ext F w w' := by
  obtain ⟨p, c, rfl, hc, _, hs, hsG, hn1, hn2⟩ := ha
  refine calls_enter Try.func15 rfl rfl rfl rfl ?_
  have hX := Ext.refl No w
  refine c_seq (c_region (wl (st_al I_ok rfl fun b3 w1 hn3 hb3 hE1 => ?_)))
  have fr3 := Nat.le_trans hX.size hn3
  have hX := hX.thenNo hE1
  refine wl (st_al I_ok rfl fun b4 w2 hn4 hb4 hE2 => ?_)
  have ne3_4 : b3 ≠ b4 := Nat.ne_of_lt (Nat.lt_of_lt_of_le hb3.lt hn4)
  have fr4 := Nat.le_trans hX.size hn4
  have hb3 := hb3.extNo hE2
  have hX := hX.thenNo hE2
  have hb3 : Blk w2 b3 35 (actV a p c) := hb3
  have hb4 : Blk w2 b4 29 (bytesL zeros) := by rw [← z29]; exact hb4
  have hnF : ∀ x, w.heap.size ≤ x → ¬ F x := fun x hx e => by have := h.lt x e; omega
  have h2 := h.extNo hX
  have lt4 : b4 < w2.heap.size := hb4.lt
  have nG4 : ∀ u, ¬ Grow F w2 u b4 := fun u e => e.elim (hnF b4 fr4) fun e => by omega
  have n3 : ¬ F b3 := hnF b3 fr3
  have n4 : ¬ F b4 := hnF b4 fr4
  refine wl_p I_ok rfl (wl_nil (f_then (c_cutK (α := List Int × Int) [4] rfl (fun z => [(5, .int .i64 z.2)]) (fun z u => z = (D.act a).2 ∧ Blk u b4 29 (bytesL z.1) ∧ z.1.length = 64 ∧ At u d (Grow F w2 u) (D.act a).1 ∧ Ext F w u) ?_ ?_)))
  · refine c_seq ?_
    refine c_region (wl (st_ldB I_ok hb3 rfl rfl (wl (st_call Try.call13 rfl rfl rfl rfl rfl rfl (which_calls w2 a p c) fun v3 w3 hr3 => ?_))))
    obtain ⟨rfl, hE3⟩ := hr3
    have hb3 := hb3.extNo hE3
    have hb4 := hb4.extNo hE3
    have hX := hX.thenNo hE3
    have h3 := h2.extNo hE3
    have h23 := hE3.size
    refine wl_nil (f_then (c_block (c_seq (c_region (wl_p I_ok rfl (wl_nil (f_then (c_if rfl (fun hc => ?_) (fun hc => ?_)))))))))
    · have hc : whichN a.k = 0 := by omega
      have e : D.act a = D.read a.n := by rw [Dsk.act, if_pos hc]
      refine c_seq ?_
      refine c_region (wl_p I_ok rfl (wl (st_ldb I_ok hb3 rfl rfl (wl (st_call Try.call24 rfl rfl rfl rfl rfl rfl (read_at w3 h3 hok (by omega) a.n) fun v4 w4 hr4 => ?_)))))
      obtain ⟨rfl, h4, hE4⟩ := hr4
      have hb4 := hb4.ext hE4 n4
      have hl : (bytesL (D.read a.n).2.1).length = 64 := bytesL_len (read_len hok a.n)
      refine wl_p I_ok rfl (wl (st_stW I_ok hb4 rfl (by rw [cells_num]) hl (by rw [hl, bytesL_len zeros_length]) one_ints fun w5 hb4 hE5 hs5 => ?_))
      have hX5 : Ext F w w5 := (hX.no.trans hE4 fun x _ => id).trans hE5 fun x hx e => by rw [e] at hx; omega
      refine wl_p I_ok rfl (wl_nil (f_then (c_ret (f_blockR (f_thenR (f_ret [_, _] ⟨⟨b4, 0, rfl, ld_all I_ok rfl rfl hb4.seg hl⟩, rfl, trivial⟩ ?_))))))
      rw [e]
      exact ⟨rfl, (h4.ext hE5 fun x hx e => n4 (e ▸ hx)).grow, hX5⟩
    · have hc0 : ¬ whichN a.k = 0 := by omega
      refine c_cutK (α := Bool) [0, 3, 4, 7] rfl (fun z => [(20, .bool z)]) (fun z u => u = w3 ∧ z = decide (whichN a.k = 1 ∨ whichN a.k = 2)) ?_ ?_
      · refine c_seq ?_
        refine c_region (wl_p I_ok rfl (wl_nil (f_then (c_if rfl (fun hc => ?_) (fun hc => ?_)))))
        · refine c_skip ?_
          exact f_cut _ rfl ⟨rfl, by simp only [decide_eq_decide]; omega⟩
        · refine c_region ?_
          refine wl_p I_ok rfl (wl_nil ?_)
          exact f_cut _ rfl ⟨rfl, by simp only [decide_eq_decide]; omega⟩
      rintro z w3 ⟨rfl, rfl⟩
      refine c_if rfl (fun hc => ?_) (fun hc => ?_)
      · have e : D.act a = ((D.write a.n (actBytes a.b)).1, zeros, (D.write a.n (actBytes a.b)).2) := by rw [Dsk.act, if_neg hc0, if_pos hc]
        refine c_draw rfl 7 [(0, true), (1, true), (2, true), (3, true), (4, false), (5, false), (6, true)] [] F (by kernel_rfl) fun w4 hE4 hs4 => ?_
        refine wd_p I_ok rfl (wd_ld I_ok rfl rfl (fun w' hw' => (hb3.ext hw' n3).cell rfl) ?_)
        refine wd_ldN I_ok rfl rfl (fun w' hw' => (hb3.ext hw' n3).seg) rfl ?_
        refine wd_l rfl (st_call Try.call14 rfl rfl rfl rfl rfl rfl (block_calls w4 a.k a.n a.b p a.keep.length c) fun v5 w5 hr5 => ⟨(hE4.thenNo hr5.2).no, ?_⟩)
        obtain ⟨rfl, hE5⟩ := hr5
        have hX5 := (hX.thenNo hE4).thenNo hE5
        have h5 := (h3.extNo hE4).extNo hE5
        have hb45 := (hb4.extNo hE4).extNo hE5
        refine wd_l rfl (st_call Try.call37 rfl rfl rfl rfl rfl rfl (write_calls w5 h5 hok hm a.n (actBytes_length a.b)) fun v6 w6 hr6 => ⟨(hE4.thenNo hE5).no.then hr6.2.2, ?_⟩)
        obtain ⟨rfl, h6, hE6⟩ := hr6
        have hb46 := hb45.ext hE6 n4
        refine wd_p I_ok rfl (wd_sw (wb_nil ?_))
        refine f_blockN (f_cut (zeros, (D.write a.n (actBytes a.b)).2) rfl ⟨by rw [e], hb46, zeros_length, ?_, hX5.no.trans hE6 fun x _ => id⟩)
        rw [e]
        refine h6.mono (fun x hx => hx.wide ?_ (Nat.le_refl _)) fun x hx => ?_
        · have := hE4.size; have := hE5.size; omega
        · have := hE6.size
          have := hX5.size
          exact hx.elim (fun hx => by have := h.lt x hx; omega) fun hx => hx.2
      · refine c_seq ?_
        refine c_region (wl_p I_ok rfl (wl_nil (f_then (c_if rfl (fun hc3 => ?_) (fun hc3 => ?_)))))
        · have e : D.act a = (D.sync.1, zeros, D.sync.2) := by rw [Dsk.act, if_neg hc0, if_neg hc, if_pos (by omega)]
          refine c_region ?_
          refine wl_p I_ok rfl (wl (st_call Try.call30 rfl rfl rfl rfl rfl rfl (sync_calls w3 h3 hok hm) fun v4 w4 hr4 => ?_))
          obtain ⟨rfl, h4, hE4⟩ := hr4
          refine wl_p I_ok rfl (wl_nil ?_)
          exact f_blockN (f_cut (zeros, D.sync.2) rfl ⟨by rw [e], hb4.ext hE4 n4, zeros_length, by rw [e]; exact h4.grow, hX.no.trans hE4 fun x _ => id⟩)
        · refine c_seq ?_
          refine c_region (wl_p I_ok rfl (wl_nil (f_then (c_if rfl (fun hc4 => ?_) (fun hc4 => ?_)))))
          · have e : D.act a = ((D.arm a.n).1, zeros, (D.arm a.n).2) := by rw [Dsk.act, if_neg hc0, if_neg hc, if_neg (by omega), if_pos (by omega)]
            refine c_region ?_
            refine wl_p I_ok rfl (wl (st_ldb I_ok hb3 rfl rfl (wl (st_call Try.call28 rfl rfl rfl rfl rfl rfl (arm_calls w3 h3 a.n) fun v4 w4 hr4 => ?_))))
            obtain ⟨rfl, h4, hE4⟩ := hr4
            refine wl_p I_ok rfl (wl_nil ?_)
            exact f_blockN (f_cut (zeros, (D.arm a.n).2) rfl ⟨by rw [e], hb4.ext hE4 n4, zeros_length, by rw [e]; exact h4.grow, hX.no.trans hE4 fun x _ => id⟩)
          · refine c_seq ?_
            refine c_region (wl_p I_ok rfl (wl_nil (f_then (c_if rfl (fun hc5 => ?_) (fun hc5 => ?_)))))
            · have e : D.act a = ((D.fail a.n).1, zeros, (D.fail a.n).2) := by rw [Dsk.act, if_neg hc0, if_neg hc, if_neg (by omega), if_neg (by omega), if_pos (by omega)]
              refine c_region ?_
              refine wl_p I_ok rfl (wl (st_ldb I_ok hb3 rfl rfl (wl (st_call Try.call31 rfl rfl rfl rfl rfl rfl (fail_calls w3 h3 a.n) fun v4 w4 hr4 => ?_))))
              obtain ⟨rfl, h4, hE4⟩ := hr4
              refine wl_p I_ok rfl (wl_nil ?_)
              exact f_blockN (f_cut (zeros, (D.fail a.n).2) rfl ⟨by rw [e], hb4.ext hE4 n4, zeros_length, by rw [e]; exact h4.grow, hX.no.trans hE4 fun x _ => id⟩)
            · have e : D.act a = (D.crash (a.keep.take 200), zeros, 0) := by rw [Dsk.act, if_neg hc0, if_neg hc, if_neg (by omega), if_neg (by omega), if_neg (by omega)]
              refine c_region ?_
              refine wl_p I_ok rfl (wl (st_ldB I_ok hb3 rfl rfl (wl (st_call Try.call38 rfl rfl rfl rfl rfl rfl (keepOf_calls w3 (hs.extNo hX) ‹_›) fun v4 w4 hr4 => ?_))))
              obtain ⟨q, c', rfl, hq, hqn, hE4⟩ := hr4
              have h4 := h3.extNo hE4
              have hX4 := hX.thenNo hE4
              refine wl (st_call Try.call22 rfl rfl rfl rfl rfl rfl (crash_calls w4 h4 hok (by omega) rfl hq fun b off hb e => by have := hqn b off hb; have := h3.lt b e; omega) fun v5 w5 hr5 => ?_)
              obtain ⟨rfl, h5, hE5⟩ := hr5
              refine wl_p I_ok rfl (wl_nil ?_)
              exact f_blockN (f_cut (zeros, 0) rfl ⟨by rw [e], (hb4.extNo hE4).ext hE5 n4, zeros_length, by rw [e]; exact h5.grow, hX4.no.trans hE5 fun x _ => id⟩)
  rintro ⟨z1, z2⟩ w3 ⟨hz, hb4, h64, hA, hX⟩
  dsimp only at hb4 h64
  refine c_seq (c_region (wl (st_ldB I_ok hb4 rfl (bytesL_len h64) (wl_p I_ok rfl (wl (st_stW I_ok hb4 rfl (by rw [cellsOf_agg]) (bytesL_len h64) rfl one_ints fun w4 hb4 hE4 hs4 => ?_))))))
  have hA := hA.ext hE4 fun x hx e => nG4 _ (e ▸ hx)
  refine wl_p I_ok rfl (wl_nil (f_then (c_ret (f_ret [_, _] ⟨⟨b4, 0, rfl, ld_all I_ok rfl rfl hb4.seg (bytesL_len h64)⟩, rfl, trivial⟩ ?_))))
  rw [← hz]
  refine ⟨rfl, hA.mono (fun x hx => hx.wide ?_ hE4.size) fun x hx => ?_, hX.trans hE4 fun x hx e => by rw [e] at hx; omega⟩
  · have := hE1.size; have := hE2.size; omega
  · exact hx.elim (fun hx => by have := h.lt x hx; have := hX.size; have := hE4.size; omega) fun hx => hx.2
end Go.Proofs.Ytoldbdocgimpnaa
