/- the law of the latest write: its walk -/
import Derived.Test.YtoldbdocgimpnaaL5
namespace Go.Proofs.Ytoldbdocgimpnaa
open Go.Vc

/-- acts in a row -/
structure ActsAt (w : World) (G : Nat → Prop) (l : List PAct) (L : List (List Value)) : Prop where
  len : L.length = l.length
  at' : ∀ (i : Nat) (a : PAct) (r : List Value), l[i]? = some a → L[i]? = some r → ActAt w G a r
theorem ActAt.len {w : World} {G : Nat → Prop} {a : PAct} {r : List Value} (h : ActAt w G a r) : r.length = 4 := by
  obtain ⟨p, c, rfl, _⟩ := h
  rfl
theorem ActsAt.uni {w : World} {G : Nat → Prop} {l : List PAct} {L : List (List Value)} (h : ActsAt w G l L) : Uni 4 L := fun r hr => by
  obtain ⟨i, hi, rfl⟩ := List.mem_iff_getElem.1 hr
  exact (h.at' i (l[i]'(by rw [← h.len]; exact hi)) L[i] (by simp) (by simp)).len
/-- a slice of acts, in blocks of G -/
def ActsSl (w : World) (G : Nat → Prop) (p : Option Addr) (l : List PAct) : Prop :=
  ∃ L, Sl w p l.length 4 (List.flatten L) ∧ ActsAt w G l L
theorem ActsSl.get {w u : World} {G : Nat → Prop} {p : Option Addr} {l : List PAct} (h : ActsSl w G p l) (hE : Ext No w u) {i : Nat} (hi : i < l.length) :
    ∃ b off r, p = some ⟨b, off, none⟩ ∧ Seg u b (off + i * 4) r ∧ r.length = 4 ∧ ActAt u G l[i] r := by
  obtain ⟨L, h1, h2⟩ := h
  obtain ⟨b, off, rfl, hseg⟩ := h1.2.resolve_left (by omega)
  have hiL : i < L.length := by rw [h2.len]; exact hi
  have hr : L[i]? = some L[i] := by simp
  have hat := h2.at' i l[i] L[i] (by simp) hr
  refine ⟨b, off, L[i], rfl, ?_, hat.len, hat.ext hE fun _ _ => id⟩
  have := (hseg.drop (i * 4)).take 4
  rw [rows_row h2.uni hr] at this
  exact this.extNo hE
theorem ActsSl.take {w : World} {G : Nat → Prop} {p : Option Addr} {l : List PAct} (h : ActsSl w G p l) (n : Nat) (hn : n ≤ l.length) : ActsSl w G p (l.take n) := by
  obtain ⟨L, h1, h2⟩ := h
  have hs := h1.slice 0 n n (Nat.zero_le _) (Nat.le_refl _) hn
  have hu := h2.uni
  rw [slBase_zero, rows_sub hu] at hs
  refine ⟨L.take n, ?_, ⟨by simp [h2.len], fun i a r ha hr => ?_⟩⟩
  · simpa [Nat.min_eq_left hn] using hs
  · rw [List.getElem?_take] at ha hr
    split at ha
    · rename_i hi
      rw [if_pos hi] at hr
      exact h2.at' i a r ha hr
    · cases ha

/-- what holds at each round -/
def LInv (w : World) (d b5 i : Nat) (D : Dsk) (F : Nat → Prop) (u : World) : Prop :=
  D.Ok (2 * i) ∧ D.Calm ∧ At u d F D ∧ (∀ x, F x → w.heap.size ≤ x) ∧ ¬ F b5 ∧ Blk u b5 31 (rowsA .u8 D.all) ∧ Ext No w u

theorem all_len {D : Dsk} {m : Nat} (hok : D.Ok m) : D.all.length = 6 ∧ (∀ r ∈ D.all, r.length = 64) ∧ (rowsA .u8 D.all).length = 384 := by
  have h1 : D.all.length = 6 := by simp [Dsk.all]
  have h2 : ∀ r ∈ D.all, r.length = 64 := by
    rw [← nowTo_six]
    exact nowTo_len hok 6
  refine ⟨h1, h2, ?_⟩
  have hu := Uni.map (m := 64) (f := fun r : List Int => r.map (Value.int .u8)) (l := D.all) fun r hr => by simpa using h2 r hr
  have := rows_length hu
  rw [List.length_map, h1] at this
  exact this

theorem put_rows {L : List (List Int)} (hL : ∀ r ∈ L, r.length = 64) {i : Nat} (hi : i < L.length) {b : List Int} (hb : b.length = 64) : Vc.put (rowsA .u8 L) (i * 64) (bytesL b) = rowsA .u8 (L.set i b) := by
  have hu := Uni.map (m := 64) (f := fun r : List Int => r.map (Value.int .u8)) (l := L) fun r hr => by simpa using hL r hr
  have hrow : (L.map fun r : List Int => r.map (Value.int .u8))[i]? = some (bytesL L[i]) := by simp [hi, bytesL]
  have hput := rows_put hu hrow (j := 0) (bytesL b) (by simp [bytesL, hb])
  rw [Nat.add_zero, put_whole (by rw [bytesL_len hb, bytesL_len (hL _ (List.getElem_mem hi))])] at hput
  unfold rowsA
  rw [hput]
  exact congrArg _ (rows_set _ _ _ _)

theorem latest_calls (w : World) {p : Option Addr} {c : Nat} {l : List PAct} {G : Nat → Prop} (hc : l.length ≤ c) (hl : ActsSl w G p l) (hG : ∀ x, G x → x < w.heap.size) :
    CallsV Try.prog 3 [.slice p l.length c] w fun v w' => v = .bool true ∧ Ext No w w' := by
  refine calls_enter Try.func3 rfl rfl rfl rfl ?_
  have hX := Ext.refl No w
  refine c_seq (c_region (wl_p I_ok rfl (wl_nil (f_then (c_seq (c_seq (c_region (wl (st_call Try.call10 rfl rfl rfl rfl rfl rfl (wakes_calls w) fun v1 w1 hr1 => ?_)))))))))
  obtain ⟨rfl, hE1⟩ := hr1
  have hX := hX.thenNo hE1
  refine wl_p I_ok rfl (wl_nil (f_then (c_condF rfl ?_)))
  refine c_skip ?_
  refine f_then (c_seq (c_region (wl (st_call Try.call11 rfl rfl rfl rfl rfl rfl (new_calls w1 6) fun v2 w2 hr2 => ?_))))
  rw [if_pos (by decide)] at hr2
  obtain ⟨d, rfl, frd, hA, hE2⟩ := hr2
  have hnew : ∀ x, Grow No w1 w2 x → w.heap.size ≤ x := fun x hx => hx.elim False.elim fun h => Nat.le_trans hX.size h.1
  have hX := hX.thenNo hE2
  refine wl_p I_ok rfl (wl_nil (f_then (c_seq (c_seq (c_region (wl_p I_ok rfl (wl_nil (f_then (c_condF rfl ?_)))))))))
  refine c_skip ?_
  refine f_then (c_seq (c_region (wl (st_al I_ok rfl fun b5 w3 hn5 hb5 hE3 => ?_))))
  have fr5 := Nat.le_trans hX.size hn5
  have hF5 : ¬ Grow No w1 w2 b5 := fun e => by have := hA.lt b5 e; omega
  have hX := hX.thenNo hE3
  have hA := hA.extNo hE3
  refine wl_nil (f_then (c_seq (c_region (wl_p I_ok rfl (wl_nil (f_then (c_seq (c_seq (c_region (wl_p I_ok rfl (wl (st_call Try.call12 rfl rfl rfl rfl rfl rfl (some_calls w3 p l.length c hc) fun v4 w4 hr4 => ?_))))))))))))
  obtain ⟨rfl, rfl⟩ := hr4
  have hlen : (l.take (min l.length 100)).length = min l.length 100 := by simp
  have hl := hl.take (min l.length 100) (by omega)
  have hl100 : (l.take (min l.length 100)).length ≤ 100 := by omega
  rw [← hlen]
  generalize l.take (min l.length 100) = l at hl hl100
  have hb5 : Blk w4 b5 31 (rowsA .u8 (Dsk.fresh 6).all) := by
    have e : cellsOf ti31.zero = rowsA .u8 (Dsk.fresh 6).all := by
      have e0 : (Dsk.fresh 6).all = List.replicate 6 (List.replicate 64 0) := rfl
      rw [rowsA_flat, e0, List.flatten_replicate_replicate, List.map_replicate]
      rfl
    rw [← e]; exact hb5
  refine wl_p I_ok rfl (wl_nil (f_then (c_block (c_loop (α := Nat × Dsk × (Nat → Prop)) (fun z u => z.1 ≤ l.length ∧ LInv w d b5 z.1 z.2.1 z.2.2 u) (fun z => [(6, .int .i64 (z.2.1.order.length : Int)), (23, .int .i64 (z.1 : Int)), (3, .pointer (some ⟨d, 0, none⟩)), (5, .pointer (some ⟨b5, 0, none⟩)), (21, .slice p l.length c), (22, .int .i64 (l.length : Int))]) (fun z u => l.length - z.1) (0, Dsk.fresh 6, Grow No w1 w2) rfl ?_ ?_))))
  · exact ⟨Nat.zero_le _, Dsk.Ok.fresh (by decide), ⟨⟨rfl, rfl, rfl⟩, rfl⟩, hA, hnew, hF5, hb5, hX⟩
  rintro ⟨i, D, F⟩ u ⟨hi, hok, hcalm, hA, hnew, hF5, hb5, hX⟩
  dsimp only at hi hok hcalm hA hnew hF5 hb5 ⊢
  refine c_seq ?_
  refine c_region (wl_p I_ok rfl (wl_nil (f_then (c_seq (c_if rfl (fun hc => ?_) (fun hc => ?_))))))
  · have hi' : i < l.length := by omega
    obtain ⟨bl, off, r, hp, hseg, hr4, hat⟩ := hl.get hX hi'
    subst hp
    generalize hga : l[i] = a at hat
    have hwk := whichN_lt a.k
    have hal := all_len hok
    refine c_skip ?_
    refine f_then (c_cutK (α := Dsk × (Nat → Prop)) [3, 5, 21, 22, 23] rfl (fun z => [(6, .int .i64 (z.1.order.length : Int))]) (fun z u => LInv w d b5 (i + 1) z.1 z.2 u) ?_ ?_)
    · refine c_block ?_
      refine c_seq (c_region (wl (st_ix I_ok rfl 4 rfl i rfl hi' (off + i * 4) rfl (wl (st_ldN I_ok rfl hseg hr4 (wl (st_al I_ok rfl fun b8 w5 hn8 hb8 hE5 => ?_)))))))
      have ne5_8 : b5 ≠ b8 := Nat.ne_of_lt (Nat.lt_of_lt_of_le hb5.lt hn8)
      have fr8 := Nat.le_trans hX.size hn8
      have hF8 : ¬ F b8 := fun e => by have := hA.lt b8 e; omega
      have hb5 := hb5.extNo hE5
      have hX := hX.thenNo hE5
      have hA := hA.extNo hE5
      have hat := hat.ext hE5 fun _ _ => id
      obtain ⟨q, cq, rfl, hcq, hmq, hsq, hGq, hn1, hn2⟩ := id hat
      refine wl (st_stW I_ok hb8 rfl (l' := actV a q cq) (by rw [cellsOf_agg]) rfl rfl (by simp; exact ⟨rfl, rfl, rfl, rfl⟩) fun w6 hb8 hE6 hs6 => ?_)
      have hb5 := hb5.ext1 hE6 ne5_8
      have hX := hX.thenNew hE6 fr8
      have hA := hA.ext hE6 fun x hx e => hF8 (e ▸ hx)
      have hat := hat.ext hE6 fun x hx e => by have := hG x hx; rw [e] at this; omega
      refine wl_nil (f_then (c_cutK (α := Unit) [3, 5, 8, 21, 22, 23] rfl (fun z => [(6, .int .i64 ((D.act a).1.order.length : Int))]) (fun z u => whichN a.k < 4 ∧ Ext (Vc.One b5) w6 u ∧ Blk u b5 31 (rowsA .u8 (D.act a).1.all)) ?_ ?_))
      · refine c_seq ?_
        refine c_region (wl (st_ldB I_ok hb8 rfl rfl (wl (st_call Try.call13 rfl rfl rfl rfl rfl rfl (which_calls w6 a q cq) fun v7 w7 hr7 => ?_))))
        obtain ⟨rfl, hE7⟩ := hr7
        have hb5 := hb5.extNo hE7
        have hb8 := hb8.extNo hE7
        refine wl_p I_ok rfl (wl_nil (f_then (c_block (c_seq (c_region (wl_p I_ok rfl (wl_nil (f_then (c_if rfl (fun hc => ?_) (fun hc => ?_))))))))))
        · have hact := hcalm.act a (by omega)
          have h3 := hact.2.1 (by omega)
          refine c_region ?_
          refine wl_p I_ok rfl (wl_nil ?_)
          refine f_blockN (f_cut () (by rw [h3.1]; rfl) ⟨by omega, hE7.no, by rw [h3.2]; exact hb5⟩)
        · refine c_cutK (α := Bool) [3, 5, 6, 8, 9, 21, 22, 23] rfl (fun z => [(32, .bool z)]) (fun z u => u = w7 ∧ z = decide (whichN a.k = 1 ∨ whichN a.k = 2)) ?_ ?_
          · refine c_region ?_
            refine wl_p I_ok rfl (wl_caseD 35 rfl (fun hg => ?_) (fun hg => ?_))
            · refine wl_pg I_ok rfl ?_
              refine wl_nil ?_
              exact f_cut _ rfl ⟨rfl, by simp; omega⟩
            · refine wl_pg I_ok rfl ?_
              refine wl_nil ?_
              exact f_cut _ rfl ⟨rfl, by simp only [decide_eq_decide]; omega⟩
          rintro z w8 ⟨rfl, rfl⟩
          refine c_if rfl (fun hc => ?_) (fun hc => ?_)
          · have hact := hcalm.act a (by omega)
            refine c_cutK (α := Bool) [3, 5, 6, 8, 21, 22, 23] rfl (fun z => [(46, .bool z)]) (fun z u => u = w8 ∧ z = decide (0 ≤ a.n ∧ a.n < 6)) ?_ ?_
            · refine c_region ?_
              refine wl_p I_ok rfl (wl (st_ldb I_ok hb8 rfl rfl (wl_p I_ok rfl (wl_caseD 42 rfl (fun hg => ?_) (fun hg => ?_)))))
              · refine wl_pg I_ok rfl ?_
                refine wl (st_ldb I_ok hb8 rfl rfl (wl_pg I_ok rfl (wl_nil ?_)))
                exact f_cut _ rfl ⟨rfl, by simp only [decide_eq_decide]; omega⟩
              · refine wl_pg I_ok rfl ?_
                refine wl_nil ?_
                exact f_cut _ rfl ⟨rfl, by simp; omega⟩
            rintro z w9 ⟨rfl, rfl⟩
            refine c_if rfl (fun hn => ?_) (fun hn => ?_)
            · have h12 := hact.2.2.2.1 hc hn
              refine c_seq ?_
              refine c_draw rfl 5 [(0, true), (1, true), (2, true), (3, false), (4, true)] [5] No (by kernel_rfl) fun w8 hE8 hs8 => ?_
              have hb5 := hb5.extNo hE8
              refine wd_p I_ok rfl (wd_ld I_ok rfl rfl (fun w' hw' => (hb8.extNo hw').cell rfl) ?_)
              refine wd_ldN I_ok rfl rfl (fun w' hw' => (hb8.extNo hw').seg) rfl ?_
              refine wd_l rfl (st_call Try.call14 rfl rfl rfl rfl rfl rfl (block_calls w8 a.k a.n a.b q a.keep.length cq) fun v9 w9' hr9 => ⟨hE8.thenNo hr9.2, ?_⟩)
              obtain ⟨rfl, hE9⟩ := hr9
              have hb5 := hb5.extNo hE9
              have hl64 : (bytesL (actBytes a.b)).length = 64 := bytesL_len (actBytes_length _)
              refine wd_ix I_ok rfl rfl 64 rfl a.n.toNat (by omega) (by omega) (0 + a.n.toNat * 64) rfl (wd_sw (wb rfl (st_stN I_ok hb5 rfl (by rw [cells_num]; exact hl64) (by rw [hal.2.2]; show 0 + a.n.toNat * 64 + 64 ≤ 384; omega) (by rw [cells_num]; exact one_ints) fun w10 hb10 hE10 hs10 => ?_)))
              have hb10 : Blk w10 b5 31 (Vc.put (rowsA .u8 D.all) (0 + a.n.toNat * 64) (bytesL (actBytes a.b))) := by simpa [cells_num] using hb10
              rw [Nat.zero_add, put_rows hal.2.1 (by omega) (actBytes_length _), ← h12.2] at hb10
              refine wb_nil (f_then (c_region (wl_p I_ok rfl ?_)))
              have hfew := hok.few
              rw [IntWalk.i64_in _ (by omega)]
              refine wl_nil (f_blockN (f_cut () (by rw [h12.1]; rfl) ⟨by omega, (hE7.thenNo (hE8.thenNo hE9)).no.then hE10, hb10⟩))
            · have h12 := hact.2.2.2.2 hc hn
              refine c_skip ?_
              exact f_blockN (f_cut () (by rw [h12]; rfl) ⟨by omega, hE7.no, by rw [h12]; exact hb5⟩)
          · refine c_seq ?_
            refine c_region (wl_p I_ok rfl (wl_nil (f_then (c_if rfl (fun hc4 => ?_) (fun hc4 => ?_)))))
            · refine c_exit ?_
              refine f_blockE' rfl (f_thenE (f_blockE (f_cut (D, F) rfl ⟨hok.mono (by omega), hcalm, hA.extNo hE7, hnew, hF5, hb5, hX.thenNo hE7⟩)))
            · have hact := hcalm.act a (by omega)
              have h0 := hact.2.2.1 (by omega)
              refine c_skip ?_
              exact f_blockN (f_cut () (by rw [h0.1]; rfl) ⟨by omega, hE7.no, by rw [h0.2]; exact hb5⟩)
      rintro ⟨⟩ w7 ⟨hk4, hE7, hb57⟩
      have hact := hcalm.act a hk4
      have hA7 := hA.ext hE7 fun x hx e => hF5 (e ▸ hx)
      have hb8 := hb8.ext1 hE7 (Ne.symm ne5_8)
      have hX := hX.thenNew hE7 fr5
      have hat := hat.ext hE7 fun x hx e => by have := hG x hx; rw [e] at this; omega
      have hs7 := hX.size
      refine c_seq (c_region (wl_p I_ok rfl (wl (st_ldB I_ok hb8 rfl rfl (wl (st_call Try.call15 rfl rfl rfl rfl rfl rfl (happens_calls w7 hA7 hok (by omega) hat) fun v7 w8 hr7 => ?_))))))
      obtain ⟨rfl, hA8, hE8⟩ := hr7
      have hX := hX.trans hE8 fun x hx hF => by have := hnew x hF; omega
      have hok8 := hok.act a hn1 hn2
      have hb58 := hb57.ext hE8 hF5
      have hF58 : ¬ Grow F w7 w8 b5 := fun e => e.elim hF5 fun e => by have := hb57.lt; omega
      refine wl_nil (f_then (c_seq (c_region (wl_p I_ok rfl (wl (st_call Try.call16 rfl rfl rfl rfl rfl rfl (pending_calls w8 hA8 hok8 (by omega)) fun v8 w9 hr8 => ?_))))))
      obtain ⟨bp, rfl, frp, hbp, hE9⟩ := hr8
      refine wl_p I_ok rfl (wl_nil (f_then (c_if rfl (fun hc => absurd rfl hc) (fun hc => ?_))))
      refine c_skip ?_
      refine f_blockN (f_cut ((D.act a).1, Grow F w7 w8) rfl ⟨hok8, hact.1, hA8.extNo hE9, fun x hx => hx.elim (hnew x) fun h => ?_, hF58, hb58.extNo hE9, hX.thenNo hE9⟩)
      omega
    rintro ⟨D', F'⟩ u' hI
    refine c_region (wl_p I_ok rfl ?_)
    rw [IntWalk.i64_in _ (by omega)]
    exact wl_nil (f_round (i + 1, D', F') rfl ⟨by omega, hI⟩ (by simp only; omega))
  · refine c_exit ?_
    have hal := all_len hok
    refine f_thenE (f_thenE (f_blockE (f_then (c_seq (c_region (wl_p I_ok rfl (wl (st_call Try.call17 rfl rfl rfl rfl rfl rfl (holds_calls u hA hok (by omega) hcalm.toQuiet) fun v5 w5 hr5 => ?_))))))))
    obtain ⟨rfl, hA, hE5⟩ := hr5
    have hb5 := hb5.ext hE5 hF5
    have hX := hX.trans hE5 fun x hx hF => by have := hnew x hF; omega
    refine wl_p I_ok rfl (wl (st_al I_ok rfl fun b10 w6 hn10 hb10 hE6 => ?_))
    have ne5_10 : b5 ≠ b10 := Nat.ne_of_lt (Nat.lt_of_lt_of_le hb5.lt hn10)
    have fr10 := Nat.le_trans hX.size hn10
    have hb5 := hb5.extNo hE6
    have hX := hX.thenNo hE6
    refine wl (st_stW I_ok hb10 rfl (by rw [cellsOf_agg]) hal.2.2 (by rw [hal.2.2]; exact (List.length_replicate (n := 384)).symm) (by rw [rowsA_flat]; exact one_ints) fun w7 hb10 hE7 hs7 => ?_)
    have hb5 := hb5.ext1 hE7 ne5_10
    have hX := hX.thenNew hE7 fr10
    refine wl_p I_ok rfl (wl_nil (f_then (c_cutK (α := Unit) [] rfl (fun z => [(2, .bool true)]) (fun z u => u = w7) ?_ ?_)))
    · refine c_region ?_
      refine wl_pg I_ok rfl ?_
      refine wl (st_ldB I_ok hb10 rfl hal.2.2 ?_)
      refine wl (st_ldB I_ok hb5 rfl hal.2.2 (wl (st_eqAA I_ok (L := D.all) (M := D.all) rfl (by kernel_rfl) rfl rfl hal.2.1 hal.2.1 hal.1 hal.1 (wl_caseD 75 rfl (fun _ => ?_) fun h => absurd rfl h))))
      exact wl_pg I_ok rfl (wl_nil (f_cut () rfl rfl))
    rintro z w rfl
    refine c_ret (f_ret1 rfl rfl ?_)
    exact ⟨rfl, hX⟩
end Go.Proofs.Ytoldbdocgimpnaa
