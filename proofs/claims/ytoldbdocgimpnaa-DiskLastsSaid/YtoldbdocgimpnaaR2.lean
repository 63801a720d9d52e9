/- the document's disk: what a sector holds, reading, writing -/
import Derived.Test.YtoldbdocgimpnaaR1
namespace Go.Proofs.Ytoldbdocgimpnaa
open Go.Vc

def entRow (e : Ent) : List Value := [.int .i64 e.sec] ++ bytesL e.blk ++ [.bool e.safe]
def entL (l : List Ent) : List Value := (l.map entRow).flatten
theorem entRow_len {e : Ent} (h : e.blk.length = 64) : (entRow e).length = 66 := by simp [entRow, bytesL, h]

/-- entries in memory -/
def RefW (w : World) (p : Option Addr) (l : List Ent) : Prop := Sl w p l.length 66 (entL l) ∧ ∀ e ∈ l, e.blk.length = 64
theorem RefW.extNo {w w' : World} {p : Option Addr} {l : List Ent} (h : RefW w p l) (hE : Ext No w w') : RefW w' p l := ⟨h.1.extNo hE, h.2⟩
theorem RefW.uni {w : World} {p : Option Addr} {l : List Ent} (h : RefW w p l) : Uni 66 (l.map entRow) := Uni.map fun e he => entRow_len (h.2 e he)
theorem RefW.get {w : World} {p : Option Addr} {l : List Ent} (h : RefW w p l) {i : Nat} (hi : i < l.length) : ∃ b off, p = some ⟨b, off, none⟩ ∧ Seg w b (off + i * 66) (entRow l[i]) ∧
    w.cell? ⟨b, off + i * 66, none⟩ = some (.int .i64 l[i].sec) ∧ Seg w b (off + i * 66 + 1) (bytesL l[i].blk) ∧ w.cell? ⟨b, off + i * 66 + 65, none⟩ = some (.bool l[i].safe) ∧ (bytesL l[i].blk).length = 64 := by
  obtain ⟨b, off, rfl, hseg⟩ := h.1.2.resolve_left (by omega)
  have hr : (l.map entRow)[i]? = some (entRow l[i]) := by simp [hi]
  have h64 : (bytesL l[i].blk).length = 64 := bytesL_len (h.2 _ (List.getElem_mem hi))
  have hrow : Seg w b (off + i * 66) (entRow l[i]) := by
    have := (hseg.drop (i * 66)).take 66
    unfold entL at this
    rwa [rows_row h.uni hr] at this
  refine ⟨b, off, rfl, hrow, ?_, ?_, ?_, h64⟩
  · have := hrow 0 _ (by simp [entRow]; rfl)
    simpa using this
  · have := (hrow.drop 1).take 64
    have e : ((entRow l[i]).drop 1).take 64 = bytesL l[i].blk := by simp [entRow, ← h64]
    rwa [e] at this
  · refine hrow 65 _ ?_
    have : (entRow l[i]) = ([.int .i64 l[i].sec] ++ bytesL l[i].blk) ++ [.bool l[i].safe] := rfl
    rw [this, List.getElem?_append_right (by simp [h64])]
    simp [h64]

def holdsIn (l : List Ent) (i : Int) : List Int := l.foldl (fun b e => if e.sec = i then e.blk else b) zeros
theorem holdsIn_snoc (l : List Ent) (e : Ent) (i : Int) : holdsIn (l ++ [e]) i = if e.sec = i then e.blk else holdsIn l i := by simp [holdsIn]
theorem holdsIn_len {l : List Ent} (h : ∀ e ∈ l, e.blk.length = 64) (i : Int) : (holdsIn l i).length = 64 := by
  have : ∀ (l : List Ent) (z : List Int), z.length = 64 → (∀ e ∈ l, e.blk.length = 64) → (l.foldl (fun b e => if e.sec = i then e.blk else b) z).length = 64 := by
    intro l
    induction l with
    | nil => intro z hz _; exact hz
    | cons e l ih =>
      intro z hz h
      refine ih _ ?_ fun x hx => h x (by simp [hx])
      show (if e.sec = i then e.blk else z).length = 64
      split
      · exact h e (by simp)
      · exact hz
  exact this l zeros zeros_length h

theorem refHolds_calls (w : World) (x : RDsk) (p : Option Addr) (c : Nat) (h : RefW w p x.wr) (hn : x.wr.length < 1000000000) (i : Int) :
    CallsV Try.prog 25 [.agg (refL x p c).toArray, .int .i64 i] w fun v w' => v = numA .u8 (x.holds i) ∧ Ext No w w' := by
  refine calls_enter Try.func25 rfl rfl rfl rfl ?_
  have hX := Ext.refl No w
  refine c_seq (c_region (wl (st_al I_ok rfl fun b2 w1 hn2 hb2 hE1 => ?_)))
  have fr2 := Nat.le_trans hX.size hn2
  have hX := hX.thenNo hE1
  refine wl (st_al I_ok rfl fun b4 w2 hn4 hb4 hE2 => ?_)
  have ne2_4 : b2 ≠ b4 := Nat.ne_of_lt (Nat.lt_of_lt_of_le hb2.lt hn4)
  have fr4 := Nat.le_trans hX.size hn4
  have hb2 := hb2.extNo hE2
  have hX := hX.thenNo hE2
  refine wl_nil (f_then (c_seq (c_region (wl (st_al I_ok rfl fun b5 w3 hn5 hb5 hE3 => ?_)))))
  have ne2_5 : b2 ≠ b5 := Nat.ne_of_lt (Nat.lt_of_lt_of_le hb2.lt hn5)
  have ne4_5 : b4 ≠ b5 := Nat.ne_of_lt (Nat.lt_of_lt_of_le hb4.lt hn5)
  have fr5 := Nat.le_trans hX.size hn5
  have hb2 := hb2.extNo hE3
  have hb4 := hb4.extNo hE3
  have hX := hX.thenNo hE3
  have hb2 : Blk w3 b2 48 (refL x p c) := hb2
  have hb4 : Blk w3 b4 29 (bytesL zeros) := by rw [← z29]; exact hb4
  have hb5 : Blk w3 b5 29 (bytesL zeros) := by rw [← z29]; exact hb5
  have hz64 := bytesL_len zeros_length
  refine wl_nil (f_then (c_seq (c_seq (c_region (wl_p I_ok rfl (wl_nil (f_then (c_block (c_loop (α := Nat) (fun k u => k ≤ x.wr.length ∧ Blk u b2 48 (refL x p c) ∧ Blk u b4 29 (bytesL zeros) ∧ Blk u b5 29 (bytesL (holdsIn (x.wr.take k) i)) ∧ Ext No w u) (fun k => [(6, .int .i64 (k : Int)), (1, .int .i64 i), (2, .pointer (some ⟨b2, 0, none⟩)), (4, .pointer (some ⟨b4, 0, none⟩)), (5, .pointer (some ⟨b5, 0, none⟩))]) (fun k u => x.wr.length - k) 0 rfl ⟨Nat.zero_le _, hb2, hb4, hb5, hX⟩ ?_)))))))))
  clear hX hb2 hb4 hb5
  rintro k u ⟨hk, hb2, hb4, hb5, hX⟩
  have hlk : (bytesL (holdsIn (x.wr.take k) i)).length = 64 := bytesL_len (holdsIn_len (fun e he => h.2 e (List.mem_of_mem_take he)) i)
  refine c_seq ?_
  refine c_seq (c_region (wl_p I_ok rfl (wl (st_ldb I_ok hb2 rfl rfl (wl_p I_ok rfl (wl_nil (f_then (c_if rfl (fun hc => ?_) (fun hc => ?_)))))))))
  · have hk' : k < x.wr.length := by omega
    obtain ⟨b, off, hp, _, hc1, hc2, _, hl64⟩ := (h.extNo hX).get hk'
    have htake : x.wr.take (k + 1) = x.wr.take k ++ [x.wr[k]] := List.take_succ_eq_append_getElem hk'
    refine c_skip ?_
    subst hp
    refine f_then (c_cutK (α := Unit) [1, 2, 4, 5, 6] rfl (fun z => []) (fun z u => Blk u b2 48 (refL x (some ⟨b, off, none⟩) c) ∧ Blk u b4 29 (bytesL zeros) ∧ Blk u b5 29 (bytesL (holdsIn (x.wr.take (k + 1)) i)) ∧ Ext No w u) ?_ ?_)
    · refine c_block ?_
      refine c_seq (c_region (wl_p I_ok rfl (wl (st_ldb I_ok hb2 rfl rfl (wl_p I_ok rfl (wl (st_ix I_ok rfl 66 rfl k rfl hk' (off + k * 66) rfl (wl_p I_ok rfl (wl (st_ld I_ok rfl hc1 (wl_p I_ok rfl (wl_nil (f_then ?_)))))))))))))
      refine c_if rfl (fun hc => ?_) (fun hc => ?_)
      · refine c_region ?_
        refine wl_p I_ok rfl (wl (st_ldb I_ok hb2 rfl rfl (wl_p I_ok rfl (wl (st_ix I_ok rfl 66 rfl k rfl hk' (off + k * 66) rfl (wl_p I_ok rfl (wl (st_ldN I_ok rfl hc2 hl64 ?_))))))))
        refine wl (st_stW I_ok hb5 rfl (by rw [cellsOf_agg]) hl64 (by rw [hl64, hlk]) one_ints fun w4 hb5 hE4 hs4 => ?_)
        refine wl_nil ?_
        refine f_blockN (f_cut () rfl ⟨hb2.ext1 hE4 ne2_5, hb4.ext1 hE4 ne4_5, ?_, hX.thenNew hE4 fr5⟩)
        rw [htake, holdsIn_snoc, if_pos hc]
        exact hb5
      · refine c_skip ?_
        refine f_blockN (f_cut () rfl ⟨hb2, hb4, ?_, hX⟩)
        rw [htake, holdsIn_snoc, if_neg hc]
        exact hb5
    rintro ⟨⟩ w4 ⟨hb2, hb4, hb5, hX⟩
    refine c_region (wl_p I_ok rfl ?_)
    rw [IntWalk.i64_in _ (by omega)]
    exact wl_nil (f_round (k + 1) rfl ⟨by omega, hb2, hb4, hb5, hX⟩ (by omega))
  · have hk2 : k = x.wr.length := by omega
    subst hk2
    rw [List.take_of_length_le (Nat.le_refl _)] at hb5 hlk
    refine c_exit ?_
    refine f_thenE (f_thenE (f_blockE (f_then (c_seq (c_region (wl (st_ldB I_ok hb5 rfl hlk (wl (st_stW I_ok hb4 rfl (by rw [cellsOf_agg]) hlk (by rw [hlk, hz64]) one_ints fun w4 hb4 hE4 hs4 => ?_)))))))))
    have hX := hX.thenNew hE4 fr4
    refine wl_nil (f_then (c_ret (f_ret [_] ⟨⟨b4, 0, rfl, ld_all I_ok rfl rfl hb4.seg hlk⟩, trivial⟩ ?_)))
    exact ⟨rfl, hX⟩

theorem RDsk.begin_wr (x : RDsk) (i : Int) (b : Bool) : (x.begin i b).1.wr = x.wr := by
  unfold RDsk.begin
  repeat' split
  all_goals simp only
  all_goals repeat' split
  all_goals rfl

theorem refRead_calls (w : World) (x : RDsk) (p : Option Addr) (c : Nat) (hx : x.Fits) (h : RefW w p x.wr) (hn : x.wr.length < 1000000000) (i : Int) :
    CallsV Try.prog 39 [.agg (refL x p c).toArray, .int .i64 i] w fun v w' => v = .tuple #[.agg (refL (x.read i).1 p c).toArray, numA .u8 (x.read i).2.1, .int .i64 (x.read i).2.2] ∧ Ext No w w' := by
  have hwr := x.begin_wr i false
  refine calls_enter Try.func39 rfl rfl rfl rfl ?_
  have hX := Ext.refl No w
  refine c_seq (c_region (wl (st_al I_ok rfl fun b2 w1 hn2 hb2 hE1 => ?_)))
  have fr2 := Nat.le_trans hX.size hn2
  have hX := hX.thenNo hE1
  refine wl (st_al I_ok rfl fun b4 w2 hn4 hb4 hE2 => ?_)
  have ne2_4 : b2 ≠ b4 := Nat.ne_of_lt (Nat.lt_of_lt_of_le hb2.lt hn4)
  have fr4 := Nat.le_trans hX.size hn4
  have hb2 := hb2.extNo hE2
  have hX := hX.thenNo hE2
  refine wl (st_al I_ok rfl fun b5 w3 hn5 hb5 hE3 => ?_)
  have ne2_5 : b2 ≠ b5 := Nat.ne_of_lt (Nat.lt_of_lt_of_le hb2.lt hn5)
  have ne4_5 : b4 ≠ b5 := Nat.ne_of_lt (Nat.lt_of_lt_of_le hb4.lt hn5)
  have fr5 := Nat.le_trans hX.size hn5
  have hb2 := hb2.extNo hE3
  have hb4 := hb4.extNo hE3
  have hX := hX.thenNo hE3
  have hb2 : Blk w3 b2 48 (refL x p c) := hb2
  have hb5 : Blk w3 b5 29 (bytesL zeros) := by rw [← z29]; exact hb5
  refine wl_p I_ok rfl (wl_nil (f_then (c_seq (c_region (wl (st_ldB I_ok hb2 rfl rfl (wl_p I_ok rfl (wl (st_call Try.call58 rfl rfl rfl rfl rfl rfl (begin_calls w3 x p c hx i false) fun v4 w4 hr4 => ?_)))))))))
  obtain ⟨rfl, hE4⟩ := hr4
  have hb2 := hb2.extNo hE4
  have hb4 := hb4.extNo hE4
  have hb5 := hb5.extNo hE4
  have hX := hX.thenNo hE4
  have hrd : x.read i = ((x.begin i false).1, if (x.begin i false).2 = 0 then (x.begin i false).1.holds i else zeros, (x.begin i false).2) := rfl
  rw [hrd]
  generalize x.begin i false = y at hwr
  obtain ⟨y, e⟩ := y
  dsimp only at hwr ⊢
  refine wl_p I_ok rfl (wl (st_stW (l' := refL y p c) I_ok hb2 rfl rfl rfl rfl (ref_flat _ _ _) fun w5 hb2 hE5 hs5 => ?_))
  have hb4 := hb4.ext1 hE5 ne2_4.symm
  have hb5 := hb5.ext1 hE5 ne2_5.symm
  have hX := hX.thenNew hE5 fr2
  refine wl_p I_ok rfl (wl_nil (f_then (c_seq (c_seq (c_region (wl_p I_ok rfl (wl_nil (f_then (c_if rfl (fun hc => ?_) (fun hc => ?_))))))))))
  · rw [if_neg hc]
    refine c_seq ?_
    refine c_region (wl (st_ldB I_ok hb2 rfl rfl (wl (st_bd I_ok rfl (by simp [partsOk]) (l' := bytesL zeros) z29 (wl_p I_ok rfl (wl (st_stW (l' := refL y p c) I_ok hb4 rfl rfl rfl rfl (ref_flat _ _ _) fun w6 hb4 hE6 hs6 => ?_)))))))
    have hb5 := hb5.ext1 hE6 ne4_5.symm
    have hX := hX.thenNew hE6 fr4
    refine wl (st_stW (l' := bytesL zeros) I_ok hb5 rfl (by rw [cellsOf_agg]) (bytesL_len zeros_length) rfl one_ints fun w7 hb5 hE7 hs7 => ?_)
    have hb4 := hb4.ext1 hE7 ne4_5
    have hX := hX.thenNew hE7 fr5
    refine wl_p I_ok rfl (wl_nil (f_then (c_ret (f_thenR (f_ret [_, _, _] ⟨⟨b4, 0, rfl, ld_all I_ok rfl rfl hb4.seg rfl⟩, ⟨b5, 0, rfl, ld_all I_ok rfl rfl hb5.seg (bytesL_len zeros_length)⟩, rfl, trivial⟩ ?_)))))
    exact ⟨rfl, hX⟩
  · have hc := Decidable.not_not.1 hc
    rw [if_pos hc]
    have hl64 : (bytesL (y.holds i)).length = 64 := bytesL_len (holdsIn_len (by rw [hwr]; exact h.2) i)
    refine c_skip ?_
    refine f_then (c_seq (c_drawF I_ok rfl [4] 4 [(0, true), (1, true), (2, true), (3, false)] [5, 6, 7] No (by kernel_rfl) rfl fun w6 hE6 hs6 => ?_))
    have hb4 := hb4.extNo hE6
    have hb5 := hb5.extNo hE6
    have hX := hX.thenNo hE6
    refine wd_ldN I_ok rfl rfl (fun w' hw' => (hb2.extNo hw').seg) rfl ?_
    refine wd_ldN I_ok rfl rfl (fun w' hw' => (hb2.extNo hw').seg) rfl ?_
    refine wd_p I_ok rfl ?_
    refine wd_l rfl (st_call Try.call25 rfl rfl rfl rfl rfl rfl (refHolds_calls w6 y p c (by rw [hwr]; exact h.extNo hX) (by rw [hwr]; exact hn) i) fun v7 w7 hr7 => ⟨hE6.thenNo hr7.2, ?_⟩)
    obtain ⟨rfl, hE7⟩ := hr7
    have hb4 := hb4.extNo hE7
    have hb5 := hb5.extNo hE7
    have hX := hX.thenNo hE7
    refine wd_sw (wb rfl (st_stW (l' := refL y p c) I_ok hb4 rfl rfl rfl rfl (ref_flat _ _ _) fun w8 hb4 hE8 hs8 => ?_))
    have hb5 := hb5.ext1 hE8 ne4_5.symm
    have hX := hX.thenNew hE8 fr4
    refine wb rfl (st_stW (l' := bytesL (y.holds i)) I_ok hb5 rfl (by rw [cells_num]) hl64 (by rw [hl64, bytesL_len zeros_length]) one_ints fun w9 hb5 hE9 hs9 => ?_)
    have hb4 := hb4.ext1 hE9 ne4_5
    have hX := hX.thenNew hE9 fr5
    refine wb rfl (st_p I_ok rfl rfl rfl (wb_nil (f_then (c_ret (f_ret [_, _, _] ⟨⟨b4, 0, rfl, ld_all I_ok rfl rfl hb4.seg rfl⟩, ⟨b5, 0, rfl, ld_all I_ok rfl rfl hb5.seg hl64⟩, rfl, trivial⟩ ?_)))))
    exact ⟨rfl, hX⟩
end Go.Proofs.Ytoldbdocgimpnaa
