/- the document's disk: waiting, what the law should see -/
import Derived.Test.YtoldbdocgimpnaaR4
import Derived.Test.YtoldbdocgimpnaaVcU
namespace Go.Proofs.Ytoldbdocgimpnaa
open Go.Vc

instance (b : List Int) : OneC (bytesL b) := ⟨one_ints⟩
instance (b : List Int) : OneC (intsL b) := ⟨one_ints⟩
def waitL (l : List Ent) : List Int := (l.filter fun e => !e.safe).map Ent.sec
theorem waitL_snoc (l : List Ent) (e : Ent) : waitL (l ++ [e]) = waitL l ++ (if e.safe = true then [] else [e.sec]) := by
  simp only [waitL, List.filter_append, List.map_append]
  cases h : e.safe <;> simp [h]
theorem waitL_len (l : List Ent) : (waitL l).length ≤ l.length := by
  simp only [waitL, List.length_map]; exact List.length_filter_le _ _
theorem waiting_calls (w : World) (x : RDsk) (p : Option Addr) (c : Nat) (h : RefW w p x.wr) (hn : x.wr.length < 1000000000) :
    CallsV Try.prog 43 [.agg (refL x p c).toArray] w fun v w' => ∃ q c', v = .slice q x.waiting.length c' ∧ Sl w' q x.waiting.length 1 (intsL x.waiting) ∧ Ext No w w' := by
  refine calls_enter Try.func43 rfl rfl rfl rfl ?_
  have hX := Ext.refl No w
  refine c_seq (c_region (wl (st_al I_ok rfl fun b1 w1 hn1 hb1 hE1 => ?_)))
  have fr1 := Nat.le_trans hX.size hn1
  have hX := hX.thenNo hE1
  have hb1 : Blk w1 b1 48 (refL x p c) := hb1
  refine wl_p I_ok rfl (wl_nil (f_then (c_seq (c_region (wl_p I_ok rfl (wl_nil (f_then (c_seq (c_seq (c_region (wl_p I_ok rfl (wl_nil (f_then (c_block ?_))))))))))))))
  refine c_loopK (α := Nat × Option Addr × Nat) [1] rfl (fun z => [(3, .slice z.2.1 (waitL (x.wr.take z.1)).length z.2.2), (4, .int .i64 (z.1 : Int))]) (fun z u => (z.1 ≤ x.wr.length ∧ Own u z.2.1 (waitL (x.wr.take z.1)).length z.2.2 3 1 (intsL (waitL (x.wr.take z.1))) ∧ (∀ b, OwnB z.2.1 b → w.heap.size ≤ b ∧ b ≠ b1)) ∧ Blk u b1 48 (refL x p c) ∧ Ext No w u) (fun z u => x.wr.length - z.1) (0, none, 0) rfl ⟨⟨Nat.zero_le _, Own.nil _ _ _, fun b hb => (by cases hb)⟩, hb1, hX⟩ ?_
  rintro ⟨k, q, c3⟩ w2 ⟨⟨hk, hown, hnew⟩, hb1, hX⟩
  dsimp only
  dsimp only at hk hown hnew
  refine c_seq (c_seq (c_region (wl_p I_ok rfl (wl (st_ldb I_ok hb1 rfl rfl (wl_p I_ok rfl (wl_nil (f_then (c_if rfl (fun hc => ?_) (fun hc => ?_))))))))))
  · have hk' : k < x.wr.length := by omega
    obtain ⟨eb, eo, rfl, hrow, hc1, hc2, hc3, hl64⟩ := (h.extNo hX).get hk'
    have htake : x.wr.take (k + 1) = x.wr.take k ++ [x.wr[k]] := List.take_succ_eq_append_getElem hk'
    have hwl := waitL_len (x.wr.take k)
    have htl : (x.wr.take k).length = k := by rw [List.length_take]; omega
    generalize hek : x.wr[k] = e at *
    refine c_skip (f_then ?_)
    refine c_cutK (α := Option Addr × Nat) [1, 4] rfl (fun z => [(3, .slice z.1 (waitL (x.wr.take (k + 1))).length z.2)]) (fun z u => (Own u z.1 (waitL (x.wr.take (k + 1))).length z.2 3 1 (intsL (waitL (x.wr.take (k + 1)))) ∧ (∀ b, OwnB z.1 b → w.heap.size ≤ b ∧ b ≠ b1)) ∧ Blk u b1 48 (refL x (some ⟨eb, eo, none⟩) c) ∧ Ext No w u) ?_ ?_
    · refine c_block ?_
      refine c_seq (c_region (wl_p I_ok rfl (wl (st_ldb I_ok hb1 rfl rfl (wl_p I_ok rfl (wl (st_ix I_ok rfl 66 rfl k rfl hk' (eo + k * 66) rfl (wl_p I_ok rfl (wl (st_ld I_ok rfl hc3 (wl_p I_ok rfl (wl_nil (f_then ?_)))))))))))))
      refine c_cond rfl (fun hc => ?_) (fun hc => ?_)
      · have hsf : e.safe = false := by simpa using hc
        have hwt : waitL (x.wr.take (k + 1)) = waitL (x.wr.take k) ++ [e.sec] := by rw [htake, waitL_snoc, hsf]; rfl
        refine c_region (wl_p I_ok rfl (wl (st_ldb I_ok hb1 rfl rfl (wl_p I_ok rfl (wl (st_ix I_ok rfl 66 rfl k rfl hk' (eo + k * 66) rfl (wl_p I_ok rfl (wl (st_ld I_ok rfl hc1 ?_)))))))))
        refine wl (st_bs I_ok rfl 1 rfl rfl rfl (by decide) (by decide) (by simp [partsOk]) (l' := [.int .i64 e.sec]) rfl fun b26 w3 hn26 hb26 hE3 hs3 => ?_)
        have ne1_26 : b1 ≠ b26 := Nat.ne_of_lt (Nat.lt_of_lt_of_le hb1.lt hn26)
        have fr26 := Nat.le_trans hX.size hn26
        have hb1 := hb1.extNo hE3
        have hX := hX.thenNo hE3
        have hown := hown.ext hE3 fun _ _ => id
        have hsrc : Src Try.prog w3 1 (.slice (some ⟨b26, 0, none⟩) 1 1) 1 (intsL [e.sec]) := Src.slice ⟨rfl, .inr ⟨b26, 0, rfl, hb26.seg⟩⟩ OneC.h
        refine wl (st_app I_ok rfl 1 8 rfl rfl rfl (by decide) hown hsrc (by dsimp only [maxLen]; omega) (by dsimp only; omega) fun p4 c4 w4 ho4 hE4 hB4 => ?_)
        have ho4 : Own w4 p4 ((waitL (x.wr.take k)).length + 1) c4 3 1 (intsL (waitL (x.wr.take k)) ++ intsL [e.sec]) := ho4
        have e2 : intsL (waitL (x.wr.take k)) ++ intsL [e.sec] = intsL (waitL (x.wr.take (k + 1))) := by rw [hwt]; simp [intsL]
        have hlen : (waitL (x.wr.take (k + 1))).length = (waitL (x.wr.take k)).length + 1 := by rw [hwt]; simp
        rw [e2, ← hlen] at ho4
        have hold := hnew
        have hnew : ∀ b, OwnB p4 b → w.heap.size ≤ b ∧ b ≠ b1 := fun y hy => by
          rcases hB4 y hy with h' | h'
          · exact hnew y h'
          · have := hX.size; have := hb1.lt; have := hE4.size; exact ⟨by omega, by omega⟩
        have hX := hX.trans hE4 fun y hy e => by have := hold y e; omega
        have hb1 := hb1.ext hE4 fun e => (hold b1 e).2 rfl
        refine wl_p I_ok rfl (wl_nil ?_)
        exact f_blockN (f_cut (p4, c4) (by dsimp only; rw [hlen]; rfl) ⟨⟨ho4, hnew⟩, hb1, hX⟩)
      · have hsf : e.safe = true := by simpa using hc
        have hwt : waitL (x.wr.take (k + 1)) = waitL (x.wr.take k) := by rw [htake, waitL_snoc, hsf]; simp
        refine c_skip ?_
        exact f_blockN (f_cut (q, c3) (by dsimp only; rw [hwt]; rfl) ⟨⟨by rw [hwt]; exact hown, hnew⟩, hb1, hX⟩)
    rintro ⟨q4, c4⟩ w5 ⟨⟨hown, hnew⟩, hb1, hX⟩
    refine c_region (wl_p I_ok rfl ?_)
    rw [IntWalk.i64_in _ (by omega)]
    refine wl_nil ?_
    exact f_round (k + 1, q4, c4) rfl ⟨⟨by dsimp only; omega, hown, hnew⟩, hb1, hX⟩ (by first | omega | (dsimp only; omega))
  · have hk2 : k = x.wr.length := by omega
    subst hk2
    rw [List.take_of_length_le (Nat.le_refl _)] at hown
    refine c_exit (f_thenE (f_thenE (f_blockE (f_then (c_seq (c_region (wl_p I_ok rfl (wl_nil (f_then (c_ret (f_ret1 rfl rfl ?_)))))))))))
    rw [List.take_of_length_le (Nat.le_refl _)]
    exact ⟨q, c3, rfl, hown.sl, hX⟩
end Go.Proofs.Ytoldbdocgimpnaa
