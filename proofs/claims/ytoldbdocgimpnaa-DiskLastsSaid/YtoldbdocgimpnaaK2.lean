/- what is safe stays: the walk, till all acts have happened -/
import Derived.Test.YtoldbdocgimpnaaK1
namespace Go.Proofs.Ytoldbdocgimpnaa
open Go.Vc
structure LS where
  i : Nat
  D : Dsk
  F : Nat → Prop
  S : Sn
theorem fill_step {n k : Nat} (h : k < n) : (boolsL (List.replicate k true ++ List.replicate (n - k) false)).set k (.bool true) = boolsL (List.replicate (k + 1) true ++ List.replicate (n - (k + 1)) false) := by
  obtain ⟨m, hm⟩ : ∃ m, n - k = m + 1 := ⟨n - k - 1, by omega⟩
  have hm2 : n - (k + 1) = m := by omega
  rw [hm, hm2]
  simp only [boolsL, List.map_append, List.map_replicate]
  rw [List.set_append_right _ _ (by simp), List.length_replicate, Nat.sub_self, List.replicate_succ, List.set_cons_zero, List.replicate_succ', List.append_assoc]
  rfl
theorem rowN_get' (f : Nat → Value) {i : Nat} (hi : i < 6) : (rowN f).toArray.toList[i]? = some (f i) := by simpa using rowN_get f hi
theorem all_row {u : World} {b k m : Nat} {D : Dsk} (h : Blk u b 31 (rowsA .u8 D.all)) (hok : D.Ok m) (hk : k < 6) : Seg u b (0 + k * 64) (bytesL (D.now k)) := by
  have hal := all_len hok
  have hu : Uni 64 (D.all.map bytesL) := Uni.map fun r hr => bytesL_len (hal.2.1 r hr)
  have := (h.seg.drop (k * 64)).take 64
  have e : rowsA .u8 D.all = (D.all.map bytesL).flatten := rfl
  rwa [e, rows_row hu (i := k) (r := bytesL (D.now k)) (by simp [Dsk.all, hk])] at this
theorem since_row0 {w u : World} {F : Nat → Prop} {S : Sn} {D : Dsk} (h : SI w u F S (sinceL D)) {k : Nat} (hk : k < 6) : Seg u (S.pb k) (S.po k + 0 * 64) (bytesL (sec D k).safe) := by
  have hs := (h.own k hk).sl
  obtain ⟨b, off, hp, hseg⟩ := hs.2.resolve_left (by simp [sinceL])
  simp at hp
  obtain ⟨rfl, rfl⟩ := hp
  have := (hseg.drop (0 * 64)).take 64
  have hu : Uni 64 (bl (sinceL D k)) := Uni.map fun y hy => bytesL_len (h.blk k hk y hy)
  rwa [rows_row hu (i := 0) (r := bytesL (sec D k).safe) (by simp [bl, sinceL])] at this
theorem fresh_since (i : Nat) : sinceL (Dsk.fresh 6) i = [zeros] := by
  have : sec (Dsk.fresh 6) i = ⟨zeros, []⟩ := by
    simp only [sec, Dsk.fresh, List.getElem?_replicate]
    split <;> rfl
  rw [sinceL, this]
theorem since_few {D : Dsk} {m : Nat} (hok : D.Ok m) {j : Nat} (hj : j < D.secs.length) : (sinceL D j).length ≤ 1 + m := by
  have := waits_few hok (sec_some hj)
  simp only [sinceL, List.length_cons]; omega
theorem since_pos (D : Dsk) (j : Nat) : 0 < (sinceL D j).length := by simp [sinceL]
def lastS (S : Sn) (L : Nat → List (List Int)) : Sn := ⟨S.pb, fun j => S.po j + ((L j).length - 1) * 64, fun j => S.pc j - ((L j).length - 1)⟩
def appS (S : Sn) (k b off c : Nat) : Sn := ⟨fun j => if j = k then b else S.pb j, fun j => if j = k then off else S.po j, fun j => if j = k then c else S.pc j⟩
/-- what holds behind each act -/
structure LI (w u : World) (d b7 i : Nat) (D : Dsk) (F : Nat → Prop) (S : Sn) : Prop where
  at' : At u d F D
  calm : D.Calm
  ok : D.Ok (2 * i)
  new : ∀ y, F y → w.heap.size ≤ y
  f7 : ¬ F b7
  si : SI w u F S (sinceL D)
theorem LI.ext {w u u' : World} {d b7 i : Nat} {D : Dsk} {F : Nat → Prop} {S : Sn} (h : LI w u d b7 i D F S) (hE : Ext No u u') : LI w u' d b7 i D F S := { h with at' := h.at'.extNo hE, si := h.si.extNo hE }
theorem LI.ext7 {w u u' : World} {d b7 i : Nat} {D : Dsk} {F : Nat → Prop} {S : Sn} (h : LI w u d b7 i D F S) (hE : Ext (One b7) u u') (hS : ∀ j, j < 6 → S.pb j ≠ b7) : LI w u' d b7 i D F S :=
  { h with at' := h.at'.ext hE fun t ht e => h.f7 ((show t = b7 from e) ▸ ht), si := h.si.ext hE hS }
theorem LI.up {w u : World} {d b7 i i' : Nat} {D : Dsk} {F : Nat → Prop} {S : Sn} (h : LI w u d b7 i D F S) (hi : i ≤ i') : LI w u d b7 i' D F S := { h with ok := h.ok.mono (by omega) }
theorem lasts_calls (w : World) {p kp : Option Addr} {c kc : Nat} {l : List PAct} {keep : List Bool} {G : Nat → Prop} (hcap : l.length ≤ c) (hl : ActsSl w G p l) (hkc : keep.length ≤ kc) (hks : Sl w kp keep.length 1 (boolsL keep)) :
    CallsV Try.prog 7 [.slice p l.length c, .slice kp keep.length kc] w fun v w' => v = .bool true ∧ Ext No w w' := by
  refine calls_enter Try.func7 rfl rfl rfl rfl ?_
  have hX := Ext.refl No w
  refine c_seq (c_region (wl_p I_ok rfl (wl_nil (f_then (c_seq (c_seq (c_region (wl (st_call Try.call10 rfl rfl rfl rfl rfl rfl (wakes_calls w) fun v1 w1 hr1 => ?_)))))))))
  obtain ⟨rfl, hE1⟩ := hr1
  have hX := hX.thenNo hE1
  refine wl_p I_ok rfl (wl_nil (f_then (c_condF rfl (c_skip (f_then (c_seq (c_region ?_)))))))
  have hX1 := hX
  refine wl (st_call Try.call11 rfl rfl rfl rfl rfl rfl (newGood_calls w1 6 (by decide)) fun v2 w2 hr2 => ?_)
  obtain ⟨d, rfl, frd, hA, hE2⟩ := hr2
  have hX := hX.thenNo hE2
  have hnew : ∀ x, Grow No w1 w2 x → w.heap.size ≤ x := fun x hx => hx.elim False.elim fun h => Nat.le_trans hX1.size h.1
  have hY := Ext.refl No w2
  refine wl_p I_ok rfl (wl_nil (f_then (c_seq (c_seq (c_region (wl_p I_ok rfl (wl_nil (f_then (c_if rfl (fun hc => ?_) (fun hc => ?_))))))))))
  · exact absurd rfl hc
  · refine c_skip ?_
    refine f_then (c_seq (c_region (wl (st_al I_ok rfl fun b7 w3 hn7 hb7 hE3 => ?_))))
    have fr7 := Nat.le_trans hX.size hn7
    have frhY7 := Nat.le_trans hY.size hn7
    have hY := hY.thenNo hE3
    have hX := hX.thenNo hE3
    have hb7 : Blk w3 b7 67 (rowN fun _ => .slice none 0 0) := by (have e : cellsOf ti67.zero = rowN fun _ => .slice none 0 0 := rfl); rw [← e]; exact hb7
    have hF7 : ¬ Grow No w1 w2 b7 := fun e => by have := hA.lt b7 e; omega
    have hlt7 := hb7.lt
    refine wl_nil (f_then (c_seq (c_seq (c_region (wl_p I_ok rfl (wl_nil (f_then (c_block ?_))))))))
    refine c_loopK (α := Nat × (Nat → Nat)) [0, 1, 5, 7] rfl (fun z => [(37, .int .i64 (z.1 : Int))]) (fun z u => (z.1 ≤ 6 ∧ (∀ j, j < z.1 → Blk u (z.2 j) 29 (bytesL zeros) ∧ w3.heap.size ≤ z.2 j) ∧ (∀ i j, i < z.1 → j < z.1 → z.2 i = z.2 j → i = j) ∧ Ext (One b7) w3 u) ∧ Blk u b7 67 (rowN fun j => if j < z.1 then .slice (some ⟨z.2 j, 0, none⟩) 1 1 else .slice none 0 0) ∧ Ext No w u) (fun z u => 6 - z.1) (0, fun _ => 0) rfl ⟨⟨by decide, fun j h => absurd h (Nat.not_lt_zero _), fun i j h => absurd h (Nat.not_lt_zero _), Ext.refl _ _⟩, hb7, hX⟩ ?_
    rintro ⟨k, pb⟩ w4 ⟨⟨hk, hpb, hinj, hW3⟩, hb7, hX⟩
    dsimp only
    dsimp only at hk hpb hinj hb7
    have hplt : ∀ j, j < k → pb j < w4.heap.size := fun j hj => (hpb j hj).1.lt
    have hZ := Ext.refl (One b7) w4
    refine c_seq (c_region (wl_p I_ok rfl (wl_nil (f_then (c_seq (c_if rfl (fun hc => ?_) (fun hc => ?_)))))))
    · have hk6 : k < 6 := by omega
      refine c_skip (f_then (c_seq (c_block (c_seq (c_region (wl_p I_ok rfl (wl_nil (f_then (c_region (wl_p I_ok rfl (wl (st_bd I_ok rfl trivial (l' := bytesL zeros) z29 ?_))))))))))))
      refine wl (st_bs I_ok rfl 64 rfl z29 (bytesL_len zeros_length) (by decide) (by decide) ⟨⟨by rw [cellsOf_agg]; exact bytesL_len zeros_length, by decide⟩, trivial⟩ (l' := bytesL zeros) (by simp only [putAll, cellsOf_agg]; rw [Nat.zero_mul, put_whole (by rw [rep_length]; simp [bytesL_len zeros_length, bytesL_len zeros_length])]) fun b42 w5 hn42 hb42 hE5 hs5 => ?_)
      have ne7_42 : b7 ≠ b42 := Nat.ne_of_lt (Nat.lt_of_lt_of_le hb7.lt hn42)
      have fr42 := Nat.le_trans hX.size hn42
      have frhZ42 := Nat.le_trans hZ.size hn42
      have hb7 := hb7.extNo hE5
      have hpb : ∀ j, j < k → Blk w5 (pb j) 29 (bytesL zeros) ∧ w3.heap.size ≤ pb j := fun j hj => ⟨(hpb j hj).1.extNo hE5, (hpb j hj).2⟩
      have hZ := hZ.thenNo hE5
      have hX := hX.thenNo hE5
      refine wl (st_ix I_ok rfl 1 rfl k rfl hk6 (0 + k * 1) rfl (wl (st_set I_ok hb7 rfl rfl (by rw [rowN_len]; omega) fun w6 hb7 hE6 hs6 => ?_)))
      have hb42 := hb42.ext1 hE6 ne7_42.symm
      have hpb : ∀ j, j < k → Blk w6 (pb j) 29 (bytesL zeros) ∧ w3.heap.size ≤ pb j := fun j hj => ⟨(hpb j hj).1.ext1 hE6 (by have := (hpb j hj).2; omega), (hpb j hj).2⟩
      have hZ := hZ.then (hE6.mono fun _ _ e => by have e : _ = _ := e; subst e; first | rfl | simp)
      have hX := hX.thenNew hE6 fr7
      have hb7 : Blk w6 b7 67 (rowN fun j => if j < k + 1 then .slice (some ⟨if j = k then b42 else pb j, 0, none⟩) 1 1 else .slice none 0 0) := by
        rw [Nat.zero_add, Nat.mul_one, rowN_set _ hk6] at hb7
        rw [rowN_congr (f := fun j => if j < k + 1 then .slice (some ⟨if j = k then b42 else pb j, 0, none⟩) 1 1 else .slice none 0 0) fun j hj => ?_]
        exact hb7
        by_cases h : j = k
        · simp [h]
        · by_cases h2 : j < k
          · simp [h, h2, show j < k + 1 by omega]
          · simp [h, h2, show ¬ j < k + 1 by omega]
      refine wl_nil (f_blockN (f_then (c_region (wl_p I_ok rfl ?_))))
      rw [IntWalk.i64_in _ (by omega)]
      refine wl_nil ?_
      have hs3 := hW3.size
      have hpb2 : ∀ j, j < k + 1 → Blk w6 (if j = k then b42 else pb j) 29 (bytesL zeros) ∧ w3.heap.size ≤ (if j = k then b42 else pb j) := fun j hj => by
        by_cases e : j = k
        · simp only [e, if_true]; exact ⟨hb42, by omega⟩
        · simp only [if_neg e]; exact hpb j (by omega)
      have hinj2 : ∀ i j, i < k + 1 → j < k + 1 → (if i = k then b42 else pb i) = (if j = k then b42 else pb j) → i = j := fun i j hi hj e => by
        by_cases e1 : i = k <;> by_cases e2 : j = k
        · omega
        · simp only [e1, if_true, if_neg e2] at e
          have := hplt j (by omega); omega
        · simp only [e2, if_true, if_neg e1] at e
          have := hplt i (by omega); omega
        · simp only [if_neg e1, if_neg e2] at e
          exact hinj i j (by omega) (by omega) e
      exact f_round (k + 1, fun j => if j = k then b42 else pb j) rfl ⟨⟨by dsimp only; omega, hpb2, hinj2, hW3.then hZ⟩, hb7, hX⟩ (by first | omega | (dsimp only; omega))
    · have hk6 : k = 6 := by omega
      subst hk6
      have hb7 : Blk w4 b7 67 (rowN (cellN ⟨pb, fun _ => 0, fun _ => 1⟩ (sinceL (Dsk.fresh 6)))) := by
        rw [rowN_congr (g := fun j => if j < 6 then .slice (some ⟨pb j, 0, none⟩) 1 1 else .slice none 0 0) fun i hi => by simp [cellN, fresh_since, hi]]
        exact hb7
      have hI : LI w w4 d b7 0 (Dsk.fresh 6) (Grow No w1 w2) ⟨pb, fun _ => 0, fun _ => 1⟩ := by
        refine ⟨(hA.ext hY fun _ _ => id).ext hW3 fun t ht e => hF7 ((show t = b7 from e) ▸ ht), ⟨⟨rfl, rfl, rfl⟩, rfl⟩, Dsk.Ok.fresh (by decide), hnew, hF7, ⟨fun i hi => ?_, fun i j hi hj => hinj i j hi hj, fun i hi => ?_, fun i hi e => ?_, fun i hi b hb => ?_, fun i hi => ?_, fun i hi => ?_⟩⟩
        · rw [fresh_since]
          exact OwnF.of (n := 1) (c := 1) (hpb i hi).1 64 (by rw [bytesL_len zeros_length]) (Nat.le_refl _) (by decide) (by simp [bl]; rw [← bytesL_len zeros_length, List.take_length])
        · have := (hpb i hi).2
          have h2 := hX1.size
          have h3 := hY.size
          have h4 := frd
          have h5 := fr7
          exact Nat.le_trans (by omega) this
        · have h1 := hA.lt (pb i) e
          have := (hpb i hi).2
          have h3 := hY.size
          omega
        · rw [fresh_since] at hb
          simp at hb
          subst hb
          exact zeros_length
        · rw [fresh_since]; simp
        · rw [fresh_since]; simp
      refine c_exit (f_thenE (f_thenE (f_blockE (f_then (c_seq (c_seq (c_region (wl_p I_ok rfl (wl (st_call Try.call12 rfl rfl rfl rfl rfl rfl (someActs_calls w4 hcap hl) fun v7 w7 hr7 => ?_))))))))))
      obtain ⟨rfl, hl, hE7⟩ := hr7
      have hb7 := hb7.extNo hE7
      have hZ := hZ.thenNo hE7
      have hX := hX.thenNo hE7
      have hI := hI.ext hE7
      have hl100 : (l.take 100).length ≤ 100 := by simp; omega
      generalize l.take 100 = l at hl hl100
      refine wl_p I_ok rfl (wl_nil (f_then (c_block ?_)))
      refine c_loopK (α := LS) [1, 5, 7, 46, 47] rfl (fun z => [(48, .int .i64 (z.i : Int))]) (fun z u => (z.i ≤ l.length ∧ LI w u d b7 z.i z.D z.F z.S) ∧ Blk u b7 67 (rowN (cellN z.S (sinceL z.D))) ∧ Ext No w u) (fun z u => l.length - z.i) (⟨0, Dsk.fresh 6, Grow No w1 w2, ⟨pb, fun _ => 0, fun _ => 1⟩⟩) rfl ⟨⟨Nat.zero_le _, hI⟩, hb7, hX⟩ ?_
      rintro ⟨i, D, F, S⟩ w8 ⟨⟨hi, hI⟩, hb7, hX⟩
      dsimp only
      dsimp only at hi hI hb7
      have hY := Ext.refl No w8
      refine c_seq (c_region (wl_p I_ok rfl (wl_nil (f_then (c_seq (c_if rfl (fun hc => ?_) (fun hc => ?_)))))))
      · have hi' : i < l.length := by omega
        obtain ⟨bl0, off, r, hp, hseg, hr4, hat⟩ := hl.get2 (Ext.refl No w) hi'
        have hnb := hat.nb
        have hat0 := hat
        obtain ⟨q, qc, rfl, hrest⟩ := hat
        subst hp
        refine c_skip (f_then (c_cutK (α := LS) [1, 5, 7, 46, 47, 48] rfl (fun z => []) (fun z u => (LI w u d b7 (i + 1) z.D z.F z.S) ∧ Blk u b7 67 (rowN (cellN z.S (sinceL z.D))) ∧ Ext No w u) ?_ ?_))
        · refine c_block ?_
          refine c_seq (c_region (wl (st_ix I_ok rfl 4 rfl i rfl hi' (off + i * 4) rfl (wl (st_ldN I_ok rfl (hseg.extNo hX) rfl (wl (st_al I_ok rfl fun b10 w9 hn10 hb10 hE9 => ?_)))))))
          have ne7_10 : b7 ≠ b10 := Nat.ne_of_lt (Nat.lt_of_lt_of_le hb7.lt hn10)
          have fr10 := Nat.le_trans hX.size hn10
          have frhY10 := Nat.le_trans hY.size hn10
          have hb7 := hb7.extNo hE9
          have hY := hY.thenNo hE9
          have hX := hX.thenNo hE9
          have hF10 : ¬ F b10 := fun e => by have := hI.at'.lt b10 e; omega
          refine wl (st_stW (l' := actV l[i] q qc) I_ok hb10 rfl rfl rfl rfl OneC.h fun w10 hb10 hE10 hs10 => ?_)
          have hb7 := hb7.ext1 hE10 ne7_10
          have hY := hY.thenNew hE10 frhY10
          have hX := hX.thenNew hE10 fr10
          refine wl_nil (f_then (c_seq (c_seq (c_region (wl (st_ldB I_ok hb10 rfl rfl (wl (st_call Try.call13 rfl rfl rfl rfl rfl rfl (which_calls w10 l[i] q qc) fun v11 w11 hr11 => ?_))))))))
          obtain ⟨rfl, hE11⟩ := hr11
          have hb7 := hb7.extNo hE11
          have hb10 := hb10.extNo hE11
          have hY := hY.thenNo hE11
          have hX := hX.thenNo hE11
          refine wl_p I_ok rfl (wl_nil (f_then (c_if rfl (fun hc => ?_) (fun hc => ?_))))
          · refine c_exit ?_
            exact f_thenE (f_blockE (f_cut (⟨i, D, F, S⟩) rfl ⟨(hI.ext hY).up (by omega), hb7, hX⟩))
          · have hk : whichN (l[i]).k < 4 := by omega
            refine c_skip (f_then (c_seq (c_region (wl_p I_ok rfl (wl (st_ldB I_ok hb10 rfl rfl ?_))))))
            have hlb7 := hb7.lt
            have hlb10 := hb10.lt
            have hI := hI.ext hY
            have hF7 := hI.f7
            have hXo := hX
            have hlS : ∀ j, j < 6 → S.pb j < w11.heap.size := fun j hj => hI.si.lt hj
            have hb64 := bytesL_len (act_blk hI.ok l[i])
            refine wl (st_call Try.call15 rfl rfl rfl rfl rfl rfl (happens_calls w11 hI.at' hI.ok (by omega) (hat0.ext hX fun _ _ => id)) fun v12 w12 hr12 => ?_)
            obtain ⟨rfl, hA, hE12⟩ := hr12
            have hb7 := hb7.ext hE12 hF7
            have hb10 := hb10.ext hE12 hF10
            have hX := hX.trans hE12 fun y hy hF => by have := hI.new y hF; omega
            have hsi := (hI.si.ext hE12 hI.si.notF).grow (u1 := w11) hlS
            have hF7 : ¬ Grow F w11 w12 b7 := fun e => e.elim hF7 fun e => by omega
            have hnew : ∀ y, Grow F w11 w12 y → w.heap.size ≤ y := fun y hy => hy.elim (hI.new y) fun h => Nat.le_trans hXo.size h.1
            have hcalm2 := (hI.calm.act _ hk).1
            have hok2 := hI.ok.act _ hnb.1 hnb.2
            generalize hF2 : Grow F w11 w12 = F2 at hA hsi hF7 hnew
            have hne7 : ∀ j, j < 6 → S.pb j ≠ b7 := fun j hj => hsi.ne hj hb7 (by decide)
            have hne10 : ∀ j, j < 6 → S.pb j ≠ b10 := fun j hj => hsi.ne hj hb10 (by decide)
            have hZ := Ext.refl No w12
            refine wl_p I_ok rfl (wl (st_al I_ok rfl fun b11 w13 hn11 hb11 hE13 => ?_))
            have ne7_11 : b7 ≠ b11 := Nat.ne_of_lt (Nat.lt_of_lt_of_le hb7.lt hn11)
            have ne10_11 : b10 ≠ b11 := Nat.ne_of_lt (Nat.lt_of_lt_of_le hb10.lt hn11)
            have fr11 := Nat.le_trans hX.size hn11
            have frhZ11 := Nat.le_trans hZ.size hn11
            have hb7 := hb7.extNo hE13
            have hb10 := hb10.extNo hE13
            have hZ := hZ.thenNo hE13
            have hX := hX.thenNo hE13
            refine wl (st_stW (l' := bytesL (D.act l[i]).2.1) I_ok hb11 rfl (by rw [cells_num]) hb64 (by rw [hb64]; rfl) OneC.h fun w14 hb11 hE14 hs14 => ?_)
            have hb7 := hb7.ext1 hE14 ne7_11
            have hb10 := hb10.ext1 hE14 ne10_11
            have hZ := hZ.thenNew hE14 frhZ11
            have hX := hX.thenNew hE14 fr11
            refine wl_p I_ok rfl (wl_nil (f_then (c_block (c_seq (c_region (wl_p I_ok rfl (wl_nil (f_then (c_if rfl (fun hc => ?_) (fun hc => ?_))))))))))
            · have e2 : sinceL (D.act l[i]).1 = sinceL D := funext (lasts_err hI.calm l[i] hk hc)
              rw [← e2] at hb7 hsi
              refine c_skip ?_
              exact f_blockN (f_blockN (f_cut (⟨i, (D.act l[i]).1, F2, S⟩) rfl ⟨⟨hA.ext hZ fun _ _ => id, hcalm2, hok2.mono (by omega), hnew, hF7, hsi.extNo hZ⟩, hb7, hX⟩))
            · have he : (D.act l[i]).2.2 = 0 := Decidable.not_not.1 hc
              refine c_seq (c_region (wl (st_ldB I_ok hb10 rfl rfl (wl (st_call Try.call13 rfl rfl rfl rfl rfl rfl (which_calls w14 l[i] q qc) fun v15 w15 hr15 => ?_)))))
              obtain ⟨rfl, hE15⟩ := hr15
              have hb7 := hb7.extNo hE15
              have hb10 := hb10.extNo hE15
              have hb11 := hb11.extNo hE15
              have hZ := hZ.thenNo hE15
              have hX := hX.thenNo hE15
              refine wl_p I_ok rfl (wl_nil (f_then (c_if rfl (fun hc => ?_) (fun hc => ?_))))
              · have hk3 : whichN (l[i]).k = 3 := by omega
                have hsy : ∀ j, j < 6 → sinceL (D.act l[i]).1 j = [D.now j] := fun j hj => lasts_sync hI.calm hI.ok l[i] hk3 hj
                have hlast : ∀ j, j < 6 → ∃ x, (sinceL D j).getLast? = some x ∧ sinceL (D.act l[i]).1 j = [x] := fun j hj => ⟨_, now_since (show j < D.secs.length by rw [hI.calm.size]; exact hj), hsy j hj⟩
                have hsi := hsi.extNo hZ
                have hA := hA.ext hZ fun _ _ => id
                have hb7 : Blk w15 b7 67 (rowN fun j => if j < 0 then cellN (lastS S (sinceL D)) (sinceL (D.act l[i]).1) j else cellN S (sinceL D) j) := by
                  rw [rowN_congr (g := cellN S (sinceL D)) fun j _ => if_neg (Nat.not_lt_zero _)]
                  exact hb7
                refine c_seq (c_region (wl (st_ldB I_ok hb7 rfl (rowN_len _) (wl_p I_ok rfl (wl_nil (f_then (c_block ?_)))))))
                refine c_loopK (α := Nat) [1, 5, 7, 46, 47, 48, 68] rfl (fun z => [(69, .int .i64 (z : Int))]) (fun z u => (z ≤ 6 ∧ Ext (One b7) w15 u) ∧ Blk u b7 67 (rowN fun j => if j < z then cellN (lastS S (sinceL D)) (sinceL (D.act l[i]).1) j else cellN S (sinceL D) j) ∧ Blk u b10 35 (actV l[i] q qc) ∧ Blk u b11 29 (bytesL (D.act l[i]).2.1) ∧ Ext No w u) (fun z u => 6 - z) (0) rfl ⟨⟨by decide, Ext.refl _ _⟩, hb7, hb10, hb11, hX⟩ ?_
                rintro k w16 ⟨⟨hk6, hQ3⟩, hb7, hb10, hb11, hX⟩
                have hZ := Ext.refl (One b7) w16
                refine c_seq (c_region (wl_p I_ok rfl (wl_nil (f_then (c_seq (c_if rfl (fun hc => ?_) (fun hc => ?_)))))))
                · have hk6' : k < 6 := by omega
                  have hpos := since_pos D k
                  have hfew := hsi.few k hk6'
                  have hcap : (sinceL D k).length ≤ S.pc k := by obtain ⟨_, _, _, _, _, _, h, _⟩ := hsi.own k hk6'; exact h
                  refine c_skip (f_then (c_seq (c_block (c_seq (c_region (wl_p I_ok rfl (wl (st_id I_ok rfl k rfl hk6' (.inl ⟨rfl, (rowN_get' _ hk6').trans (congrArg some (if_neg (Nat.not_lt_zero k)))⟩) (wl_p I_ok rfl (wl_nil (f_then ?_)))))))))))
                  refine c_region (wl_p I_ok rfl ?_)
                  rw [IntWalk.i64_in _ (by omega)]
                  refine wl (st_sl I_ok rfl ((sinceL D k).length - 1) (sinceL D k).length (S.pc k) 64 rfl (.inr ⟨rfl, rfl⟩) (.inr ⟨rfl, rfl⟩) (.inl (congrArg some (by omega))) (by omega) hcap (Nat.le_refl _) ?_)
                  dsimp only
                  rw [slBase_eq (by omega), show (sinceL D k).length - ((sinceL D k).length - 1) = (sinceL (D.act l[i]).1 k).length from by rw [hsy k hk6']; simp; omega]
                  refine wl (st_ix I_ok rfl 1 rfl k rfl hk6' (0 + k * 1) rfl (wl (st_set I_ok hb7 rfl rfl (by rw [rowN_len]; omega) fun w17 hb7 hE17 hs17 => ?_)))
                  have hb10 := hb10.ext1 hE17 ne7_10.symm
                  have hb11 := hb11.ext1 hE17 ne7_11.symm
                  have hZ := hZ.then (hE17.mono fun _ _ e => by have e : _ = _ := e; subst e; first | rfl | simp)
                  have hX := hX.thenNew hE17 fr7
                  have hb7 : Blk w17 b7 67 (rowN fun j => if j < k + 1 then cellN (lastS S (sinceL D)) (sinceL (D.act l[i]).1) j else cellN S (sinceL D) j) := by
                    rw [Nat.zero_add, Nat.mul_one, rowN_set _ hk6'] at hb7
                    rw [rowN_congr (f := fun j => if j < k + 1 then cellN (lastS S (sinceL D)) (sinceL (D.act l[i]).1) j else cellN S (sinceL D) j) fun j hj => ?_]
                    exact hb7
                    by_cases h : j = k
                    · subst h; simp [cellN, lastS]
                    · by_cases h2 : j < k
                      · simp [h, h2, show j < k + 1 by omega]
                      · simp [h, h2, show ¬ j < k + 1 by omega]
                  refine wl_nil (f_blockN (f_then (c_region (wl_p I_ok rfl ?_))))
                  rw [IntWalk.i64_in _ (by omega)]
                  refine wl_nil ?_
                  exact f_round (k + 1) rfl ⟨⟨by omega, hQ3.then hZ⟩, hb7, hb10, hb11, hX⟩ (by first | omega | (dsimp only; omega))
                · have hk7 : k = 6 := by omega
                  subst hk7
                  have hb7 : Blk w16 b7 67 (rowN (cellN (lastS S (sinceL D)) (sinceL (D.act l[i]).1))) := by
                    rw [rowN_congr (g := fun j => if j < 6 then cellN (lastS S (sinceL D)) (sinceL (D.act l[i]).1) j else cellN S (sinceL D) j) fun j hj => (if_pos hj).symm]
                    exact hb7
                  refine c_exit ?_
                  exact f_thenE (f_thenE (f_blockE (f_blockN (f_blockN (f_cut (⟨i, (D.act l[i]).1, F2, lastS S (sinceL D)⟩) rfl ⟨⟨hA.ext hQ3 fun t ht e => hF7 ((show t = b7 from e) ▸ ht), hcalm2, hok2.mono (by omega), hnew, hF7, (hsi.last hlast).ext hQ3 hne7⟩, hb7, hX⟩)))))
              · have hk3 : ¬ whichN (l[i]).k = 3 := by omega
                refine c_seq (c_region (wl (st_ldB I_ok hb10 rfl rfl (wl (st_call Try.call13 rfl rfl rfl rfl rfl rfl (which_calls w15 l[i] q qc) fun v18 w18 hr18 => ?_)))))
                obtain ⟨rfl, hE18⟩ := hr18
                have hb7 := hb7.extNo hE18
                have hb10 := hb10.extNo hE18
                have hb11 := hb11.extNo hE18
                have hZ := hZ.thenNo hE18
                have hX := hX.thenNo hE18
                refine wl_p I_ok rfl (wl_nil (f_then (c_if rfl (fun hc => ?_) (fun hc => ?_))))
                · have hk12 : whichN (l[i]).k = 1 ∨ whichN (l[i]).k = 2 := by omega
                  obtain ⟨hin, hwr⟩ := lasts_write hI.calm l[i] hk12 he
                  have hn6 : (l[i]).n.toNat < 6 := by omega
                  have hne7n := hne7 _ hn6
                  have hne10n := hne10 _ hn6
                  have hsi := hsi.extNo hZ
                  have hA := hA.ext hZ fun _ _ => id
                  have hZ := Ext.refl No w18
                  have hfewn := since_few hI.ok (show (l[i]).n.toNat < D.secs.length by rw [hI.calm.size]; exact hn6)
                  have hposn := since_pos D (l[i]).n.toNat
                  refine c_draw rfl 11 [(0, true), (1, true), (2, true), (3, true), (4, true), (5, true), (6, true), (7, false), (8, false), (9, false), (10, true)] [11] (fun x => x = S.pb (l[i]).n.toNat ∨ x = S.pb (l[i]).n.toNat) (by kernel_rfl) fun w19 hE19 hs19 => ?_
                  have hd7 := hb7
                  have hd10 := hb10
                  have hd11 := hb11
                  have hXd := hX
                  have hb7 := hb7.extNo hE19
                  have hb10 := hb10.extNo hE19
                  have hb11 := hb11.extNo hE19
                  have hZ := hZ.thenNo hE19
                  have hX := hX.thenNo hE19
                  have hC : Ext (fun x => x = S.pb (l[i]).n.toNat ∨ x = S.pb (l[i]).n.toNat) _ w19 := hE19.no
                  refine wd_k I_ok 1 rfl (wd_ld I_ok rfl rfl (fun w' hw' => (hd10.ext (show Ext (fun x => x = S.pb (l[i]).n.toNat ∨ x = S.pb (l[i]).n.toNat) _ w' from hw') fun e => by have e : _ = _ ∨ _ = _ := e; omega).cell rfl) ?_)
                  refine wd_k I_ok 1 rfl (wd_ld I_ok rfl rfl (fun w' hw' => (hd10.ext (show Ext (fun x => x = S.pb (l[i]).n.toNat ∨ x = S.pb (l[i]).n.toNat) _ w' from hw') fun e => by have e : _ = _ ∨ _ = _ := e; omega).cell rfl) ?_)
                  refine wd_ix I_ok rfl rfl 1 rfl (l[i]).n.toNat (by omega) hn6 (0 + (l[i]).n.toNat * 1) rfl ?_
                  refine wd_ld I_ok rfl rfl (fun w' hw' => ((hd7.ext (show Ext (fun x => x = S.pb (l[i]).n.toNat ∨ x = S.pb (l[i]).n.toNat) _ w' from hw') fun e => by have e : _ = _ ∨ _ = _ := e; omega).cell (i := 0 + (l[i]).n.toNat * 1) (v := cellN S (sinceL D) (l[i]).n.toNat) (by rw [Nat.zero_add, Nat.mul_one]; exact rowN_get _ hn6))) ?_
                  refine wd_ldN I_ok rfl rfl (fun w' hw' => (hd10.ext (show Ext (fun x => x = S.pb (l[i]).n.toNat ∨ x = S.pb (l[i]).n.toNat) _ w' from hw') fun e => by have e : _ = _ ∨ _ = _ := e; omega).seg) rfl ?_
                  refine wd_l rfl (st_call Try.call14 rfl rfl rfl rfl rfl rfl (block_calls w19 (l[i]).k (l[i]).n (l[i]).b q (l[i]).keep.length qc) fun v20 w20 hr20 => ⟨(by obtain ⟨rfl, hE20⟩ := hr20; exact hC.then hE20.no), ?_⟩)
                  obtain ⟨rfl, hE20⟩ := hr20
                  have hb7 := hb7.extNo hE20
                  have hb10 := hb10.extNo hE20
                  have hb11 := hb11.extNo hE20
                  have hZ := hZ.thenNo hE20
                  have hX := hX.thenNo hE20
                  have hC := hC.then hE20.no
                  refine wd_l rfl (st_bs I_ok rfl 64 rfl z29 (bytesL_len zeros_length) (by decide) (by decide) ⟨⟨by rw [cells_num]; exact bytesL_len (actBytes_length _), by decide⟩, trivial⟩ (l' := bytesL (actBytes (l[i]).b)) (by simp only [putAll, cells_num]; rw [Nat.zero_mul, put_whole (by rw [rep_length]; simp [bytesL_len (actBytes_length _), bytesL_len zeros_length])]) fun b93 w21 hn93 hb93 hE21 hs21 => ⟨hC.thenNo hE21, ?_⟩)
                  have ne7_93 : b7 ≠ b93 := Nat.ne_of_lt (Nat.lt_of_lt_of_le hb7.lt hn93)
                  have ne10_93 : b10 ≠ b93 := Nat.ne_of_lt (Nat.lt_of_lt_of_le hb10.lt hn93)
                  have ne11_93 : b11 ≠ b93 := Nat.ne_of_lt (Nat.lt_of_lt_of_le hb11.lt hn93)
                  have fr93 := Nat.le_trans hX.size hn93
                  have frhZ93 := Nat.le_trans hZ.size hn93
                  have hb7 := hb7.extNo hE21
                  have hb10 := hb10.extNo hE21
                  have hb11 := hb11.extNo hE21
                  have hZ := hZ.thenNo hE21
                  have hX := hX.thenNo hE21
                  have hC := hC.thenNo hE21
                  have hsi2 := hsi.extNo hZ
                  have hA2 := hA.ext hZ fun _ _ => id
                  have hown := hsi2.own _ hn6
                  have hsrc : Src Try.prog w21 64 (.slice (some ⟨b93, 0, none⟩) 1 1) 1 (bytesL (actBytes (l[i]).b)) := Src.slice ⟨by rw [bytesL_len (actBytes_length _)], .inr ⟨b93, 0, rfl, hb93.seg⟩⟩ one_ints
                  refine wd_l rfl (st_appF I_ok rfl 64 64 rfl rfl (by rw [z29]; exact bytesL_len zeros_length) (by decide) hown hsrc (by dsimp only [maxLen]; omega) (by dsimp only; omega) (by dsimp only; omega) fun p22 c22 w22 ho22 hE22 hB22 => ⟨hC.then (hE22.mono fun x _ hx => Or.inl (inB_eq hx)), ?_⟩)
                  have ho22 : OwnF w22 p22 ((sinceL D (l[i]).n.toNat).length + 1) c22 29 64 ((bl (sinceL D (l[i]).n.toNat)).flatten ++ bytesL (actBytes (l[i]).b)) := ho22
                  have hoC := ho22
                  obtain ⟨nb, noff, _, hpn, _⟩ := hoC
                  subst hpn
                  have hBn : nb = S.pb (l[i]).n.toNat ∨ w21.heap.size ≤ nb := (hB22 nb ⟨noff, rfl⟩).imp inB_eq id
                  have hsi3 := hsi2.app hn6 (actBytes_length (l[i]).b) (by omega) ho22 hE22 hBn hX.size hA2.lt
                  have hA3 := hA2.ext hE22 fun t ht e => hsi2.notF _ hn6 ((inB_eq e) ▸ ht)
                  have hX := hX.trans hE22 fun y hy e => by have := inB_eq e; have := hsi2.new _ hn6; omega
                  have hb7 := hb7.ext hE22 fun e => hne7n (inB_eq e).symm
                  have hb10 := hb10.ext hE22 fun e => hne10n (inB_eq e).symm
                  have hZ := Ext.refl (One b7) w22
                  obtain ⟨nc, hnc⟩ : ∃ nc, nc = c22 := ⟨_, rfl⟩
                  subst hnc
                  have hb7o := hb7
                  have hZ := Ext.refl (One b7) w22
                  refine wd_ix I_ok rfl rfl 1 rfl (l[i]).n.toNat (by omega) hn6 (0 + (l[i]).n.toNat * 1) rfl (wd_sw (wb rfl (st_set I_ok hb7 rfl rfl (by rw [rowN_len]; omega) fun w23 hb7 hE23 hs23 => ?_)))
                  have hb10 := hb10.ext1 hE23 ne7_10.symm
                  have hZ := hZ.then (hE23.mono fun _ _ e => by have e : _ = _ := e; subst e; first | rfl | simp)
                  have hX := hX.thenNew hE23 fr7
                  have hb7 : Blk w23 b7 67 (rowN (cellN (appS S (l[i]).n.toNat nb noff nc) (sinceL (D.act l[i]).1))) := by
                    rw [Nat.zero_add, Nat.mul_one, rowN_set _ hn6] at hb7
                    rw [rowN_congr (f := cellN (appS S (l[i]).n.toNat nb noff nc) (sinceL (D.act l[i]).1)) fun j hj => ?_]
                    exact hb7
                    by_cases h : j = (l[i]).n.toNat
                    · simp only [h, if_true, cellN, appS, hwr]; simp
                    · simp only [if_neg h, cellN, appS, hwr, if_neg (Ne.symm h)]
                  refine wb_nil ?_
                  exact f_blockN (f_blockN (f_cut (⟨i, (D.act l[i]).1, F2, appS S (l[i]).n.toNat nb noff nc⟩) rfl ⟨⟨hA3.ext hZ fun t ht e => hF7 ((show t = b7 from e) ▸ ht), hcalm2, hok2.mono (by omega), hnew, hF7, (hsi3.ext hZ fun j hj => hsi3.ne hj hb7o (by decide)).congr fun j hj => by rw [hwr]; by_cases h : j = (l[i]).n.toNat <;> simp [h, eq_comm]⟩, hb7, hX⟩))
                · have hk0 : whichN (l[i]).k = 0 := by omega
                  have e2 : sinceL (D.act l[i]).1 = sinceL D := funext (lasts_read hI.calm l[i] hk0)
                  rw [← e2] at hb7 hsi
                  refine c_skip ?_
                  exact f_blockN (f_blockN (f_cut (⟨i, (D.act l[i]).1, F2, S⟩) rfl ⟨⟨hA.ext hZ fun _ _ => id, hcalm2, hok2.mono (by omega), hnew, hF7, hsi.extNo hZ⟩, hb7, hX⟩))
        rintro ⟨_, D, F, S⟩ w24 ⟨hI, hb7, hX⟩
        dsimp only at hI hb7
        refine c_region (wl_p I_ok rfl ?_)
        rw [IntWalk.i64_in _ (by omega)]
        refine wl_nil ?_
        exact f_round (⟨i + 1, D, F, S⟩) rfl ⟨⟨by dsimp only; omega, hI⟩, hb7, hX⟩ (by first | omega | (dsimp only; omega))
      · refine c_exit ?_
        refine f_thenE (f_thenE (f_blockE (f_then (c_seq (c_region (wl_p I_ok rfl ?_))))))
        have hI := hI.ext hY
        have hF7 := hI.f7
        have hal := all_len hI.ok
        have hnew := hI.new
        refine wl (st_call Try.call17 rfl rfl rfl rfl rfl rfl (holds_calls w8 hI.at' hI.ok (by omega) hI.calm.toQuiet) fun v25 w25 hr25 => ?_)
        obtain ⟨rfl, hA, hE25⟩ := hr25
        have hb7 := hb7.ext hE25 hF7
        have hX := hX.trans hE25 fun y hy hF => by have := hI.new y hF; omega
        have hok6 := hI.ok.ran 6
        have hsi := hI.si.ext hE25 hI.si.notF
        have hnotF := hI.si.notF
        have hwl := waits_len (D.ran 6)
        have hfew := hok6.few
        have hsz6 : (D.ran 6).secs.length = 6 := hI.calm.size
        have hZ := Ext.refl No w25
        refine wl_p I_ok rfl (wl (st_al I_ok rfl fun b15 w26 hn15 hb15 hE26 => ?_))
        have ne7_15 : b7 ≠ b15 := Nat.ne_of_lt (Nat.lt_of_lt_of_le hb7.lt hn15)
        have fr15 := Nat.le_trans hX.size hn15
        have frhZ15 := Nat.le_trans hZ.size hn15
        have hb7 := hb7.extNo hE26
        have hZ := hZ.thenNo hE26
        have hX := hX.thenNo hE26
        have hF15 : ¬ F b15 := fun e => by have := hA.lt b15 e; omega
        refine wl (st_stW (l' := rowsA .u8 (D).all) I_ok hb15 rfl (by rw [cellsOf_agg]) hal.2.2 (by rw [hal.2.2]; exact (List.length_replicate (n := 384)).symm) (by rw [rowsA_flat]; exact one_ints) fun w27 hb15 hE27 hs27 => ?_)
        have hb7 := hb7.ext1 hE27 ne7_15
        have hZ := hZ.thenNew hE27 frhZ15
        have hX := hX.thenNew hE27 fr15
        refine wl_p I_ok rfl (wl_nil (f_then (c_seq (c_region (wl_p I_ok rfl ?_)))))
        have hlb7 := hb7.lt
        have hlb15 := hb15.lt
        have hA := hA.ext hZ fun _ _ => id
        have hsi := hsi.extNo hZ
        have hlS : ∀ j, j < 6 → S.pb j < w27.heap.size := fun j hj => hsi.lt hj
        have hFlt := hA.lt
        have hw1 := hX.size
        refine wl (st_call Try.call27 rfl rfl rfl rfl rfl rfl (copy_calls w27 hA hok6 (by omega)) fun v28 w28 hr28 => ?_)
        obtain ⟨c1, rfl, hcn1, hA1, hE28⟩ := hr28
        have hb7 := hb7.extNo hE28
        have hb15 := hb15.extNo hE28
        have hZ := hZ.thenNo hE28
        have hX := hX.thenNo hE28
        have hlt1 := hA1.lt
        have hnew1 : ∀ y, Grow No w27 w28 y → w27.heap.size ≤ y := fun y hy => hy.elim False.elim And.left
        generalize Grow No w27 w28 = F1 at hA1 hlt1 hnew1
        have hd1 : ∀ y, F y → ¬ F1 y := fun y h1 h2 => by have := hFlt y h1; have := hnew1 y h2; omega
        have hs1 : ∀ j, j < 6 → ¬ F1 (S.pb j) := fun j hj e => by have := hlS j hj; have := hnew1 _ e; omega
        have hG7 : ¬ F1 b7 := fun e => by have := hnew1 _ e; omega
        have hG15 : ¬ F1 b15 := fun e => by have := hnew1 _ e; omega
        have hA := hA.extNo hE28
        have hsi := hsi.extNo hE28
        refine wl_p I_ok rfl ?_
        have hlb7 := hb7.lt
        have hlb15 := hb15.lt
        have hlS : ∀ j, j < 6 → S.pb j < w28.heap.size := fun j hj => hsi.lt hj
        have hFlt := hA.lt
        have hF1lt := hA1.lt
        have hw2 := hX.size
        refine wl (st_call Try.call27 rfl rfl rfl rfl rfl rfl (copy_calls w28 hA hok6 (by omega)) fun v29 w29 hr29 => ?_)
        obtain ⟨c2, rfl, hcn2, hA2, hE29⟩ := hr29
        have hb7 := hb7.extNo hE29
        have hb15 := hb15.extNo hE29
        have hZ := hZ.thenNo hE29
        have hX := hX.thenNo hE29
        have hlt2 := hA2.lt
        have hnew2 : ∀ y, Grow No w28 w29 y → w28.heap.size ≤ y := fun y hy => hy.elim False.elim And.left
        generalize Grow No w28 w29 = F2 at hA2 hlt2 hnew2
        have hd2 : ∀ y, F y → ¬ F2 y := fun y h1 h2 => by have := hFlt y h1; have := hnew2 y h2; omega
        have hd3 : ∀ y, F1 y → ¬ F2 y := fun y h1 h2 => by have := hF1lt y h1; have := hnew2 y h2; omega
        have hs2 : ∀ j, j < 6 → ¬ F2 (S.pb j) := fun j hj e => by have := hlS j hj; have := hnew2 _ e; omega
        have hH7 : ¬ F2 b7 := fun e => by have := hnew2 _ e; omega
        have hH15 : ¬ F2 b15 := fun e => by have := hnew2 _ e; omega
        have hA := hA.extNo hE29
        have hA1 := hA1.extNo hE29
        have hsi := hsi.extNo hE29
        have hn1 : ∀ y, F1 y → w.heap.size ≤ y := fun y hy => Nat.le_trans hw1 (hnew1 y hy)
        have hn2 : ∀ y, F2 y → w.heap.size ≤ y := fun y hy => Nat.le_trans hw2 (hnew2 y hy)
        have hZ := Ext.refl No w29
        refine wl_p I_ok rfl (wl_nil (f_then (c_seq (c_region (wl_p I_ok rfl (wl (st_call Try.call16 rfl rfl rfl rfl rfl rfl (pending_ints w29 (hA.extNo hZ) hok6 (by omega)) fun v30 w30 hr30 => ?_)))))))
        obtain ⟨b60, rfl, hn60, hb60, hE30⟩ := hr30
        have hb7 := hb7.extNo hE30
        have hb15 := hb15.extNo hE30
        have hZ := hZ.thenNo hE30
        have hX := hX.thenNo hE30
        refine wl_p I_ok rfl ?_
        have hFlt3 := (hA.extNo hZ).lt
        have hlt13 := (hA1.extNo hZ).lt
        have hlt23 := (hA2.extNo hZ).lt
        refine wl (st_mk I_ok rfl (waits (D.ran 6)).length (waits (D.ran 6)).length 1 rfl rfl rfl (by decide) rfl rfl (Nat.le_refl _) (by omega) (by unfold maxLen; omega) fun b109 w31 hn109 hb109 hE31 hs31 => ?_)
        have ne7_109 : b7 ≠ b109 := Nat.ne_of_lt (Nat.lt_of_lt_of_le hb7.lt hn109)
        have ne15_109 : b15 ≠ b109 := Nat.ne_of_lt (Nat.lt_of_lt_of_le hb15.lt hn109)
        have fr109 := Nat.le_trans hX.size hn109
        have frhZ109 := Nat.le_trans hZ.size hn109
        have hb7 := hb7.extNo hE31
        have hb15 := hb15.extNo hE31
        have hZ := hZ.thenNo hE31
        have hX := hX.thenNo hE31
        have hb109 : Blk w31 b109 4 (boolsL (List.replicate 0 true ++ List.replicate ((waits (D.ran 6)).length - 0) false)) := by (have e : rep (waits (D.ran 6)).length (cellsOf ti4.zero) = boolsL (List.replicate 0 true ++ List.replicate ((waits (D.ran 6)).length - 0) false) := by rw [show cellsOf ti4.zero = [Value.bool false] from rfl, rep_one, boolsL]; simp); rw [← e]; exact hb109
        have hA := hA.ext hZ fun _ _ => id
        have hA1 := hA1.ext hZ fun _ _ => id
        have hA2 := hA2.ext hZ fun _ _ => id
        have hsi := hsi.extNo hZ
        have hF109 : ¬ F b109 := fun e => by have := hFlt3 b109 e; omega
        have hG109 : ¬ F1 b109 := fun e => by have := hlt13 b109 e; omega
        have hH109 : ¬ F2 b109 := fun e => by have := hlt23 b109 e; omega
        have hS109 : ∀ j, j < 6 → S.pb j ≠ b109 := fun j hj => hsi.ne hj hb109 (by decide)
        refine wl_p I_ok rfl (wl_nil (f_then (c_seq (c_seq (c_region (wl_p I_ok rfl (wl_nil (f_then (c_block ?_)))))))))
        refine c_loopK (α := Nat) [1, 5, 7, 15, 16, 17, 18, 19, 111] rfl (fun z => [(112, .int .i64 (z : Int))]) (fun z u => (z ≤ (waits (D.ran 6)).length ∧ Ext (One b109) w31 u) ∧ Blk u b7 67 (rowN (cellN S (sinceL D))) ∧ Blk u b15 31 (rowsA .u8 (D).all) ∧ Blk u b109 4 (boolsL (List.replicate z true ++ List.replicate ((waits (D.ran 6)).length - z) false)) ∧ Ext No w u) (fun z u => (waits (D.ran 6)).length - z) (0) rfl ⟨⟨Nat.zero_le _, Ext.refl _ _⟩, hb7, hb15, hb109, hX⟩ ?_
        rintro k w32 ⟨⟨hkn, hQ4⟩, hb7, hb15, hb109, hX⟩
        have hZ := Ext.refl (One b109) w32
        refine c_seq (c_region (wl_p I_ok rfl (wl_nil (f_then (c_seq (c_if rfl (fun hc => ?_) (fun hc => ?_)))))))
        · have hkn2 : k < (waits (D.ran 6)).length := by omega
          refine c_skip (f_then (c_seq (c_block (c_seq (c_region (wl_p I_ok rfl (wl_nil (f_then (c_region (wl_p I_ok rfl (wl (st_ix I_ok rfl 1 rfl k rfl hkn2 (0 + k * 1) rfl ?_))))))))))))
          refine wl (st_set I_ok hb109 rfl rfl (by simp [boolsL]; omega) fun w33 hb109 hE33 hs33 => ?_)
          have hb7 := hb7.ext1 hE33 ne7_109
          have hb15 := hb15.ext1 hE33 ne15_109
          have hZ := hZ.then (hE33.mono fun _ _ e => by have e : _ = _ := e; subst e; first | rfl | simp)
          have hX := hX.thenNew hE33 fr109
          have hb109 : Blk w33 b109 4 (boolsL (List.replicate (k + 1) true ++ List.replicate ((waits (D.ran 6)).length - (k + 1)) false)) := by rw [← fill_step hkn2]; simpa using hb109
          refine wl_nil (f_blockN (f_then (c_region (wl_p I_ok rfl ?_))))
          rw [IntWalk.i64_in _ (by omega)]
          refine wl_nil ?_
          exact f_round (k + 1) rfl ⟨⟨by omega, hQ4.then hZ⟩, hb7, hb15, hb109, hX⟩ (by first | omega | (dsimp only; omega))
        · have hkn2 : k = (waits (D.ran 6)).length := by omega
          have hb109 : Blk w32 b109 4 (boolsL (List.replicate (waits (D.ran 6)).length true)) := by
            rw [hkn2] at hb109
            simpa using hb109
          have hA := hA.ext hQ4 fun t ht e => hF109 ((show t = b109 from e) ▸ ht)
          have hA1 := hA1.ext hQ4 fun t ht e => hG109 ((show t = b109 from e) ▸ ht)
          have hA2 := hA2.ext hQ4 fun t ht e => hH109 ((show t = b109 from e) ▸ ht)
          have hsi := hsi.ext hQ4 hS109
          refine c_exit (f_thenE (f_thenE (f_blockE (f_then (c_seq ?_)))))
          refine c_cutK (α := Bool) [5, 7, 15, 17, 18] rfl (fun z => [(142, .bool z)]) (fun z u => (z = false ∧ At u d F ((D.ran 6).crash (keep.take 200)) ∧ At u c1 F1 ((D.ran 6).crash (List.replicate (waits (D.ran 6)).length true)) ∧ At u c2 F2 ((D.ran 6).crash []) ∧ SI w u F S (sinceL D)) ∧ Blk u b7 67 (rowN (cellN S (sinceL D))) ∧ Blk u b15 31 (rowsA .u8 (D).all) ∧ Ext No w u) ?_ ?_
          · refine c_region ?_
            refine wl_p I_ok rfl (wl_case 121 rfl (fun hg => ?_) (fun hg => ?_))
            · cases hg
            · refine wl_pk I_ok 2 rfl ?_
              refine wl (st_call Try.call22 rfl rfl rfl rfl rfl rfl (crash_calls w32 hA1 hok6 (by omega) (keep := List.replicate (waits (D.ran 6)).length true) (by simp) ⟨by simp, .inr ⟨b109, 0, rfl, hb109.seg⟩⟩ (fun b off hb => by simp at hb; rw [← hb.1]; exact hG109)) fun v34 w34 hr34 => ?_)
              obtain ⟨rfl, hA1, hE34⟩ := hr34
              have hb7 := hb7.ext hE34 hG7
              have hb15 := hb15.ext hE34 hG15
              have hb109 := hb109.ext hE34 hG109
              have hX := hX.trans hE34 fun y hy hF => by have := hn1 y hF; omega
              have hA := hA.ext hE34 hd1
              have hA2 := hA2.ext hE34 fun y h1 h2 => hd3 y h2 h1
              have hsi := hsi.ext hE34 hs1
              refine wl_pk I_ok 3 rfl (wl_caseD 127 rfl (fun hg => ?_) (fun hg => ?_))
              · exact absurd rfl hg
              · refine wl_pk I_ok 1 rfl ?_
                refine wl (st_call Try.call22 rfl rfl rfl rfl rfl rfl (crash_calls w34 hA2 hok6 (by omega) (keep := []) rfl (Sl.nil _ _ _) (fun b off hb => by cases hb)) fun v35 w35 hr35 => ?_)
                obtain ⟨rfl, hA2, hE35⟩ := hr35
                have hb7 := hb7.ext hE35 hH7
                have hb15 := hb15.ext hE35 hH15
                have hX := hX.trans hE35 fun y hy hF => by have := hn2 y hF; omega
                have hA := hA.ext hE35 hd2
                have hA1 := hA1.ext hE35 hd3
                have hsi := hsi.ext hE35 hs2
                have hZ := Ext.refl No w35
                refine wl_pk I_ok 3 rfl (wl_caseD 132 rfl (fun hg => ?_) (fun hg => ?_))
                · exact absurd rfl hg
                · refine wl_pk I_ok 5 rfl ?_
                  have hlen200 : (keep.take 200).length = min keep.length 200 := by simp [Nat.min_comm]
                  have hs200 := hks.slice 0 (keep.take 200).length kc (Nat.zero_le _) (by omega) (by omega)
                  have e200 : ((boolsL keep).drop (0 * 1)).take (((keep.take 200).length - 0) * 1) = boolsL (keep.take 200) := by
                    simp only [boolsL, Nat.zero_mul, List.drop_zero, Nat.mul_one, Nat.sub_zero, ← List.map_take]
                    congr 1
                    rw [List.take_eq_take_iff]
                    omega
                  rw [e200, slBase_zero, Nat.sub_zero] at hs200
                  refine wl (st_sl I_ok rfl 0 (keep.take 200).length kc 1 rfl (.inr ⟨rfl, rfl⟩) (.inl (congrArg some (by rw [hlen200]; split <;> omega))) (.inr ⟨rfl, rfl⟩) (Nat.zero_le _) (by omega) (Nat.le_refl _) ?_)
                  dsimp only
                  rw [slBase_zero, Nat.sub_zero]
                  have hA := hA.ext hZ fun _ _ => id
                  have hFl := hA.lt
                  refine wl (st_call Try.call34 rfl rfl rfl rfl rfl rfl (clone_calls w35 (hs200.extNo hX) (by omega)) fun v36 w36 hr36 => ?_)
                  obtain ⟨cq, cqc, rfl, hcq, hcqn, hE36⟩ := hr36
                  have hb7 := hb7.extNo hE36
                  have hb15 := hb15.extNo hE36
                  have hZ := hZ.thenNo hE36
                  have hX := hX.thenNo hE36
                  have hA := hA.extNo hE36
                  have hA1 := hA1.ext hZ fun _ _ => id
                  have hA2 := hA2.ext hZ fun _ _ => id
                  have hsi := hsi.extNo hZ
                  refine wl (st_call Try.call22 rfl rfl rfl rfl rfl rfl (crash_calls w36 hA hok6 (by omega) rfl hcq (fun b off hb e => by have := hcqn b off hb; have := hFl b e; omega)) fun v37 w37 hr37 => ?_)
                  obtain ⟨rfl, hA, hE37⟩ := hr37
                  have hb7 := hb7.ext hE37 hF7
                  have hb15 := hb15.ext hE37 hF15
                  have hX := hX.trans hE37 fun y hy hF => by have := hnew y hF; omega
                  have hA1 := hA1.ext hE37 fun y h1 h2 => hd1 y h2 h1
                  have hA2 := hA2.ext hE37 fun y h1 h2 => hd2 y h2 h1
                  have hsi := hsi.ext hE37 hnotF
                  refine wl_pk I_ok 2 rfl (wl_nil ?_)
                  exact f_cut (_) rfl ⟨⟨by simp, hA, hA1, hA2, hsi⟩, hb7, hb15, hX⟩
          rintro z w38 ⟨⟨rfl, hA, hA1, hA2, hsi⟩, hb7, hb15, hX⟩
          have hZ := Ext.refl No w38
          refine c_condF rfl ?_
          have hq : ∀ kk, ((D.ran 6).crash kk).Quiet := fun kk => ⟨rfl, rfl, by simp only [Dsk.crash, settle_len]; exact hsz6⟩
          have hoc : ∀ kk, ((D.ran 6).crash kk).Ok (2 * i + 6) := fun kk => hok6.crash kk
          have hlc : ∀ kk, all_len (hoc kk) = all_len (hoc kk) := fun _ => rfl
          have hal1 := all_len (hoc (List.replicate (waits (D.ran 6)).length true))
          have hal2 := all_len (hoc [])
          have hal3 := all_len (hoc (keep.take 200))
          have hfull : ((D.ran 6).crash (List.replicate (waits (D.ran 6)).length true)).all = D.all := List.map_congr_left fun j _ => crash_all _ (by rw [← hwl]; exact Nat.le_refl _) j
          refine c_skip (f_then (c_seq (c_region (wl_p I_ok rfl (wl (st_call Try.call17 rfl rfl rfl rfl rfl rfl (holds_calls w38 hA1 (hoc _) (by omega) (hq _)) fun v39 w39 hr39 => ?_))))))
          obtain ⟨rfl, hA1, hE39⟩ := hr39
          have hb7 := hb7.ext hE39 hG7
          have hb15 := hb15.ext hE39 hG15
          have hX := hX.trans hE39 fun y hy hF => by have := hn1 y hF; omega
          have hA := hA.ext hE39 hd1
          have hA2 := hA2.ext hE39 fun y h1 h2 => hd3 y h2 h1
          have hsi := hsi.ext hE39 hs1
          have hZ := Ext.refl No w39
          refine wl_p I_ok rfl (wl (st_al I_ok rfl fun b21 w40 hn21 hb21 hE40 => ?_))
          have ne7_21 : b7 ≠ b21 := Nat.ne_of_lt (Nat.lt_of_lt_of_le hb7.lt hn21)
          have ne15_21 : b15 ≠ b21 := Nat.ne_of_lt (Nat.lt_of_lt_of_le hb15.lt hn21)
          have fr21 := Nat.le_trans hX.size hn21
          have frhZ21 := Nat.le_trans hZ.size hn21
          have hb7 := hb7.extNo hE40
          have hb15 := hb15.extNo hE40
          have hZ := hZ.thenNo hE40
          have hX := hX.thenNo hE40
          have hH21 : ¬ F2 b21 := fun e => by have := hA2.lt b21 e; omega
          have hF21 : ¬ F b21 := fun e => by have := hA.lt b21 e; omega
          refine wl (st_stW (l' := rowsA .u8 ((D.ran 6).crash (List.replicate (waits (D.ran 6)).length true)).all) I_ok hb21 rfl (by rw [cellsOf_agg]) hal1.2.2 (by rw [hal1.2.2]; exact (List.length_replicate (n := 384)).symm) (by rw [rowsA_flat]; exact one_ints) fun w41 hb21 hE41 hs41 => ?_)
          have hb7 := hb7.ext1 hE41 ne7_21
          have hb15 := hb15.ext1 hE41 ne15_21
          have hZ := hZ.thenNew hE41 frhZ21
          have hX := hX.thenNew hE41 fr21
          refine wl_p I_ok rfl (wl_nil (f_then (c_seq (c_region (wl_p I_ok rfl ?_)))))
          have hA2 := hA2.ext hZ fun _ _ => id
          refine wl (st_call Try.call17 rfl rfl rfl rfl rfl rfl (holds_calls w41 hA2 (hoc _) (by omega) (hq _)) fun v42 w42 hr42 => ?_)
          obtain ⟨rfl, hA2, hE42⟩ := hr42
          have hb7 := hb7.ext hE42 hH7
          have hb15 := hb15.ext hE42 hH15
          have hb21 := hb21.ext hE42 hH21
          have hX := hX.trans hE42 fun y hy hF => by have := hn2 y hF; omega
          have hA := (hA.ext hZ fun _ _ => id).ext hE42 hd2
          have hA1 := (hA1.ext hZ fun _ _ => id).ext hE42 hd3
          have hsi := (hsi.extNo hZ).ext hE42 hs2
          have hZ := Ext.refl No w42
          refine wl_p I_ok rfl (wl (st_al I_ok rfl fun b23 w43 hn23 hb23 hE43 => ?_))
          have ne7_23 : b7 ≠ b23 := Nat.ne_of_lt (Nat.lt_of_lt_of_le hb7.lt hn23)
          have ne15_23 : b15 ≠ b23 := Nat.ne_of_lt (Nat.lt_of_lt_of_le hb15.lt hn23)
          have ne21_23 : b21 ≠ b23 := Nat.ne_of_lt (Nat.lt_of_lt_of_le hb21.lt hn23)
          have fr23 := Nat.le_trans hX.size hn23
          have frhZ23 := Nat.le_trans hZ.size hn23
          have hb7 := hb7.extNo hE43
          have hb15 := hb15.extNo hE43
          have hb21 := hb21.extNo hE43
          have hZ := hZ.thenNo hE43
          have hX := hX.thenNo hE43
          have hF23 : ¬ F b23 := fun e => by have := hA.lt b23 e; omega
          refine wl (st_stW (l' := rowsA .u8 ((D.ran 6).crash []).all) I_ok hb23 rfl (by rw [cellsOf_agg]) hal2.2.2 (by rw [hal2.2.2]; exact (List.length_replicate (n := 384)).symm) (by rw [rowsA_flat]; exact one_ints) fun w44 hb23 hE44 hs44 => ?_)
          have hb7 := hb7.ext1 hE44 ne7_23
          have hb15 := hb15.ext1 hE44 ne15_23
          have hb21 := hb21.ext1 hE44 ne21_23
          have hZ := hZ.thenNew hE44 frhZ23
          have hX := hX.thenNew hE44 fr23
          refine wl_p I_ok rfl (wl_nil (f_then (c_seq (c_region (wl_p I_ok rfl ?_)))))
          have hA := hA.ext hZ fun _ _ => id
          refine wl (st_call Try.call17 rfl rfl rfl rfl rfl rfl (holds_calls w44 hA (hoc _) (by omega) (hq _)) fun v45 w45 hr45 => ?_)
          obtain ⟨rfl, hA, hE45⟩ := hr45
          have hb7 := hb7.ext hE45 hF7
          have hb15 := hb15.ext hE45 hF15
          have hb21 := hb21.ext hE45 hF21
          have hb23 := hb23.ext hE45 hF23
          have hX := hX.trans hE45 fun y hy hF => by have := hnew y hF; omega
          have hA1 := (hA1.ext hZ fun _ _ => id).ext hE45 fun y h1 h2 => hd1 y h2 h1
          have hsi := (hsi.extNo hZ).ext hE45 hnotF
          have hZ := Ext.refl No w45
          refine wl_p I_ok rfl (wl (st_al I_ok rfl fun b25 w46 hn25 hb25 hE46 => ?_))
          have ne7_25 : b7 ≠ b25 := Nat.ne_of_lt (Nat.lt_of_lt_of_le hb7.lt hn25)
          have ne15_25 : b15 ≠ b25 := Nat.ne_of_lt (Nat.lt_of_lt_of_le hb15.lt hn25)
          have ne21_25 : b21 ≠ b25 := Nat.ne_of_lt (Nat.lt_of_lt_of_le hb21.lt hn25)
          have ne23_25 : b23 ≠ b25 := Nat.ne_of_lt (Nat.lt_of_lt_of_le hb23.lt hn25)
          have fr25 := Nat.le_trans hX.size hn25
          have frhZ25 := Nat.le_trans hZ.size hn25
          have hb7 := hb7.extNo hE46
          have hb15 := hb15.extNo hE46
          have hb21 := hb21.extNo hE46
          have hb23 := hb23.extNo hE46
          have hZ := hZ.thenNo hE46
          have hX := hX.thenNo hE46
          refine wl (st_stW (l' := rowsA .u8 ((D.ran 6).crash (keep.take 200)).all) I_ok hb25 rfl (by rw [cellsOf_agg]) hal3.2.2 (by rw [hal3.2.2]; exact (List.length_replicate (n := 384)).symm) (by rw [rowsA_flat]; exact one_ints) fun w47 hb25 hE47 hs47 => ?_)
          have hb7 := hb7.ext1 hE47 ne7_25
          have hb15 := hb15.ext1 hE47 ne15_25
          have hb21 := hb21.ext1 hE47 ne21_25
          have hb23 := hb23.ext1 hE47 ne23_25
          have hZ := hZ.thenNew hE47 frhZ25
          have hX := hX.thenNew hE47 fr25
          refine wl_p I_ok rfl (wl_nil (f_then (c_seq ?_)))
          refine c_cutK (α := Bool) [7, 23, 25] rfl (fun z => [(182, .bool z)]) (fun z u => (z = false) ∧ Blk u b7 67 (rowN (cellN S (sinceL D))) ∧ Blk u b23 31 (rowsA .u8 ((D.ran 6).crash []).all) ∧ Blk u b25 31 (rowsA .u8 ((D.ran 6).crash (keep.take 200)).all) ∧ Ext No w45 u ∧ Ext No w u) ?_ ?_
          · refine c_region ?_
            refine wl_p I_ok rfl (wl_case 160 rfl (fun hg => ?_) (fun hg => ?_))
            · cases hg
            · refine wl_pk I_ok 4 rfl ?_
              refine wl_case 164 rfl (fun hg => ?_) (fun hg => ?_)
              · cases hg
              · refine wl_pk I_ok 4 rfl ?_
                refine wl_case 168 rfl (fun hg => ?_) (fun hg => ?_)
                · cases hg
                · refine wl (st_ldB I_ok hb21 rfl hal1.2.2 ?_)
                  refine wl (st_ldB I_ok hb15 rfl hal.2.2 (wl (st_eqAA I_ok (L := ((D.ran 6).crash (List.replicate (waits (D.ran 6)).length true)).all) (M := D.all) rfl (by kernel_rfl) rfl rfl hal1.2.1 hal.2.1 hal1.1 hal.1 (wl_p I_ok rfl ?_))))
                  refine wl_caseD 173 rfl (fun hg => ?_) (fun hg => ?_)
                  · exact absurd hfull hg
                  · refine wl_pk I_ok 1 rfl ?_
                    refine wl (st_call Try.call16 rfl rfl rfl rfl rfl rfl (pending_ints w47 (hA.extNo hZ) ((hoc _).ran 6) (by omega)) fun v48 w48 hr48 => ?_)
                    obtain ⟨b70, rfl, hn70, hb70, hE48⟩ := hr48
                    have hb7 := hb7.extNo hE48
                    have hb15 := hb15.extNo hE48
                    have hb21 := hb21.extNo hE48
                    have hb23 := hb23.extNo hE48
                    have hb25 := hb25.extNo hE48
                    have hZ := hZ.thenNo hE48
                    have hX := hX.thenNo hE48
                    have hw70 : (waits (((D.ran 6).crash (keep.take 200)).ran 6)).length = 0 := rfl
                    refine wl_pk I_ok 2 rfl (wl (st_call Try.call16 rfl rfl rfl rfl rfl rfl (pending_ints w48 (hA1.extNo hZ) ((hoc _).ran 6) (by omega)) fun v49 w49 hr49 => ?_))
                    obtain ⟨b71, rfl, hn71, hb71, hE49⟩ := hr49
                    have hb7 := hb7.extNo hE49
                    have hb15 := hb15.extNo hE49
                    have hb21 := hb21.extNo hE49
                    have hb23 := hb23.extNo hE49
                    have hb25 := hb25.extNo hE49
                    have hZ := hZ.thenNo hE49
                    have hX := hX.thenNo hE49
                    have hw71 : (waits (((D.ran 6).crash (List.replicate (waits (D.ran 6)).length true)).ran 6)).length = 0 := rfl
                    refine wl_pk I_ok 4 rfl ?_
                    rw [IntWalk.i64_in _ (by omega)]
                    refine wl_nil ?_
                    exact f_cut (_) rfl ⟨by rfl, hb7, hb23, hb25, hZ, hX⟩
          rintro z w50 ⟨rfl, hb7, hb23, hb25, hZ, hX⟩
          refine c_condF rfl (c_skip (f_then (c_seq (c_seq (c_region (wl (st_ldB I_ok hb7 rfl (rowN_len _) (wl_p I_ok rfl (wl_nil (f_then (c_block ?_)))))))))))
          refine c_loopK (α := Nat) [23, 25, 183] rfl (fun z => [(184, .int .i64 (z : Int))]) (fun z u => (z ≤ 6 ∧ Ext No w50 u) ∧ Blk u b23 31 (rowsA .u8 ((D.ran 6).crash []).all) ∧ Blk u b25 31 (rowsA .u8 ((D.ran 6).crash (keep.take 200)).all) ∧ Ext No w u) (fun z u => 6 - z) (0) rfl ⟨⟨by decide, Ext.refl _ _⟩, hb23, hb25, hX⟩ ?_
          rintro k w51 ⟨⟨hk6, hQ5⟩, hb23, hb25, hX⟩
          have hY := Ext.refl No w51
          refine c_seq (c_region (wl_p I_ok rfl (wl_nil (f_then (c_seq (c_if rfl (fun hc => ?_) (fun hc => ?_)))))))
          · have hk6' : k < 6 := by omega
            have hsik := (hsi.extNo hZ).extNo hQ5
            have hj6 : k < (D.ran 6).secs.length := by rw [hsz6]; exact hk6'
            have hbare : ((D.ran 6).crash []).now k = (sec D k).safe := (crash_now hok6 [] hj6).2 rfl
            have hmem : ((D.ran 6).crash (keep.take 200)).now k ∈ sinceL D k := (crash_now hok6 (keep.take 200) hj6).1
            have hn2k := now_length (hoc []) k
            have hn3k := now_length (hoc (keep.take 200)) k
            have hs64 := hsik.blk k hk6' _ (List.mem_cons_self : (sec D k).safe ∈ sinceL D k)
            refine c_skip (f_then (c_seq (c_block (c_seq (c_region (wl_p I_ok rfl (wl (st_id I_ok rfl k rfl hk6' (.inl ⟨rfl, rowN_get' _ hk6'⟩) (wl_p I_ok rfl (wl_nil (f_then ?_)))))))))))
            refine c_cutK (α := Bool) [23, 25, 183, 184] rfl (fun z => [(202, .bool z)]) (fun z u => (z = false) ∧ Blk u b23 31 (rowsA .u8 ((D.ran 6).crash []).all) ∧ Blk u b25 31 (rowsA .u8 ((D.ran 6).crash (keep.take 200)).all) ∧ Ext No w51 u ∧ Ext No w u) ?_ ?_
            · refine c_draw rfl 15 [(0, true), (1, true), (2, true), (3, true), (4, true), (5, true), (6, true), (7, true), (8, true), (9, true), (10, true), (11, true), (12, false), (13, true), (14, true)] [] (No) (by kernel_rfl) fun w52 hE52 hs52 => ?_
              have hd23 := hb23
              have hd25 := hb25
              have hXd := hX
              have hb23 := hb23.extNo hE52
              have hb25 := hb25.extNo hE52
              have hY := hY.thenNo hE52
              have hX := hX.thenNo hE52
              have hC : Ext (No) _ w52 := hE52.no
              refine wd_k I_ok 1 rfl (wd_ix I_ok rfl rfl 64 rfl k rfl hk6' (0 + k * 64) rfl (wd_ldN I_ok rfl rfl (fun w' hw' => all_row (hd23.extNo hw') (hoc []) hk6') (bytesL_len hn2k) ?_))
              refine wd_k I_ok 1 rfl (wd_ix I_ok rfl rfl 64 rfl 0 rfl (since_pos D k) (S.po k + 0 * 64) rfl (wd_ldN I_ok rfl rfl (fun w' hw' => since_row0 (hsik.extNo hw') hk6') (bytesL_len hs64) ?_))
              refine wd_eqA (xs := ((D.ran 6).crash []).now k) (ys := (sec D k).safe) I_ok rfl rfl (by kernel_rfl) rfl rfl hn2k hs64 (wd_k I_ok 1 rfl (wd_caseD 195 rfl (fun hg => ?_) (fun hg => ?_)))
              · exact absurd hbare hg
              · refine wd_k I_ok 2 rfl ?_
                refine wd_ix I_ok rfl rfl 64 rfl k rfl hk6' (0 + k * 64) rfl (wd_ldN I_ok rfl rfl (fun w' hw' => all_row (hd25.extNo hw') (hoc (keep.take 200)) hk6') (bytesL_len hn3k) ?_)
                refine wd_l rfl (st_call Try.call35 rfl rfl rfl rfl rfl rfl (contains_calls w52 ((hsik.extNo hY).own k hk6').sl (hsik.blk k hk6') hn3k (by have := hsik.few k hk6'; omega)) fun v53 w53 hr53 => ⟨(by obtain ⟨rfl, hE53⟩ := hr53; exact hC.thenNo hE53), ?_⟩)
                obtain ⟨rfl, hE53⟩ := hr53
                have hb23 := hb23.extNo hE53
                have hb25 := hb25.extNo hE53
                have hY := hY.thenNo hE53
                have hX := hX.thenNo hE53
                have hC := hC.thenNo hE53
                refine wd_k I_ok 2 rfl (wd_sw (wb_nil ?_))
                exact f_cut (_) rfl ⟨by simp [hmem], hb23, hb25, hY, hX⟩
            rintro z w54 ⟨rfl, hb23, hb25, hY, hX⟩
            refine c_condF rfl (c_skip (f_blockN (f_then (c_region (wl_p I_ok rfl ?_)))))
            rw [IntWalk.i64_in _ (by omega)]
            refine wl_nil ?_
            exact f_round (k + 1) rfl ⟨⟨by omega, hQ5.then hY⟩, hb23, hb25, hX⟩ (by first | omega | (dsimp only; omega))
          · refine c_exit ?_
            refine f_thenE (f_thenE (f_blockE (f_then (c_seq (c_region (wl_p I_ok rfl (wl_nil (f_then (c_ret (f_ret1 rfl rfl ?_))))))))))
            exact ⟨rfl, hX⟩
end Go.Proofs.Ytoldbdocgimpnaa
