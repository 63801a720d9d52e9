/- ObjectTrees -/
import Derived.Test.YtjghckniloikgaaDoorV5
namespace Go.Proofs.YtjghckniloikgaaDoor
open Go.Vc
/-- which text has an Id, texts put one after the other -/
def mF (ts : List Str) : List UInt8 → Option Str := ts.foldl (fun f t => setM f (idOf (blobO t)) t) (fun _ => none)
theorem mF_take {l : List Str} {i : Nat} (h : i < l.length) : mF (l.take (i + 1)) = setM (mF (l.take i)) (idOf (blobO l[i])) l[i] := by
  rw [List.take_succ_eq_append_getElem h, mF, List.foldl_append]; rfl
theorem mF_none {ts : List Str} {x : List UInt8} (h : ∀ y ∈ ts, idOf (blobO y) ≠ x) : mF ts x = none := by
  have : ∀ (ts : List Str) (f : List UInt8 → Option Str), (∀ y ∈ ts, idOf (blobO y) ≠ x) → ts.foldl (fun f t => setM f (idOf (blobO t)) t) f x = f x := by
    intro ts
    induction ts with
    | nil => intro f _; rfl
    | cons t ts ih =>
      intro f h
      rw [List.foldl_cons, ih _ fun y hy => h y (List.mem_cons_of_mem _ hy)]
      exact if_neg fun e => h t List.mem_cons_self e.symm
  exact this ts _ h
theorem mF_some {ts : List Str} {t : Str} (ht : t ∈ ts) (h : ∀ y ∈ ts, idOf (blobO y) = idOf (blobO t) → y = t) : mF ts (idOf (blobO t)) = some t := by
  have : ∀ (ts : List Str) (f : List UInt8 → Option Str), (∀ y ∈ ts, idOf (blobO y) = idOf (blobO t) → y = t) → (f (idOf (blobO t)) = some t ∨ t ∈ ts) → ts.foldl (fun f t => setM f (idOf (blobO t)) t) f (idOf (blobO t)) = some t := by
    intro ts
    induction ts with
    | nil => intro f _ h; exact h.resolve_right List.not_mem_nil
    | cons y ts ih =>
      intro f h hor
      rw [List.foldl_cons]
      refine ih _ (fun y hy => h y (List.mem_cons_of_mem _ hy)) ?_
      by_cases e : idOf (blobO t) = idOf (blobO y)
      · left
        have : y = t := h y List.mem_cons_self e.symm
        subst this
        exact if_pos rfl
      · rcases hor with h0 | h0
        · left
          exact (if_neg e).trans h0
        · rcases List.mem_cons.1 h0 with e2 | h0
          · exact absurd (congrArg (fun s => idOf (blobO s)) e2) e
          · exact .inr h0
  exact this ts _ h (.inr ht)
theorem refT_inj {l : List RowD} (h : OneText l) : ∀ x ∈ refT l, ∀ y ∈ refT l, idOf (blobO x) = idOf (blobO y) → x = y := fun x hx y hy e => by
  obtain ⟨r, hr, rfl⟩ := refT_mem.1 hx
  obtain ⟨s, hs, rfl⟩ := refT_mem.1 hy
  exact h r hr s hs e
theorem mF_new {l : List RowD} (h : OneText l) {i : Nat} (hi : i < (refT l).length) : mF ((refT l).take i) (idOf (blobO (refT l)[i])) = none :=
  mF_none fun y hy e => by
    have e2 := refT_inj h y (List.mem_of_mem_take hy) _ (List.getElem_mem hi) e
    obtain ⟨j, hj, e3⟩ := List.mem_iff_getElem.1 hy
    rw [List.length_take] at hj
    rw [List.getElem_take] at e3
    have := (List.getElem_inj (refT_nodup l) (h₀ := by omega) (h₁ := hi)).1 (e3.trans e2)
    omega
theorem mF_row {l : List RowD} (h : OneText l) {j : Nat} (hj : j < l.length) : mF (refT l) (idOf (blobO (l[j]).text)) = some (l[j]).text :=
  mF_some (refT_mem.2 ⟨_, List.getElem_mem hj, rfl⟩) fun y hy e => refT_inj h y hy _ (refT_mem.2 ⟨_, List.getElem_mem hj, rfl⟩) e
theorem partsE_zero {l : List RowD} (h : partsE l = 0) : RowsOk l ∧ ObjOk (treeOf l) ∧ ¬ Twin l := by
  by_cases h1 : RowsOk l
  · by_cases h2 : ObjOk (treeOf l)
    · by_cases h3 : Twin l
      · rw [partsE2 h1 h2 h3] at h; cases h
      · exact ⟨h1, h2, h3⟩
    · rw [partsE1 h1 h2] at h; cases h
  · rw [partsE0 h1] at h; cases h
theorem partsE_any (l : List RowD) (h : partsE l ≠ 0) : partsE l = 150 ∨ partsE l = 6 ∨ partsE l = 161 := by
  by_cases h1 : RowsOk l
  · by_cases h2 : ObjOk (treeOf l)
    · by_cases h3 : Twin l
      · exact .inr (.inr (partsE2 h1 h2 h3))
      · exact absurd (partsE3 h1 h2 h3) h
    · exact .inr (.inl (partsE1 h1 h2))
  · exact .inl (partsE0 h1)
theorem partsL_ref {l : List RowD} {lp : Option Addr} {lc : Nat} (h : partsE l = 0) : partsL l lp lc = refP l (lfP lp lc) := by
  obtain ⟨_, h2, h3⟩ := partsE_zero h
  rw [partsL1 h, partsOf, if_pos h2, blobs_ref (noTwin_iff.1 h3).1]; rfl
theorem refP_ok {l : List RowD} (h1 : RowsOk l) (h2 : ObjOk (treeOf l)) {a : ObjP} : ∀ h ∈ refP l a, ObjOk h.o ∧ h.id = idOf h.o := fun h hh => by
  rcases List.mem_append.1 hh with hh | hh
  · obtain ⟨t, ht, rfl⟩ := List.mem_map.1 hh
    obtain ⟨r, hr, rfl⟩ := refT_mem.1 ht
    exact ⟨blob_ok ((rows_at h1).2 r hr).2, rfl⟩
  · rw [List.mem_singleton.1 hh]; exact ⟨h2, rfl⟩
theorem objectTrees_calls (w : World) {p : Option Addr} {c : Nat} {l : List RowD} (hs : Sl w p l.length 2 (l.flatMap RowD.cells)) (hr : Seg w 0 0 (wordsV rootsW)) :
    CallsV Tryd.prog 8 [.agg #[.slice p l.length c]] w fun v w' => v = .bool true ∧ Ext No w w' := by
  have hTl := textsR_len l
  have hTa := textsR_at (l := l)
  refine calls_enter Tryd.func8 rfl rfl rfl rfl ?_
  have hX := Ext.refl No w
  refine c_seq (c_region (wl (st_al I_ok rfl fun b1 w1 hn1 hb1 hE1 => ?_)))
  have fr1 := Nat.le_trans hX.size hn1
  have hX := hX.thenNo hE1
  have hb1 : Blk w1 b1 58 ([.slice p l.length c]) := hb1
  refine wl_p I_ok rfl (wl_nil (f_then (c_seq (c_seq (c_region (wl (st_call Tryd.call9 rfl rfl rfl rfl rfl rfl (wakes_calls w1 (hr.extNo hX)) fun v2 w2 hr2 => ?_)))))))
  obtain ⟨rfl, hE2⟩ := hr2
  have hb1 := hb1.extNo hE2
  have hX := hX.thenNo hE2
  refine wl_p I_ok rfl (wl_nil (f_then (c_condF rfl (c_skip (f_then (c_seq (c_region (wl (st_ldB I_ok hb1 rfl rfl (wl (st_call Tryd.call25 rfl rfl rfl rfl rfl rfl (texts2_calls w2 (hs.extNo hX)) fun v3 w3 hr3 => ?_)))))))))))
  obtain ⟨q1, k1, rfl, hq1, hn1, hE3⟩ := hr3
  have hb1 := hb1.extNo hE3
  have hX := hX.thenNo hE3
  have hb1o := hb1
  refine wl (st_stW (l' := [.slice q1 (textsR l).length k1]) I_ok hb1 rfl rfl rfl rfl OneC.h fun w4 hb1 hE4 hs4 => ?_)
  have hq1 := hq1.extTy hE4 hb1o (by decide)
  have hX := hX.thenNew hE4 fr1
  refine wl_nil (f_then (c_seq (c_region (wl (st_ldB I_ok hb1 rfl rfl (wl (st_call Tryd.call26 rfl rfl rfl rfl rfl rfl (objParts_calls w4 hq1.sl (by omega) (fun r hr => by have := (hTa r hr).1; omega) (hr.extNo hX)) fun v5 w5 hr5 => ?_)))))))
  obtain ⟨pq, pk, lp, lc, rfl, hp, hpn, hlfc, hln, hE5⟩ := hr5
  have hb1 := hb1.extNo hE5
  have hq1 := hq1.ext hE5 fun _ _ => id
  have hX := hX.thenNo hE5
  refine wl_p I_ok rfl (wl_nil (f_then (c_seq (c_seq (c_region (wl_p I_ok rfl (wl_nil (f_then (c_if rfl (fun hc => ?_) (fun hc => ?_))))))))))
  · have hE0 : partsE (textsR l) ≠ 0 := hc
    have hE3 := partsE_any _ hE0
    rw [partsL0 rfl hE0]
    refine c_cutK (α := Bool) [] rfl (fun z => [(2, .bool z)]) (fun z u => (z = true) ∧ Ext No w u) ?_ ?_
    · refine c_region ?_
      refine wl_p I_ok rfl (wl_caseD 33 rfl (fun hg => ?_) (fun hg => ?_))
      · refine wl_pk I_ok 3 rfl ?_
        refine wl_caseD 36 rfl (fun hg => ?_) (fun hg => ?_)
        · refine wl_pk I_ok 9 rfl ?_
          refine wl_nil ?_
          exact f_cut (true) rfl ⟨rfl, hX⟩
        · refine wl_pk I_ok 4 rfl ?_
          refine wl_caseD 40 rfl (fun hg => ?_) (fun hg => ?_)
          · refine wl_pk I_ok 5 rfl ?_
            refine wl_nil ?_
            exact f_cut (true) rfl ⟨rfl, hX⟩
          · refine wl_pk I_ok 5 rfl ?_
            refine wl_nil ?_
            exact f_cut (_) rfl ⟨decide_eq_true ((hE3.resolve_left (by assumption)).resolve_left hg), hX⟩
      · exact absurd rfl hg
    rintro z w6 ⟨rfl, hX⟩
    refine c_ret (f_thenR (f_ret1 rfl rfl ?_))
    exact ⟨rfl, hX⟩
  · have hE0 : partsE (textsR l) = 0 := Decidable.not_not.1 hc
    obtain ⟨h1, h2, h3⟩ := partsE_zero hE0
    obtain ⟨hone, hnew⟩ := noTwin_iff.1 h3
    have eL : partsL (textsR l) lp lc = (refP (textsR l) (lfP lp lc)) := partsL_ref hE0
    have hlf := hlfc hE0
    rw [eL] at hp
    rw [eL]
    have hPl := refP_len (textsR l) (lfP lp lc)
    have hnT := refT_len (textsR l)
    have hll : (leavesOf (textsR l)).length = (textsR l).length := by rw [leavesOf, List.length_map]
    refine c_skip (f_then (c_seq (c_seq (c_region (wl_p I_ok rfl (wl_nil (f_then (c_if rfl (fun hc => ?_) (fun hc => ?_)))))))))
    · exact absurd hc (by omega)
    · refine c_skip ?_
      refine f_then (c_seq (c_region (wl (st_mm strV rfl fun r5 w7 hn5 hM hE7 hs7 => ?_))))
      have hb1 := hb1.extNo hE7
      have hp := hp.ext hE7 fun _ _ => id
      have hlf := hlf.ext hE7 fun _ _ => id
      have hq1 := hq1.ext hE7 fun _ _ => id
      have hX0 := hX
      have hX := hX.thenNo hE7
      have fr5 := Nat.le_trans hX0.size hn5
      refine wl_p I_ok rfl (wl_nil (f_then (c_seq (c_seq (c_region (wl_p I_ok rfl ?_))))))
      rw [IntWalk.i64_in _ (by omega)]
      refine wl (st_sl I_ok rfl 0 (refT (textsR l)).length pk 105 rfl (.inr ⟨rfl, rfl⟩) (.inl (congrArg some (by omega))) (.inr ⟨rfl, rfl⟩) (Nat.zero_le _) (by have := hp.cap; omega) (Nat.le_refl _) ?_)
      rw [slBase_zero, Nat.sub_zero, Nat.sub_zero]
      refine wl_p I_ok rfl (wl_nil (f_then (c_block ?_)))
      refine c_loopK (α := Nat) [1, 3, 5, 53, 54] rfl (fun z => [(55, .int .i64 (z : Int))]) (fun z u => (z ≤ (refT (textsR l)).length ∧ MapB u r5 strV (mF ((refT (textsR l)).take z)) ∧ Own u pq (refP (textsR l) (lfP lp lc)).length pk 68 105 ((refP (textsR l) (lfP lp lc)).flatMap heldC) ∧ Own u lp (leavesOf (textsR l)).length lc 76 33 ((leavesOf (textsR l)).flatMap LeafD.cells) ∧ Own u q1 (textsR l).length k1 78 2 ((textsR l).flatMap RowD.cells)) ∧ Blk u b1 58 ([.slice q1 (textsR l).length k1]) ∧ Ext No w u) (fun z u => (refT (textsR l)).length - z) (0) rfl ⟨⟨Nat.zero_le _, hM, hp, hlf, hq1⟩, hb1, hX⟩ ?_
      rintro i w8 ⟨⟨hi, hM, hp, hlf, hq1⟩, hb1, hX⟩
      refine c_seq (c_region (wl_p I_ok rfl (wl_nil (f_then (c_seq (c_if rfl (fun hc => ?_) (fun hc => ?_)))))))
      · have hi : i < (refT (textsR l)).length := by omega
        have hi2 : i < (refP (textsR l) (lfP lp lc)).length := by omega
        obtain ⟨pb, poff, hpe, hps⟩ := hp.sl.rowAll (fun h hh => (refP_in h1 hlf h hh).c) (by omega)
        rw [hpe] at hp ⊢
        have hrow := hps i hi2
        rw [refP_blob hi] at hrow
        have hnone := mF_new hone hi
        refine c_skip (f_then (c_seq (c_block (c_seq (c_region (wl (st_ix I_ok rfl 105 rfl i rfl hi (poff + i * 105) rfl (wl (st_ldN I_ok rfl hrow (heldB_in _) ?_)))))))))
        have hp0 := hp
        refine wl (st_al I_ok rfl fun b7 w9 hn7 hb7 hE9 => ?_)
        have ne1_7 : b1 ≠ b7 := Nat.ne_of_lt (Nat.lt_of_lt_of_le hb1.lt hn7)
        have fr7 := Nat.le_trans hX.size hn7
        have hb1 := hb1.extNo hE9
        have hq1 := hq1.ext hE9 fun _ _ => id
        have hp := hp.ext hE9 fun _ _ => id
        have hlf := hlf.ext hE9 fun _ _ => id
        have hM := hM.extNo hE9
        have hX := hX.thenNo hE9
        have ne7 : ∀ x, OwnB _ x → x ≠ b7 := fun x hx => Nat.ne_of_lt (Nat.lt_of_lt_of_le (hp0.lt hx) hn7)
        have hb7o := hb7
        refine wl (st_stW (l' := heldC (heldB ((refT (textsR l))[i]))) I_ok hb7 rfl rfl (heldB_in _) (by rw [heldB_in]; rfl) OneC.h fun w10 hb7 hE10 hs10 => ?_)
        have hb1 := hb1.ext1 hE10 ne1_7
        have hq1 := hq1.extTy hE10 hb7o (by decide)
        have hp := hp.ext hE10 (fun x hx => ne7 x hx)
        have hlf := hlf.extTy hE10 hb7o (by decide)
        have hM := hM.ext1 hE10 hb7o
        have hX := hX.thenNew hE10 fr7
        refine wl_nil (f_then (c_seq (c_seq (c_region (wl_p I_ok rfl (wl (st_ldN I_ok rfl (held_id hb7.seg) (by rw [bytesU_len]; exact idOf_len _) (wl (st_lu I_ok rfl idK (idOf_len _) rfl hM ?_)))))))))
        simp only [if_true]
        rw [show (heldB ((refT (textsR l))[i])).id = idOf (blobO ((refT (textsR l))[i])) from rfl, hnone]
        refine wl_p I_ok rfl (wl_nil (f_then (c_cutK (α := Bool) [1, 3, 5, 7, 53, 54, 55] rfl (fun z => [(72, .bool z)]) (fun z u => u = w10 ∧ z = false) ?_ ?_)))
        · refine c_region ?_
          refine wl_p I_ok rfl (wl_case 67 rfl (fun hg => ?_) (fun hg => ?_))
          · cases hg
          · refine wl_pk I_ok 2 rfl ?_
            refine wl (st_ld I_ok rfl (held_kind hb7.seg (idOf_len _)) (wl_pk I_ok 2 rfl (wl_nil ?_)))
            exact f_cut (_) rfl ⟨rfl, rfl⟩
        rintro z w11 ⟨hu, rfl⟩
        have hu := hu.symm
        subst hu
        refine c_condF rfl (c_skip (f_then (c_region (wl_p I_ok rfl (wl (st_ldN I_ok rfl (held_id hb7.seg) (by rw [bytesU_len]; exact idOf_len _) (wl_p I_ok rfl (wl (st_ld I_ok rfl ((held_obj hb7.seg (idOf_len _)).obj (blobO_in _)).text ?_)))))))))
        refine wl (st_mu I_ok rfl idK (idOf_len _) rfl hM (b := ((refT (textsR l))[i])) rfl fun w12 hM2 hE12 hs12 => ?_)
        have hp := hp.extMap hM hE12
        have hlf := hlf.extMap hM hE12
        have hq1 := hq1.extMap hM hE12
        have hb1 := hb1.extMap hM hE12
        have hX := hX.thenNew hE12 fr5
        refine wl_nil (f_blockN (f_then (c_region (wl_p I_ok rfl ?_))))
        rw [IntWalk.i64_in _ (by omega)]
        refine wl_nil ?_
        exact f_round (i + 1) rfl ⟨⟨hi, by rw [mF_take hi]; exact hM2, hp, hlf, hq1⟩, hb1, hX⟩ (by first | omega | (dsimp only; omega))
      · have hia : (refT (textsR l)).take i = (refT (textsR l)) := List.take_of_length_le (by omega)
        rw [hia] at hM
        refine c_exit (f_thenE (f_thenE (f_blockE (f_then (c_seq (c_seq (c_region (wl_p I_ok rfl (wl_nil (f_then (c_block ?_)))))))))))
        refine c_loopK (α := Nat) [1, 3, 5, 80, 81] rfl (fun z => [(82, .int .i64 (z : Int))]) (fun z u => (z ≤ (refP (textsR l) (lfP lp lc)).length ∧ MapB u r5 strV (mF (refT (textsR l))) ∧ Own u pq (refP (textsR l) (lfP lp lc)).length pk 68 105 ((refP (textsR l) (lfP lp lc)).flatMap heldC) ∧ Own u lp (leavesOf (textsR l)).length lc 76 33 ((leavesOf (textsR l)).flatMap LeafD.cells) ∧ Own u q1 (textsR l).length k1 78 2 ((textsR l).flatMap RowD.cells)) ∧ Blk u b1 58 ([.slice q1 (textsR l).length k1]) ∧ Ext No w u) (fun z u => (refP (textsR l) (lfP lp lc)).length - z) (0) rfl ⟨⟨Nat.zero_le _, hM, hp, hlf, hq1⟩, hb1, hX⟩ ?_
        rintro k w13 ⟨⟨hk, hM, hp, hlf, hq1⟩, hb1, hX⟩
        refine c_seq (c_region (wl_p I_ok rfl (wl_nil (f_then (c_seq (c_if rfl (fun hc => ?_) (fun hc => ?_)))))))
        · have hk : k < (refP (textsR l) (lfP lp lc)).length := by omega
          obtain ⟨pb, poff, hpe, hps⟩ := hp.sl.rowAll (fun h hh => (refP_in h1 hlf h hh).c) (by omega)
          rw [hpe] at hp ⊢
          have hrow := hps k hk
          have hh := refP_in h1 hlf _ (List.getElem_mem hk)
          obtain ⟨hok, hid⟩ := refP_ok h1 h2 _ (List.getElem_mem hk)
          refine c_skip (f_then (c_seq (c_block (c_seq (c_region (wl (st_ix I_ok rfl 105 rfl k rfl hk (poff + k * 105) rfl (wl (st_ldN I_ok rfl hrow hh.c ?_)))))))))
          have hp0 := hp
          refine wl (st_al I_ok rfl fun b11 w14 hn11 hb11 hE14 => ?_)
          have ne1_11 : b1 ≠ b11 := Nat.ne_of_lt (Nat.lt_of_lt_of_le hb1.lt hn11)
          have fr11 := Nat.le_trans hX.size hn11
          have hb1 := hb1.extNo hE14
          have hq1 := hq1.ext hE14 fun _ _ => id
          have hp := hp.ext hE14 fun _ _ => id
          have hlf := hlf.ext hE14 fun _ _ => id
          have hM := hM.extNo hE14
          have hX := hX.thenNo hE14
          have ne11 : ∀ x, OwnB _ x → x ≠ b11 := fun x hx => Nat.ne_of_lt (Nat.lt_of_lt_of_le (hp0.lt hx) hn11)
          have hb11o := hb11
          refine wl (st_stW (l' := heldC (refP (textsR l) (lfP lp lc))[k]) I_ok hb11 rfl rfl hh.c (by rw [hh.c]; rfl) OneC.h fun w15 hb11 hE15 hs15 => ?_)
          have hb1 := hb1.ext1 hE15 ne1_11
          have hq1 := hq1.extTy hE15 hb11o (by decide)
          have hp := hp.ext hE15 (fun x hx => ne11 x hx)
          have hlf := hlf.extTy hE15 hb11o (by decide)
          have hM := hM.ext1 hE15 hb11o
          have hX := hX.thenNew hE15 fr11
          refine wl_nil (f_then (c_seq (c_region (wl_p I_ok rfl (wl (st_ldN I_ok rfl (held_obj hb11.seg hh.id) (objC_len hh.o) ?_))))))
          refine wl (st_call Tryd.call12 rfl rfl rfl rfl rfl rfl (idObj_calls w15 hh.o (refP_in h1 hlf _ (List.getElem_mem hk)).l hh.sh (hr.extNo hX)) fun v16 w16 hr16 => ?_)
          obtain ⟨rfl, hE16⟩ := hr16
          have hb1 := hb1.extNo hE16
          have hb11 := hb11.extNo hE16
          have hq1 := hq1.ext hE16 fun _ _ => id
          have hp := hp.ext hE16 fun _ _ => id
          have hlf := hlf.ext hE16 fun _ _ => id
          have hM := hM.extNo hE16
          have hX := hX.thenNo hE16
          rw [show idB (refP (textsR l) (lfP lp lc))[k].o = (refP (textsR l) (lfP lp lc))[k].id from (if_pos hok).trans hid.symm, show objE (refP (textsR l) (lfP lp lc))[k].o = 0 from if_pos hok]
          refine wl_p I_ok rfl (wl (st_al I_ok rfl fun b12 w17 hn12 hb12 hE17 => ?_))
          have ne1_12 : b1 ≠ b12 := Nat.ne_of_lt (Nat.lt_of_lt_of_le hb1.lt hn12)
          have ne11_12 : b11 ≠ b12 := Nat.ne_of_lt (Nat.lt_of_lt_of_le hb11.lt hn12)
          have fr12 := Nat.le_trans hX.size hn12
          have hb1 := hb1.extNo hE17
          have hb11 := hb11.extNo hE17
          have hq1 := hq1.ext hE17 fun _ _ => id
          have hp := hp.ext hE17 fun _ _ => id
          have hlf := hlf.ext hE17 fun _ _ => id
          have hM := hM.extNo hE17
          have hX := hX.thenNo hE17
          have hb12o := hb12
          refine wl (st_stW (l' := bytesU (refP (textsR l) (lfP lp lc))[k].id) I_ok hb12 rfl rfl (by rw [bytesU_len, hh.id]) (by rw [bytesU_len, hh.id]; rfl) OneC.h fun w18 hb12 hE18 hs18 => ?_)
          have hb1 := hb1.ext1 hE18 ne1_12
          have hb11 := hb11.ext1 hE18 ne11_12
          have hq1 := hq1.extTy hE18 hb12o (by decide)
          have hp := hp.extTy hE18 hb12o (by decide)
          have hlf := hlf.extTy hE18 hb12o (by decide)
          have hM := hM.ext1 hE18 hb12o
          have hX := hX.thenNew hE18 fr12
          refine wl_p I_ok rfl (wl_nil (f_then (c_cutK (α := Bool) [1, 3, 5, 80, 81, 82] rfl (fun z => [(99, .bool z)]) (fun z u => u = w18 ∧ z = false) ?_ ?_)))
          · refine c_region ?_
            refine wl_p I_ok rfl (wl_caseD 94 rfl (fun hg => ?_) (fun hg => ?_))
            · first | exact absurd rfl hg | exact absurd trivial hg
            · refine wl (st_ldB I_ok hb12 rfl (by rw [bytesU_len, hh.id]) ?_)
              refine wl_pk I_ok 1 rfl (wl (st_ldN I_ok rfl (held_id hb11.seg) (by rw [bytesU_len, hh.id]) (wl (st_eqK rfl gId 10 (by decide) kId (idForm hh.id) (idForm hh.id) (idKey hh.id) (idKey hh.id) idLits_inj ?_))))
              simp only [Bool.false_eq_true, if_false]
              refine wl_p I_ok rfl (wl_nil ?_)
              exact f_cut (_) rfl ⟨rfl, by simp⟩
          rintro z w19 ⟨hu, rfl⟩
          have hu := hu.symm
          subst hu
          refine c_condF rfl (c_skip (f_blockN (f_then (c_region (wl_p I_ok rfl ?_)))))
          rw [IntWalk.i64_in _ (by omega)]
          refine wl_nil ?_
          exact f_round (k + 1) rfl ⟨⟨hk, hM, hp, hlf, hq1⟩, hb1, hX⟩ (by first | omega | (dsimp only; omega))
        · obtain ⟨pb, poff, hpe, hps⟩ := hp.sl.rowAll (fun h hh => (refP_in h1 hlf h hh).c) (by omega)
          rw [hpe] at hp ⊢
          have hrow := hps (refT (textsR l)).length (by omega)
          rw [refP_tree (by omega) (Nat.lt_irrefl _)] at hrow
          have hTi : ObjIn (treeOf (textsR l)) := treeO_in (leavesOf_in fun r hr => by have := ((rows_at h1).2 r hr).1; have := maxLen_big; omega)
          refine c_exit (f_thenE (f_thenE (f_blockE (f_then (c_seq (c_region (wl_p I_ok rfl ?_)))))))
          rw [IntWalk.i64_in _ (by omega)]
          refine wl (st_ix I_ok rfl 105 rfl (refT (textsR l)).length (by omega) (by omega) (poff + (refT (textsR l)).length * 105) rfl (wl_p I_ok rfl (wl (st_ldN I_ok rfl (held_obj hrow (idOf_len _)) (objC_len hTi) ?_))))
          refine wl (st_al I_ok rfl fun b14 w20 hn14 hb14 hE20 => ?_)
          have ne1_14 : b1 ≠ b14 := Nat.ne_of_lt (Nat.lt_of_lt_of_le hb1.lt hn14)
          have fr14 := Nat.le_trans hX.size hn14
          have hb1 := hb1.extNo hE20
          have hq1 := hq1.ext hE20 fun _ _ => id
          have hp := hp.ext hE20 fun _ _ => id
          have hlf := hlf.ext hE20 fun _ _ => id
          have hM := hM.extNo hE20
          have hX := hX.thenNo hE20
          have hb14o := hb14
          refine wl (st_stW (l' := objC (treeOf (textsR l)) (lfP lp lc)) I_ok hb14 rfl rfl (objC_len hTi) (by rw [objC_len hTi]; rfl) OneC.h fun w21 hb14 hE21 hs21 => ?_)
          have hb1 := hb1.ext1 hE21 ne1_14
          have hq1 := hq1.extTy hE21 hb14o (by decide)
          have hp := hp.extTy hE21 hb14o (by decide)
          have hlf := hlf.extTy hE21 hb14o (by decide)
          have hM := hM.ext1 hE21 hb14o
          have hX := hX.thenNew hE21 fr14
          refine wl_nil (f_then (c_seq (c_cutK (α := Bool) [1, 3, 5, 14] rfl (fun z => [(119, .bool z)]) (fun z u => u = w21 ∧ z = false) ?_ ?_)))
          · refine c_region ?_
            refine wl_p I_ok rfl (wl (st_ldb I_ok hb14 rfl rfl (wl_p I_ok rfl (wl_caseD 111 rfl (fun hg => ?_) (fun hg => ?_)))))
            · first | exact absurd rfl hg | exact absurd trivial hg
            · refine wl_pk I_ok 1 rfl ?_
              refine wl (st_ldb I_ok hb14 rfl rfl (wl_pk I_ok 2 rfl (wl (st_ldb I_ok hb1 rfl rfl (wl_pk I_ok 3 rfl (wl_nil ?_))))))
              exact f_cut (_) rfl ⟨rfl, by rw [decide_eq_false_iff_not]; exact fun h => h (congrArg _ hll)⟩
          rintro z w22 ⟨hu, rfl⟩
          have hu := hu.symm
          subst hu
          refine c_condF rfl (c_skip (f_then (c_seq (c_seq (c_region (wl_p I_ok rfl (wl (st_ldb I_ok hb14 rfl rfl (wl_p I_ok rfl (wl_nil (f_then (c_block ?_))))))))))))
          refine c_loopK (α := Nat) [1, 3, 5, 121, 122] rfl (fun z => [(123, .int .i64 (z : Int))]) (fun z u => (z ≤ (leavesOf (textsR l)).length ∧ MapB u r5 strV (mF (refT (textsR l))) ∧ Own u lp (leavesOf (textsR l)).length lc 76 33 ((leavesOf (textsR l)).flatMap LeafD.cells) ∧ Own u q1 (textsR l).length k1 78 2 ((textsR l).flatMap RowD.cells)) ∧ Blk u b1 58 ([.slice q1 (textsR l).length k1]) ∧ Ext No w u) (fun z u => (leavesOf (textsR l)).length - z) (0) rfl ⟨⟨Nat.zero_le _, hM, hlf, hq1⟩, hb1, hX⟩ ?_
          rintro j w23 ⟨⟨hj, hM, hlf, hq1⟩, hb1, hX⟩
          refine c_seq (c_region (wl_p I_ok rfl (wl_nil (f_then (c_seq (c_if rfl (fun hc => ?_) (fun hc => ?_)))))))
          · have hj : j < (leavesOf (textsR l)).length := by have h : j < (treeOf (textsR l)).leaves.length := (by omega); exact h
            have hjT : j < (textsR l).length := by omega
            have hsome := mF_row hone hjT
            have hlin := leavesOf_in (l := (textsR l)) fun r hr => by have := ((rows_at h1).2 r hr).1; have := maxLen_big; omega
            obtain ⟨lb, loff, hle, hls⟩ := hlf.sl.rowAll (fun r hr => LeafD.len (hlin r hr).2) (by omega)
            obtain ⟨rb, roff, hre, hrs⟩ := hq1.sl.rowAll (fun r _ => r.len) (by omega)
            rw [hle] at hlf ⊢
            rw [hre] at hq1 hb1 ⊢
            have hlrow : Seg w23 lb (loff + j * 33) (leafOf (textsR l)[j]).cells := by
              have h := hls j hj
              rwa [show (leavesOf (textsR l))[j] = leafOf (textsR l)[j] from List.getElem_map ..] at h
            have hrrow := hrs j hjT
            refine c_skip (f_then (c_seq (c_block (c_seq (c_region (wl_p I_ok rfl (wl (st_ix I_ok rfl 33 rfl j rfl hj (loff + j * 33) rfl (wl (st_ldN I_ok rfl hlrow (LeafD.len (idOf_len _)) ?_))))))))))
            have hlf0 := hlf
            refine wl (st_al I_ok rfl fun b16 w24 hn16 hb16 hE24 => ?_)
            have ne1_16 : b1 ≠ b16 := Nat.ne_of_lt (Nat.lt_of_lt_of_le hb1.lt hn16)
            have fr16 := Nat.le_trans hX.size hn16
            have hb1 := hb1.extNo hE24
            have hq1 := hq1.ext hE24 fun _ _ => id
            have hlf := hlf.ext hE24 fun _ _ => id
            have hM := hM.extNo hE24
            have hX := hX.thenNo hE24
            have ne16 : ∀ x, OwnB _ x → x ≠ b16 := fun x hx => Nat.ne_of_lt (Nat.lt_of_lt_of_le (hlf0.lt hx) hn16)
            refine wl_p I_ok rfl ?_
            have hb16o := hb16
            have hX1 := hX
            refine wl (st_stW (l' := (leafOf (textsR l)[j]).cells) I_ok hb16 rfl rfl (LeafD.len (idOf_len _)) (by rw [LeafD.len (idOf_len _)]; rfl) OneC.h fun w25 hb16 hE25 hs25 => ?_)
            have hb1 := hb1.ext1 hE25 ne1_16
            have hq1 := hq1.extTy hE25 hb16o (by decide)
            have hlf := hlf.ext hE25 (fun x hx => ne16 x hx)
            have hM := hM.ext1 hE25 hb16o
            have hX := hX.thenNew hE25 fr16
            have hrr2 : Seg w25 rb (roff + j * 2) (RowD.cells (textsR l)[j]) := (hq1.sl.rowAll (fun r _ => r.len) (by omega)).elim fun b h => h.elim fun off h => by have e := h.1; cases e; exact h.2 j hjT
            refine wl_nil (f_then (c_seq (c_region (wl_p I_ok rfl (wl (st_ldN I_ok rfl (by have := hb16.seg.drop 1; exact this) (by rw [bytesU_len]; exact idOf_len _) (wl (st_lu I_ok rfl idK (idOf_len _) rfl hM ?_))))))))
            simp only [if_true]
            rw [hsome]
            refine wl_p I_ok rfl (wl_nil (f_then ?_))
            refine c_cutK (α := Bool) [1, 3, 5, 121, 122, 123] rfl (fun z => [(166, .bool z)]) (fun z u => (z = false ∧ MapB u r5 strV (mF (refT (textsR l))) ∧ Own u (some ⟨lb, loff, none⟩) (leavesOf (textsR l)).length lc 76 33 ((leavesOf (textsR l)).flatMap LeafD.cells) ∧ Own u (some ⟨rb, roff, none⟩) (textsR l).length k1 78 2 ((textsR l).flatMap RowD.cells)) ∧ Blk u b1 58 ([.slice (some ⟨rb, roff, none⟩) (textsR l).length k1]) ∧ Ext No w u) ?_ ?_
            · refine c_draw rfl 32 [(0, true), (1, true), (2, true), (3, true), (4, true), (5, true), (6, true), (7, true), (8, true), (9, true), (10, true), (11, true), (12, true), (13, true), (14, true), (15, true), (16, true), (17, true), (18, true), (19, true), (20, true), (21, true), (22, true), (23, true), (24, true), (25, true), (26, true), (27, true), (28, true), (29, true), (30, true), (31, true)] [] (No) (by kernel_rfl) fun w26 hE26 hs26 => ?_
              have hd1 := hb1
              have hd16 := hb16
              have hq1d := hq1
              have hpd := hp
              have hlfd := hlf
              have hMd := hM
              have hXd := hX
              have hb1 := hb1.extNo hE26
              have hb16 := hb16.extNo hE26
              have hq1 := hq1.ext hE26 fun _ _ => id
              have hlf := hlf.ext hE26 fun _ _ => id
              have hM := hM.extNo hE26
              have hX := hX.thenNo hE26
              have hC : Ext (No) _ w26 := hE26.no
              refine wd_k I_ok 3 rfl (wd_case 137 rfl (fun hg => ?_) (fun hg => ?_))
              · cases hg
              · refine wd_k I_ok 1 rfl ?_
                refine wd_ld I_ok rfl rfl (fun w' hw' => (hd16.extNo hw').cell rfl) ?_
                refine wd_k I_ok 1 rfl (wd_ld I_ok rfl rfl (fun w' hw' => (hd1.extNo hw').cell rfl) ?_)
                refine wd_k I_ok 1 rfl (wd_ix I_ok rfl rfl 2 rfl j rfl hjT (roff + j * 2) rfl (wd_k I_ok 1 rfl (wd_ld I_ok rfl rfl (fun w' hw' => ((hrr2.extNo hw') 0 _ rfl)) ?_)))
                refine wd_k I_ok 3 rfl (wd_caseD 148 rfl (fun hg => ?_) (fun hg => ?_))
                · first | exact absurd rfl hg | exact absurd trivial hg
                · refine wd_k I_ok 2 rfl ?_
                  refine wd_ld I_ok rfl rfl (fun w' hw' => (hd1.extNo hw').cell rfl) ?_
                  refine wd_k I_ok 1 rfl (wd_ix I_ok rfl rfl 2 rfl j rfl hjT (roff + j * 2) rfl (wd_k I_ok 1 rfl (wd_ld I_ok rfl rfl (fun w' hw' => ((hrr2.extNo hw') 1 _ rfl)) ?_)))
                  refine wd_k I_ok 2 rfl (wd_caseD 157 rfl (fun hg => ?_) (fun hg => ?_))
                  · first | exact absurd rfl hg | exact absurd trivial hg
                  · refine wd_k I_ok 9 rfl ?_
                    refine wd_sw (wb_nil ?_)
                    exact f_cut (_) rfl ⟨⟨rfl, hM, hlf, hq1⟩, hb1, hX⟩
            rintro z w27 ⟨⟨rfl, hM, hlf, hq1⟩, hb1, hX⟩
            refine c_condF rfl (c_skip (f_blockN (f_then (c_region (wl_p I_ok rfl ?_)))))
            rw [IntWalk.i64_in _ (by omega)]
            refine wl_nil ?_
            exact f_round (j + 1) rfl ⟨⟨hj, hM, hlf, hq1⟩, hb1, hX⟩ (by first | omega | (dsimp only; omega))
          · refine c_exit ?_
            refine f_thenE (f_thenE (f_blockE (f_then (c_seq (c_region (wl_p I_ok rfl (wl_nil (f_then (c_ret (f_ret1 rfl rfl ?_))))))))))
            exact ⟨rfl, hX⟩
end Go.Proofs.YtjghckniloikgaaDoor
