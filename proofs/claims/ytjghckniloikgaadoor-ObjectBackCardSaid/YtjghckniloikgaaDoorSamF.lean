/-
  ObjectSame: which objects are the same, for every two objects; the condition: the table of the digest reads as the card lists it (tied to the text of the program).
-/
import Derived.ChangeSame
import Derived.ReadAgain
import Derived.RowKit
import Derived.ChangeBears
import Derived.OpenShut
import Derived.Test.YtjghckniloikgaaDoorRows
import Derived.ProofKit
import Derived.LaidMore
import Derived.Lib.LaidTab
import Derived.Test.YtjghckniloikgaaDoorTie
import Derived.Test.YtjghckniloikgaaDoorCards
import Derived.SevenTiedAt
import Derived.Test.YtjghckniloikgaaDoorSamE
namespace Go.Proofs.YtjghckniloikgaaDoor
open Go.Vc
def TwinOf (x y : HeldT) : Prop := x.id = y.id ∧ x.o ≠ y.o
instance (x y : HeldT) : Decidable (TwinOf x y) := inferInstanceAs (Decidable (_ ∧ _))
/-- two unlike ones with one Id -/
def TwinsL (l : List HeldT) : Prop := ∃ (i : Nat) (hi : i < l.length) (j : Nat) (hj : j < i), TwinOf l[i] (l[j]'(by omega))
structure HeldIn (w : World) (h : HeldT) : Prop where
  id : h.id.length = 32
  o : ObjIn h.o
  sh : Short h.o
  l : ObjL w h.o h.a
theorem HeldIn.c {w : World} {h : HeldT} (k : HeldIn w h) : (heldC h).length = 105 := heldC_len k.id k.o
theorem HeldIn.extNo {w w' : World} {h : HeldT} (k : HeldIn w h) (hE : Ext No w w') : HeldIn w' h := ⟨k.id, k.o, k.sh, k.l.extNo hE⟩
theorem twins6_calls (w : World) {q : Option Addr} {k : Nat} {l : List HeldT} (hs : Sl w q l.length 105 (l.flatMap heldC)) (hin : ∀ h ∈ l, HeldIn w h) (hk : l.length ≤ k) (hl : l.length < 1000000000) :
    CallsV Tryd.prog 30 [.slice q l.length k] w fun v w' => ∃ b, v = .bool b ∧ (b = true ↔ TwinsL l) ∧ Ext No w w' := by
  refine calls_enter Tryd.func30 rfl rfl rfl rfl ?_
  have hX := Ext.refl No w
  refine c_seq (c_region (wl_p I_ok rfl (wl_nil (f_then (c_seq (c_seq (c_region (wl_p I_ok rfl (wl_nil (f_then (c_block ?_)))))))))))
  refine c_loopK (α := Nat) [0, 7, 8] rfl (fun z => [(9, .int .i64 (z : Int))]) (fun z u => (z ≤ l.length ∧ ∀ i (hi : i < l.length) j (hj : j < i), i < z → ¬ TwinOf l[i] (l[j]'(by omega))) ∧ Ext No w u) (fun z u => l.length - z) (0) rfl ⟨⟨Nat.zero_le _, fun _ _ _ _ h => absurd h (Nat.not_lt_zero _)⟩, hX⟩ ?_
  rintro i w1 ⟨⟨hi, hno⟩, hX⟩
  refine c_seq (c_region (wl_p I_ok rfl (wl_nil (f_then (c_seq (c_if rfl (fun hc => ?_) (fun hc => ?_)))))))
  · have hi : i < l.length := by omega
    obtain ⟨qb, qoff, hqe, hsq⟩ := hs.rowAll (fun r hr => (hin r hr).c) (by omega)
    rw [hqe]
    have hni := hin _ (List.getElem_mem hi)
    refine c_skip (f_then (c_seq (c_block (c_seq (c_region (wl_p I_ok rfl (wl (st_ix I_ok rfl 105 rfl i rfl hi (qoff + i * 105) rfl (wl (st_ldN I_ok rfl ((hsq i hi).extNo hX) hni.c (wl (st_al I_ok rfl fun b4 w2 hn4 hb4 hE2 => ?_))))))))))))
    have fr4 := Nat.le_trans hX.size hn4
    have hX := hX.thenNo hE2
    refine wl_p I_ok rfl ?_
    have hb4o := hb4
    refine wl (st_stW (l' := heldC l[i]) I_ok hb4 rfl rfl hni.c (by rw [hni.c]; rfl) OneC.h fun w3 hb4 hE3 hs3 => ?_)
    have hX := hX.thenNew hE3 fr4
    refine wl_nil (f_then (c_seq (c_region (wl_p I_ok rfl (wl (st_sl I_ok rfl 0 i k 105 rfl (.inr ⟨rfl, rfl⟩) (.inl rfl) (.inr ⟨rfl, rfl⟩) (Nat.zero_le _) (by omega) (Nat.le_refl _) ?_))))))
    rw [slBase_zero, Nat.sub_zero, Nat.sub_zero]
    refine wl_p I_ok rfl (wl_nil (f_then (c_block ?_)))
    refine c_loopK (α := Nat) [0, 4, 7, 8, 9, 16, 17] rfl (fun z => [(18, .int .i64 (z : Int))]) (fun z u => (z ≤ i ∧ ∀ j (hj : j < i), j < z → ¬ TwinOf l[i] (l[j]'(by omega))) ∧ Blk u b4 68 (heldC l[i]) ∧ Ext No w u) (fun z u => i - z) (0) rfl ⟨⟨Nat.zero_le _, fun _ _ h => absurd h (Nat.not_lt_zero _)⟩, hb4, hX⟩ ?_
    rintro j w4 ⟨⟨hj, hnj⟩, hb4, hX⟩
    refine c_seq (c_region (wl_p I_ok rfl (wl_nil (f_then (c_seq (c_if rfl (fun hc => ?_) (fun hc => ?_)))))))
    · have hj : j < i := by omega
      have hjl : j < l.length := by omega
      have hmj := hin _ (List.getElem_mem hjl)
      refine c_skip (f_then (c_seq (c_block (c_seq (c_region (wl (st_ix I_ok rfl 105 rfl j rfl hj (qoff + j * 105) rfl (wl (st_ldN I_ok rfl ((hsq j hjl).extNo hX) hmj.c (wl (st_al I_ok rfl fun b6 w5 hn6 hb6 hE5 => ?_)))))))))))
      have ne4_6 : b4 ≠ b6 := Nat.ne_of_lt (Nat.lt_of_lt_of_le hb4.lt hn6)
      have fr6 := Nat.le_trans hX.size hn6
      have hb4 := hb4.extNo hE5
      have hX := hX.thenNo hE5
      have hb6o := hb6
      refine wl (st_stW (l' := heldC l[j]) I_ok hb6 rfl rfl hmj.c (by rw [hmj.c]; rfl) OneC.h fun w6 hb6 hE6 hs6 => ?_)
      have hb4 := hb4.ext1 hE6 ne4_6
      have hX := hX.thenNew hE6 fr6
      refine wl_nil (f_then (c_cutK (α := Bool) [0, 4, 7, 8, 9, 16, 17, 18] rfl (fun z => [(34, .bool z)]) (fun z u => (z = decide (TwinOf l[i] l[j])) ∧ Blk u b4 68 (heldC l[i]) ∧ Blk u b6 68 (heldC l[j]) ∧ Ext No w u) ?_ ?_))
      · refine c_region ?_
        refine wl_p I_ok rfl (wl (st_ldN I_ok rfl (held_id hb4.seg) (by rw [bytesU_len]; exact hni.id) (wl_p I_ok rfl (wl (st_ldN I_ok rfl (held_id hb6.seg) (by rw [bytesU_len]; exact hmj.id) ?_)))))
        refine wl (st_eqK rfl gId 10 (by decide) kId (idForm hni.id) (idForm hmj.id) (idKey hni.id) (idKey hmj.id) idLits_inj ?_)
        simp only []
        refine wl_p I_ok rfl (wl_caseD 27 rfl (fun hg => ?_) (fun hg => ?_))
        · refine wl_pk I_ok 1 rfl ?_
          refine wl (st_ldN I_ok rfl (held_obj hb4.seg hni.id) (objC_len hni.o) (wl_pk I_ok 1 rfl (wl (st_ldN I_ok rfl (held_obj hb6.seg hmj.id) (objC_len hmj.o) ?_))))
          refine wl (st_call Tryd.call15 rfl rfl rfl rfl rfl rfl (same6_calls w6 hni.o hmj.o (hni.l.extNo hX) (hmj.l.extNo hX) hni.sh) fun v7 w7 hr7 => ?_)
          obtain ⟨rfl, hE7⟩ := hr7
          have hb4 := hb4.extNo hE7
          have hb6 := hb6.extNo hE7
          have hX := hX.thenNo hE7
          refine wl_pk I_ok 2 rfl (wl_nil ?_)
          exact f_cut (_) rfl ⟨by rw [← decide_not, decide_eq_decide]; exact ⟨fun h => ⟨hg, h⟩, fun h => h.2⟩, hb4, hb6, hX⟩
        · refine wl_pk I_ok 7 rfl ?_
          refine wl_nil ?_
          exact f_cut (false) rfl ⟨(decide_eq_false fun h => hg h.1).symm, hb4, hb6, hX⟩
      rintro z w8 ⟨rfl, hb4, hb6, hX⟩
      refine c_if rfl (fun hc => ?_) (fun hc => ?_)
      · have ht : TwinOf l[i] l[j] := hc
        refine c_seq (c_region (wl_p I_ok rfl (wl_nil (f_then (c_ret (f_blockR (f_thenR (f_thenR (f_blockR (f_blockR (f_thenR (f_thenR (f_blockR (f_thenR (f_ret1 rfl rfl ?_)))))))))))))))
        exact ⟨true, rfl, iff_of_true rfl ⟨i, hi, j, hj, ht⟩, hX⟩
      · have ht : ¬ TwinOf l[i] l[j] := hc
        refine c_skip (f_blockN (f_then (c_region (wl_p I_ok rfl ?_))))
        rw [IntWalk.i64_in _ (by omega)]
        refine wl_nil ?_
        exact f_round (j + 1) rfl ⟨⟨hj, fun j' hj' hlt => by rcases Nat.lt_or_ge j' j with h0 | h0; exact hnj j' hj' h0; (have e : j' = j := (by omega)); subst e; exact ht⟩, hb4, hX⟩ (by first | omega | (dsimp only; omega))
    · have hno : ∀ i' (hi' : i' < l.length) j (hj : j < i'), i' < i + 1 → ¬ TwinOf l[i'] (l[j]'(by omega)) := fun i' hi' j' hj' hlt => by
        rcases Nat.lt_or_ge i' i with h0 | h0
        · exact hno i' hi' j' hj' h0
        · have e : i' = i := by omega
          subst e
          exact hnj j' hj' (by omega)
      refine c_exit (f_thenE (f_thenE (f_blockE (f_blockN (f_then (c_region (wl_p I_ok rfl ?_)))))))
      rw [IntWalk.i64_in _ (by omega)]
      refine wl_nil ?_
      exact f_round (i + 1) rfl ⟨⟨hi, hno⟩, hX⟩ (by first | omega | (dsimp only; omega))
  · refine c_exit ?_
    refine f_thenE (f_thenE (f_blockE (f_then (c_seq (c_region (wl_p I_ok rfl (wl_nil (f_then (c_ret (f_ret1 rfl rfl ?_))))))))))
    exact ⟨false, rfl, iff_of_false (by decide) fun ⟨i', hi', j', hj', h⟩ => hno i' hi' j' hj' (by omega) h, hX⟩
end Go.Proofs.YtjghckniloikgaaDoor
namespace Go.Proofs.YtjghckniloikgaaDoor
open Go.Vc
def wRows : List RowD := [⟨[97], [49]⟩, ⟨[98], [49]⟩]
theorem w_rows : RowsOk wRows := by decide +kernel
theorem w_tree : ObjOk (treeOf wRows) := by decide +kernel
theorem w_dec : decB [2, 0] = (treeO [], 0) := by decide +kernel
theorem w_enc : encB (blobO [104, 105]) = [1, 0, 2, 104, 105] := by decide +kernel
theorem w_encE : objE (blobO [104, 105]) = 0 := if_pos (blob_ok (by decide))
theorem w_id : idOf (treeOf wRows) ≠ idOf (blobO [49]) := by decide +kernel
theorem w_links : (linksB (treeOf wRows)).length = 2 := by decide +kernel
theorem twin_two {p q t : Str} (h : idOf (treeOf [⟨p, t⟩, ⟨q, t⟩]) ≠ idOf (blobO t)) : ¬ Twin [⟨p, t⟩, ⟨q, t⟩] := by
  have e1 : ∀ y, textF [⟨p, t⟩] y = if y = idOf (blobO t) then some t else none := fun y => rfl
  have e2 : ∀ y, textF [⟨p, t⟩, ⟨q, t⟩] y = if y = idOf (blobO t) then some t else none := fun y => by
    show (if y = idOf (blobO t) then some t else if y = idOf (blobO t) then some t else none) = _
    split <;> rfl
  rintro (⟨i, hi, s, h1, h2⟩ | h')
  · match i, hi with
    | 0, _ => cases h1
    | 1, _ =>
      have h3 : textF [⟨p, t⟩] (idOf (blobO t)) = some s := h1
      rw [e1, if_pos rfl] at h3
      exact h2 (Option.some.inj h3).symm
  · rw [e2] at h'
    rw [if_neg h] at h'
    cases h'
theorem blobs_two {p q t : Str} : blobsOf [⟨p, t⟩, ⟨q, t⟩] = [heldB t] := by
  show addB (addB [] ⟨p, t⟩) ⟨q, t⟩ = _
  rw [show addB [] ⟨p, t⟩ = [heldB t] from if_neg List.not_mem_nil]
  exact if_pos (List.mem_singleton.2 rfl)
theorem w_twin : ¬ Twin wRows := twin_two w_id
theorem w_partsE : partsE wRows = 0 := partsE3 w_rows w_tree w_twin
theorem w_parts (lp : Option Addr) (lc : Nat) : partsL wRows lp lc = [heldB [49], ⟨idOf (treeOf wRows), treeOf wRows, lfP lp lc⟩] := by
  rw [partsL1 w_partsE, partsOf, if_pos w_tree, show blobsOf wRows = [heldB [49]] from blobs_two]
  rfl
theorem two_held {t : Str} {T : ObjD} (hT : ObjIn T) {a : ObjP} : ∀ h ∈ [heldB t, ⟨idOf T, T, a⟩], (heldC h).length = 105 := fun h hh => by
  rcases List.mem_cons.1 hh with e | hh
  · subst e; exact heldB_in t
  · have e := List.mem_singleton.1 hh
    subst e
    exact heldC_len (idOf_len T) hT
theorem two_obj {w : World} {b off : Nat} {t : Str} {T : ObjD} {a : ObjP} {h1 : 1 < [heldB t, (⟨idOf T, T, a⟩ : HeldT)].length} (hs : Seg w b off (heldC ([heldB t, (⟨idOf T, T, a⟩ : HeldT)][1]'h1))) : Seg w b (off + 32) (objC T a) := held_obj (h := ⟨idOf T, T, a⟩) hs (idOf_len T)
theorem w_in : ObjIn (treeOf wRows) := treeO_in (leavesOf_in fun r hr => by have := ((rows_at w_rows).2 r hr).1; have := maxLen_big; omega)
theorem w_sh : Short (treeOf wRows) := tree_sh (by decide) (fun r hr => by obtain ⟨y, hy, rfl⟩ := List.mem_map.1 hr; have := ((rows_at w_rows).2 y hy).1; show y.path.length < _; omega)
theorem wakes_calls (w : World) (hr : Seg w 0 0 (wordsV rootsW)) :
    CallsV Tryd.prog 9 [] w fun v w' => v = .bool true ∧ Ext No w w' := by
  refine calls_enter Tryd.func9 rfl rfl rfl rfl ?_
  have hX := Ext.refl No w
  refine c_seq (c_region (wl_p I_ok rfl (wl_nil (f_then (c_seq (c_region (wl (st_bd I_ok rfl ⟨⟨rfl, by decide⟩, ⟨rfl, by decide⟩, trivial⟩ (l' := objC (blobO [104, 105]) noP) (by rw [← objZ_c]; rfl) ?_))))))))
  refine wl (st_call Tryd.call11 rfl rfl rfl rfl rfl rfl (encode_calls w (blobO_in _) (blob_l _ _) (blob_sh _)) fun v1 w1 hr1 => ?_)
  obtain ⟨q1, k1, rfl, hq1, hqn1, hE1⟩ := hr1
  have hX := hX.thenNo hE1
  rw [w_enc] at hq1
  rw [w_enc, w_encE]
  refine wl_p I_ok rfl (wl_nil (f_then (c_seq (c_region (wl (st_bd I_ok rfl ⟨⟨rfl, by decide⟩, ⟨rfl, by decide⟩, trivial⟩ (l' := RowD.cells ⟨[97], [49]⟩) (by rw [rowZ_c]; rfl) ?_))))))
  refine wl (st_bd I_ok rfl ⟨⟨rfl, by decide⟩, ⟨rfl, by decide⟩, trivial⟩ (l' := RowD.cells ⟨[98], [49]⟩) (by rw [rowZ_c]; rfl) ?_)
  refine wl (st_bs I_ok rfl 2 rfl rowZ_c rfl (by decide) (by decide) ⟨⟨rfl, by decide⟩, ⟨rfl, by decide⟩, trivial⟩ (l' := wRows.flatMap RowD.cells) rfl fun b15 w2 hn15 hb15 hE2 hs2 => ?_)
  have fr15 := Nat.le_trans hX.size hn15
  have hq1 := hq1.ext hE2 fun _ _ => id
  have hX := hX.thenNo hE2
  refine wl (st_bd I_ok rfl ⟨⟨rfl, by decide⟩, trivial⟩ (l' := [.slice (some ⟨b15, 0, none⟩) wRows.length 2]) rfl ?_)
  refine wl (st_call Tryd.call26 rfl rfl rfl rfl rfl rfl (objParts_calls w2 (rows := wRows) ⟨rfl, .inr ⟨b15, 0, rfl, hb15.seg⟩⟩ (by decide) (by decide) (hr.extNo hX)) fun v3 w3 hr3 => ?_)
  obtain ⟨q2, k2, lp, lc, rfl, hq2, hqn2, hlf, hln, hE3⟩ := hr3
  have hb15 := hb15.extNo hE3
  have hq1 := hq1.ext hE3 fun _ _ => id
  have hX := hX.thenNo hE3
  rw [w_parts] at hq2
  rw [w_parts, w_partsE]
  have hlf := hlf w_partsE
  refine wl_p I_ok rfl (wl_nil (f_then (c_seq (c_region (wl (st_bs I_ok rfl 1 rfl rfl rfl (by decide) (by decide) (by simp [partsOk]) (l' := bytesU [2, 0]) rfl fun b21 w4 hn21 hb21 hE4 hs4 => ?_))))))
  have ne15_21 : b15 ≠ b21 := Nat.ne_of_lt (Nat.lt_of_lt_of_le hb15.lt hn21)
  have fr21 := Nat.le_trans hX.size hn21
  have hb15 := hb15.extNo hE4
  have hq1 := hq1.ext hE4 fun _ _ => id
  have hq2 := hq2.ext hE4 fun _ _ => id
  have hlf := hlf.ext hE4 fun _ _ => id
  have hX := hX.thenNo hE4
  refine wl (st_call Tryd.call22 rfl rfl rfl rfl rfl rfl (decode_calls w4 (l := [2, 0]) ⟨rfl, .inr ⟨b21, 0, rfl, hb21.seg⟩⟩ (by decide)) fun v5 w5 hr5 => ?_)
  obtain ⟨a3, rfl, hN3, hE5⟩ := hr5
  have hb15 := hb15.extNo hE5
  have hb21 := hb21.extNo hE5
  have hq1 := hq1.ext hE5 fun _ _ => id
  have hq2 := hq2.ext hE5 fun _ _ => id
  have hlf := hlf.ext hE5 fun _ _ => id
  have hX := hX.thenNo hE5
  rw [w_dec]
  dsimp only
  refine wl_p I_ok rfl (wl (st_al I_ok rfl fun b5 w6 hn5 hb5 hE6 => ?_))
  have ne15_5 : b15 ≠ b5 := Nat.ne_of_lt (Nat.lt_of_lt_of_le hb15.lt hn5)
  have ne21_5 : b21 ≠ b5 := Nat.ne_of_lt (Nat.lt_of_lt_of_le hb21.lt hn5)
  have fr5 := Nat.le_trans hX.size hn5
  have hb15 := hb15.extNo hE6
  have hb21 := hb21.extNo hE6
  have hq1 := hq1.ext hE6 fun _ _ => id
  have hq2 := hq2.ext hE6 fun _ _ => id
  have hlf := hlf.ext hE6 fun _ _ => id
  have hX := hX.thenNo hE6
  have hb5o := hb5
  refine wl (st_stW (l' := objC (treeO []) a3) I_ok hb5 rfl rfl rfl rfl OneC.h fun w7 hb5 hE7 hs7 => ?_)
  have hb15 := hb15.ext1 hE7 ne15_5
  have hb21 := hb21.ext1 hE7 ne21_5
  have hq1 := hq1.extTy hE7 hb5o (by decide)
  have hq2 := hq2.extTy hE7 hb5o (by decide)
  have hlf := hlf.extTy hE7 hb5o (by decide)
  have hX := hX.thenNew hE7 fr5
  refine wl_p I_ok rfl (wl_nil (f_then (c_cutK (α := Bool) [] rfl (fun z => [(0, .bool z)]) (fun z u => (z = true) ∧ Ext No w u) ?_ ?_)))
  · refine c_region ?_
    refine wl_p I_ok rfl (wl_caseD 27 rfl (fun hg => ?_) (fun hg => ?_))
    · refine wl_pk I_ok 4 rfl ?_
      refine wl_caseD 31 rfl (fun hg => ?_) (fun hg => ?_)
      · refine wl_pk I_ok 4 rfl ?_
        refine wl_caseD 35 rfl (fun hg => ?_) (fun hg => ?_)
        · refine wl_pk I_ok 1 rfl ?_
          refine wl (st_bs I_ok rfl 1 rfl rfl rfl (by decide) (by decide) (by simp [partsOk]) (l' := bytesU [1, 0, 2, 104, 105]) rfl fun b37 w8 hn37 hb37 hE8 hs8 => ?_)
          have ne15_37 : b15 ≠ b37 := Nat.ne_of_lt (Nat.lt_of_lt_of_le hb15.lt hn37)
          have ne21_37 : b21 ≠ b37 := Nat.ne_of_lt (Nat.lt_of_lt_of_le hb21.lt hn37)
          have ne5_37 : b5 ≠ b37 := Nat.ne_of_lt (Nat.lt_of_lt_of_le hb5.lt hn37)
          have fr37 := Nat.le_trans hX.size hn37
          have hb15 := hb15.extNo hE8
          have hb21 := hb21.extNo hE8
          have hb5 := hb5.extNo hE8
          have hq1 := hq1.ext hE8 fun _ _ => id
          have hq2 := hq2.ext hE8 fun _ _ => id
          have hlf := hlf.ext hE8 fun _ _ => id
          have hX := hX.thenNo hE8
          refine wl (st_call Tryd.call17 rfl rfl rfl rfl rfl rfl (bytesEqual_calls w8 (l := [1, 0, 2, 104, 105]) (m := [1, 0, 2, 104, 105]) hq1.sl ⟨rfl, .inr ⟨b37, 0, rfl, hb37.seg⟩⟩) fun v9 w9 hr9 => ?_)
          obtain ⟨rfl, rfl⟩ := hr9
          refine wl_p I_ok rfl (wl_caseD 40 rfl (fun hg => ?_) (fun hg => ?_))
          · refine wl_pk I_ok 5 rfl ?_
            refine wl_caseD 45 rfl (fun hg => ?_) (fun hg => ?_)
            · obtain ⟨bq, qoff, hqe, hsq⟩ := hq2.sl.rowAll (two_held w_in) (show 0 < 2 from by decide)
              rw [hqe]
              have hrow := two_obj (hsq 1 (show 1 < 2 from by decide))
              refine wl_pk I_ok 1 rfl (wl (st_ix I_ok rfl 105 rfl 1 rfl (show 1 < 2 from by decide) (qoff + 1 * 105) rfl (wl_pk I_ok 1 rfl (wl (st_ldN I_ok rfl hrow (objC_len w_in) ?_)))))
              refine wl (st_call Tryd.call13 rfl rfl rfl rfl rfl rfl (links_calls w9 w_in ⟨hlf.sl, Sl.nil _ _ _, Sl.nil _ _ _⟩ w_sh) fun v10 w10 hr10 => ?_)
              obtain ⟨q4, k4, rfl, hq4, hqn4, hE10⟩ := hr10
              have hb15 := hb15.extNo hE10
              have hb21 := hb21.extNo hE10
              have hb5 := hb5.extNo hE10
              have hb37 := hb37.extNo hE10
              have hq1 := hq1.ext hE10 fun _ _ => id
              have hq2 := hq2.ext hE10 fun _ _ => id
              have hlf := hlf.ext hE10 fun _ _ => id
              have hX := hX.thenNo hE10
              rw [w_links]
              refine wl_pk I_ok 4 rfl (wl_caseD 54 rfl (fun hg => ?_) (fun hg => ?_))
              · refine wl_pk I_ok 1 rfl ?_
                refine wl (st_ldb I_ok hb5 rfl rfl (wl_pk I_ok 3 rfl (wl_nil ?_)))
                exact f_cut (_) rfl ⟨rfl, hX⟩
              · exact absurd rfl hg
            · exact absurd rfl hg
          · exact absurd rfl hg
        · exact absurd rfl hg
      · exact absurd rfl hg
    · exact absurd rfl hg
  rintro z w11 ⟨rfl, hX⟩
  refine c_ret (f_ret1 rfl rfl ?_)
  exact ⟨rfl, hX⟩
end Go.Proofs.YtjghckniloikgaaDoor
namespace Go.Proofs.YtjghckniloikgaaDoor
open Go.Vc
theorem shortO_sh (x : ObjD) : Short (shortO x) :=
  ⟨Nat.lt_of_le_of_lt (by show ((x.leaves.take 33).map cutLeaf).length ≤ 33; rw [List.length_map, List.length_take]; omega) (by decide : 33 < 1000000000),
   Nat.lt_of_le_of_lt (by show (x.parents.take 4).length ≤ 33; rw [List.length_take]; omega) (by decide : 33 < 1000000000),
   Nat.lt_of_le_of_lt (by show ((x.rows.take 33).map cutChg).length ≤ 33; rw [List.length_map, List.length_take]; omega) (by decide : 33 < 1000000000),
   fun r hr => by obtain ⟨y, _, rfl⟩ := List.mem_map.1 hr; exact Nat.lt_of_le_of_lt (by show (y.path.take 49).length ≤ 49; rw [List.length_take]; omega) (by decide : 49 < 1000000000),
   fun r hr => by obtain ⟨y, _, rfl⟩ := List.mem_map.1 hr; exact Nat.lt_of_le_of_lt (by show (y.path.take 49).length ≤ 49; rw [List.length_take]; omega) (by decide : 49 < 1000000000)⟩
/-- an object as it is given -/
structure ObjArg (w : World) (x : ObjD) (a : ObjP) : Prop where
  i : ObjIn x
  l : ObjL w x a
  c : ObjCap x a
theorem ObjArg.extNo {w w' : World} {x : ObjD} {a : ObjP} (h : ObjArg w x a) (hE : Ext No w w') : ObjArg w' x a := ⟨h.i, h.l.extNo hE, h.c⟩
theorem ObjNew.arg {W0 w : World} {x : ObjD} {a : ObjP} (h : ObjNew W0 w x a) (hx : ObjIn x) : ObjArg w x a := ⟨hx, h.l, h.cap⟩
theorem shortA {w : World} {x : ObjD} {a : ObjP} (h : ObjArg w x a) : CallsV Tryd.prog 10 [.agg (objC x a).toArray] w fun v w' => ∃ a', v = .agg (objC (shortO x) a').toArray ∧ ObjNew w w' (shortO x) a' ∧ Ext No w w' := short_calls w h.i h.l h.c
theorem objectSame_calls (w : World) {x y : ObjD} {a b : ObjP} (hx : ObjArg w x a) (hy : ObjArg w y b) (hr : Seg w 0 0 (wordsV rootsW)) :
    CallsV Tryd.prog 6 [.agg (objC x a).toArray, .agg (objC y b).toArray] w fun v w' => v = .bool true ∧ Ext No w w' := by
  refine calls_enter Tryd.func6 rfl rfl rfl rfl ?_
  have hX := Ext.refl No w
  refine c_seq (c_region (wl (st_al I_ok rfl fun b2 w1 hn2 hb2 hE1 => ?_)))
  have fr2 := Nat.le_trans hX.size hn2
  have hX := hX.thenNo hE1
  have hb2 : Blk w1 b2 33 (objC x a) := hb2
  refine wl (st_al I_ok rfl fun b3 w2 hn3 hb3 hE2 => ?_)
  have ne2_3 : b2 ≠ b3 := Nat.ne_of_lt (Nat.lt_of_lt_of_le hb2.lt hn3)
  have fr3 := Nat.le_trans hX.size hn3
  have hb2 := hb2.extNo hE2
  have hX := hX.thenNo hE2
  have hb3 : Blk w2 b3 33 (objC y b) := hb3
  refine wl_p I_ok rfl (wl_nil (f_then (c_seq (c_seq (c_region (wl (st_call Tryd.call9 rfl rfl rfl rfl rfl rfl (wakes_calls w2 (hr.extNo hX)) fun v3 w3 hr3 => ?_)))))))
  obtain ⟨rfl, hE3⟩ := hr3
  have hb2 := hb2.extNo hE3
  have hb3 := hb3.extNo hE3
  have hX := hX.thenNo hE3
  refine wl_p I_ok rfl (wl_nil (f_then (c_condF rfl (c_skip (f_then (c_seq (c_draw rfl 4 [(0, true), (2, true), (1, false), (3, false)] [4, 5] (No) (by kernel_rfl) fun w4 hE4 hs4 => ?_)))))))
  have hd2 := hb2
  have hd3 := hb3
  have hXd := hX
  have hb2 := hb2.extNo hE4
  have hb3 := hb3.extNo hE4
  have hX := hX.thenNo hE4
  have hC : Ext (No) _ w4 := hE4.no
  refine wd_ldN I_ok rfl rfl (fun w' hw' => (hd2.extNo hw').seg) (objC_len hx.i) ?_
  refine wd_ldN I_ok rfl rfl (fun w' hw' => (hd3.extNo hw').seg) (objC_len hy.i) ?_
  refine wd_l rfl (st_call Tryd.call10 rfl rfl rfl rfl rfl rfl (shortA (hx.extNo hX)) fun v5 w5 hr5 => ⟨(by obtain ⟨a1, rfl, hN1, hE5⟩ := hr5; exact hC.thenNo hE5), ?_⟩)
  obtain ⟨a1, rfl, hN1, hE5⟩ := hr5
  have hb2 := hb2.extNo hE5
  have hb3 := hb3.extNo hE5
  have hX := hX.thenNo hE5
  have hC := hC.thenNo hE5
  refine wd_l rfl (st_call Tryd.call10 rfl rfl rfl rfl rfl rfl (shortA (hy.extNo hX)) fun v6 w6 hr6 => ⟨(by obtain ⟨a2, rfl, hN2, hE6⟩ := hr6; exact hC.thenNo hE6), ?_⟩)
  obtain ⟨a2, rfl, hN2, hE6⟩ := hr6
  have hb2 := hb2.extNo hE6
  have hb3 := hb3.extNo hE6
  have hN1 := hN1.extNo hE6
  have hX := hX.thenNo hE6
  have hC := hC.thenNo hE6
  refine wd_sw ?_
  have hb2o := hb2
  refine wb rfl (st_stW (l' := objC (shortO x) a1) I_ok hb2 rfl rfl (objC_len (shortO_in hx.i)) (by rw [objC_len hx.i, (objC_len (shortO_in hx.i))]) OneC.h fun w7 hb2 hE7 hs7 => ?_)
  have hb3 := hb3.ext1 hE7 ne2_3.symm
  have hN1 := hN1.ext1 hE7 hb2o (by decide) (by decide) (by decide)
  have hN2 := hN2.ext1 hE7 hb2o (by decide) (by decide) (by decide)
  have hX := hX.thenNew hE7 fr2
  have hb3o := hb3
  refine wb rfl (st_stW (l' := objC (shortO y) a2) I_ok hb3 rfl rfl (objC_len (shortO_in hy.i)) (by rw [objC_len hy.i, (objC_len (shortO_in hy.i))]) OneC.h fun w8 hb3 hE8 hs8 => ?_)
  have hb2 := hb2.ext1 hE8 ne2_3
  have hN1 := hN1.ext1 hE8 hb3o (by decide) (by decide) (by decide)
  have hN2 := hN2.ext1 hE8 hb3o (by decide) (by decide) (by decide)
  have hX := hX.thenNew hE8 fr3
  refine wb_nil (f_then (c_cutK (α := Bool) [] rfl (fun z => [(4, .bool z)]) (fun z u => (z = true) ∧ Ext No w u) ?_ ?_))
  · refine c_draw rfl 14 [(0, true), (1, true), (3, true), (4, true), (2, false), (5, false), (6, true), (7, true), (8, true), (9, true), (10, false), (11, false), (12, true), (13, true)] [] (No) (by kernel_rfl) fun w9 hE9 hs9 => ?_
    have hd2 := hb2
    have hd3 := hb3
    have hN1d := hN1
    have hN2d := hN2
    have hXd := hX
    have hb2 := hb2.extNo hE9
    have hb3 := hb3.extNo hE9
    have hN1 := hN1.extNo hE9
    have hN2 := hN2.extNo hE9
    have hX := hX.thenNo hE9
    have hC : Ext (No) _ w9 := hE9.no
    refine wd_ldN I_ok rfl rfl (fun w' hw' => (hd2.extNo hw').seg) (objC_len (shortO_in hx.i)) ?_
    refine wd_ldN I_ok rfl rfl (fun w' hw' => (hd3.extNo hw').seg) (objC_len (shortO_in hy.i)) ?_
    refine wd_ldN I_ok rfl rfl (fun w' hw' => (hd2.extNo hw').seg) (objC_len (shortO_in hx.i)) ?_
    refine wd_ldN I_ok rfl rfl (fun w' hw' => (hd3.extNo hw').seg) (objC_len (shortO_in hy.i)) ?_
    refine wd_l rfl (st_call Tryd.call31 rfl rfl rfl rfl rfl rfl (sameObj_calls w9 (shortO_in hx.i) (shortO_in hy.i) hN1.l hN2.l (shortO_sh _)) fun v10 w10 hr10 => ⟨(by obtain ⟨rfl, hE10⟩ := hr10; exact hC.thenNo hE10), ?_⟩)
    obtain ⟨rfl, hE10⟩ := hr10
    have hb2 := hb2.extNo hE10
    have hb3 := hb3.extNo hE10
    have hN1 := hN1.extNo hE10
    have hN2 := hN2.extNo hE10
    have hX := hX.thenNo hE10
    have hC := hC.thenNo hE10
    refine wd_l rfl (st_call Tryd.call15 rfl rfl rfl rfl rfl rfl (same6_calls w10 (shortO_in hx.i) (shortO_in hy.i) hN1.l hN2.l (shortO_sh _)) fun v11 w11 hr11 => ⟨(by obtain ⟨rfl, hE11⟩ := hr11; exact hC.thenNo hE11), ?_⟩)
    obtain ⟨rfl, hE11⟩ := hr11
    have hb2 := hb2.extNo hE11
    have hb3 := hb3.extNo hE11
    have hN1 := hN1.extNo hE11
    have hN2 := hN2.extNo hE11
    have hX := hX.thenNo hE11
    have hC := hC.thenNo hE11
    refine wd_k I_ok 2 rfl (wd_case 18 rfl (fun hg => ?_) (fun hg => ?_))
    · refine wd_ldN I_ok rfl rfl (fun w' hw' => (hd2.extNo hw').seg) (objC_len (shortO_in hx.i)) ?_
      refine wd_ldN I_ok rfl rfl (fun w' hw' => (hd2.extNo hw').seg) (objC_len (shortO_in hx.i)) ?_
      refine wd_l rfl (st_call Tryd.call10 rfl rfl rfl rfl rfl rfl (shortA (hN1.arg (shortO_in hx.i))) fun v12 w12 hr12 => ⟨(by obtain ⟨a3, rfl, hN3, hE12⟩ := hr12; exact hC.thenNo hE12), ?_⟩)
      obtain ⟨a3, rfl, hN3, hE12⟩ := hr12
      have hb2 := hb2.extNo hE12
      have hb3 := hb3.extNo hE12
      have hN1 := hN1.extNo hE12
      have hN2 := hN2.extNo hE12
      have hX := hX.thenNo hE12
      have hC := hC.thenNo hE12
      rw [shortO_short] at hN3 ⊢
      refine wd_l rfl (st_call Tryd.call31 rfl rfl rfl rfl rfl rfl (sameObj_calls w12 (shortO_in hx.i) (shortO_in hx.i) hN1.l hN3.l (shortO_sh _)) fun v13 w13 hr13 => ⟨(by obtain ⟨rfl, hE13⟩ := hr13; exact hC.thenNo hE13), ?_⟩)
      obtain ⟨rfl, hE13⟩ := hr13
      have hb2 := hb2.extNo hE13
      have hb3 := hb3.extNo hE13
      have hN1 := hN1.extNo hE13
      have hN2 := hN2.extNo hE13
      have hX := hX.thenNo hE13
      have hC := hC.thenNo hE13
      refine wd_k I_ok 2 rfl (wd_sw (wb_nil ?_))
      exact f_cut (_) rfl ⟨decide_eq_true rfl, hX⟩
    · exact absurd hg (by simp)
  rintro z w14 ⟨rfl, hX⟩
  refine c_ret (f_ret1 rfl rfl ?_)
  exact ⟨rfl, hX⟩
end Go.Proofs.YtjghckniloikgaaDoor
namespace Go.Vc
open Go.WideShapes Go.ChangeShapes Go.RowKit

section
variable {H : Type} {enc : TypeId × Value → H} {P : Program} {w w' : World}

theorem Ext.sameAt (hE : Ext No w w') {p : MemPlace} (hp : p.block < w.heap.size) : w.sameAt w' p := by
  cases p with
  | cell b off =>
    have := hE.same b hp id
    show w'.cell? ⟨b, off, none⟩ = w.cell? ⟨b, off, none⟩
    unfold World.cell?
    rw [this]
  | map b => exact hE.same b hp id

theorem trodAll_carry {base : Nat} {sp : Nat → Bool} {held : Bool} : ∀ {ts : List TypeId} {vs : List Value} {ds : List (DataW H)} {ps : List MemPlace}, DataW.TrodAll enc P w base sp held ts vs ds ps → (∀ p ∈ ps, w.sameAt w' p) → DataW.TrodAll enc P w' base sp held ts vs ds ps
  | [], [], [], _, h, _ => h
  | _ :: _, _ :: _, _ :: _, _, ⟨p, q, ⟨n, h1⟩, h2, e⟩, hs => ⟨p, q, ⟨n, DataW.trod_carry n _ _ _ h1 fun x hx => hs x (by rw [e]; exact List.mem_append_left _ hx)⟩, trodAll_carry h2 fun x hx => hs x (by rw [e]; exact List.mem_append_right _ hx), e⟩

/-- a law that returns true and leaves all that was there -/
theorem post_true {f : Func} {s : ChangeSpec} {fresh handsOn again : Bool} {W W' : World} {args : Array Value} {ds gs : List (DataW H)} {before : List MemPlace} (hl : laidOutB P = true) (hm : mapsRowed P = true) (hz : ((List.range P.types.size).all fun t => match P.underlying t with | some (.slice e) => decide (0 < P.cellsOf e) | _ => true) = true)
    (hW : DataW.Whole enc P f.params.toList s.vars false W args.toList ds gs before) (hv : s.vars = []) (hts : f.params.toList.all (fun t => decide (t < P.types.size)) = true)
    {tb : TypeId} (hrt : f.resultTypes = #[tb]) (htb : P.underlying tb = some .bool) (hr : (s.fn H (ds ++ gs)).results = [.lit (.bool true)]) (ha : (s.fn H (ds ++ gs)).args = ds) (hvr : (s.fn H (ds ++ gs)).vars = []) (hE : Ext No W W') :
    s.post enc P f false fresh handsOn again W args (.bool true) W' := by
  have hW0 := hW
  obtain ⟨p, q, hA, hV, rfl, _, _⟩ := hW
  rw [hv] at hV
  obtain ⟨rfl, rfl⟩ := trodVars_none hV
  have hg := hE.grown fun _ _ => id
  refine post_of_same (pa := p) (pv := []) hW0 (fun _ _ _ => ?_) (fun sp hsp => ?_) (fun _ _ => ?_) (by simp) (hg.frame _) hg.2.1 ?_
  · rw [hrt, hr]
    exact trodAll_cons_mk (RowKit.shut_bool htb true) trodAll_mk0
  · rw [ha]
    refine trodAll_carry (hA.respare (kids_rows hl hm) (slices_full_of P hz) (fun t ht => by simpa using List.all_eq_true.1 hts t ht) fun x hx => hsp x (by simpa using hx)) fun x hx => ?_
    exact hE.sameAt (hA.lt x hx)
  · rw [hv, hvr]; rfl
  · exact ok_one hrt rfl (RowKit.okWide_bool_mk htb true)

/-- cells that were read stand in a row -/
theorem cells?_seg {a : Addr} {m : Nat} {r : List Value} (h : w.cells? 0 a m = some r) (hm : 0 < m) : a = ⟨a.block, a.off, none⟩ ∧ r.length = m ∧ Seg w a.block a.off r ∧ a.block < w.heap.size := by
  have hlt := World.cells?_block h hm
  unfold World.cells? at h
  rw [if_pos (Nat.zero_le _)] at h
  have hlen := mapM_some_length h
  have hget : ∀ i, i < m → w.cell? (a.add i) = r[i]? := fun i hi => mapM_some_get h i i (by simp [hi])
  simp only [List.length_range] at hlen
  have hspot : a.spot = none := by
    have h0 := hget 0 hm
    have hr0 : r[0]? = some r[0] := by simp
    rw [hr0] at h0
    have e : a.add 0 = a := by simp [Addr.add]
    rw [e] at h0
    unfold World.cell? at h0
    split at h0
    · split at h0
      · cases h0
      · rename_i hs; simpa using hs
    · cases h0
  have ha : a = ⟨a.block, a.off, none⟩ := by rw [← hspot]
  refine ⟨ha, hlen, fun i v hv => ?_, hlt⟩
  have hi : i < m := by
    have := (List.getElem?_eq_some_iff.1 hv).1
    omega
  have hi' := hget i hi
  rw [hv] at hi'
  have e : a.add i = ⟨a.block, a.off + i, none⟩ := by rw [ha]; exact addr_add _ _ _
  rw [e] at hi'
  exact hi'

theorem rows_seg {b m : Nat} : ∀ {L : List (List Value)} {off : Nat}, Uni m L → (∀ (i : Nat) (r : List Value), L[i]? = some r → Seg w b (off + i * m) r) → Seg w b off L.flatten
  | [], _, _, _ => fun i v hv => by simp at hv
  | r :: L, off, hu, h => by
    rw [List.flatten_cons, Seg.append]
    have hr := hu r (by simp)
    refine ⟨by simpa using h 0 r rfl, ?_⟩
    rw [hr]
    refine rows_seg (fun x hx => hu x (by simp [hx])) fun i x hx => ?_
    have := h (i + 1) x (by simpa using hx)
    rwa [show off + (i + 1) * m = off + m + i * m from by rw [Nat.succ_mul]; omega] at this

/-- a slice that the statement reads: its rows -/
theorem open_rows {sp : Nat → Bool} {held : Bool} {fuel : Nat} {t e m : Nat} {cs : List Value} {x : DataW H × List MemPlace} (ht : P.underlying t = some (.slice e)) (hm : P.cellsOf e = m) (hm0 : 0 < m) (h : DataW.trod enc P w 0 sp held fuel t cs = some x) :
    ∃ (p : Option Addr) (n c : Nat) (L : List (List Value)), cs = [.slice p n c] ∧ n ≤ c ∧ c ≤ maxLen ∧ L.length = n ∧ Uni m L ∧ Sl w p n m L.flatten ∧ (n ≠ 0 → ∀ b off, p = some ⟨b, off, none⟩ → b < w.heap.size) ∧
      ∀ r ∈ L, ∃ k y, DataW.trod enc P w 0 sp held k e r = some y := by
  subst hm
  rcases DataW.trod_slice ht h with ⟨hcs, _⟩ | ⟨a, len, cap, elems, rest, n, _, hcs, _, _, hl, hc, hlen, hel, _⟩
  · exact ⟨none, 0, 0, [], hcs, Nat.le_refl _, by unfold maxLen; omega, rfl, Uni.nil _, Sl.nil _ _ _, fun h => absurd rfl h, fun r hr => by cases hr⟩
  · have hrow : ∀ i, i < len → ∃ r y, w.cells? 0 (a.add (i * P.cellsOf e)) (P.cellsOf e) = some r ∧ DataW.trod enc P w 0 sp held n e r = some y := by
      intro i hi
      have := hel i hi
      rw [List.getElem?_eq_getElem (by omega), Option.bind_eq_some_iff] at this
      obtain ⟨r, h1, h2⟩ := this
      exact ⟨r, _, h1, h2⟩
    have hrow' : ∀ i : _root_.Fin len, ∃ r y, w.cells? 0 (a.add (i.1 * P.cellsOf e)) (P.cellsOf e) = some r ∧ DataW.trod enc P w 0 sp held n e r = some y := fun i => hrow i.1 i.2
    let L : List (List Value) := List.ofFn fun i : _root_.Fin len => Classical.choose (hrow' i)
    have hL : ∀ (i : Nat) (r : List Value), L[i]? = some r → i < len ∧ w.cells? 0 (a.add (i * P.cellsOf e)) (P.cellsOf e) = some r ∧ ∃ y, DataW.trod enc P w 0 sp held n e r = some y := by
      intro i r hr
      have hi : i < len := by
        have := (List.getElem?_eq_some_iff.1 hr).1
        simpa [L] using this
      have : r = Classical.choose (hrow' ⟨i, hi⟩) := by
        simp only [L, List.getElem?_ofFn, hi, dif_pos, Option.some.injEq] at hr
        exact hr.symm
      subst this
      obtain ⟨y, h1, h2⟩ := Classical.choose_spec (hrow' ⟨i, hi⟩)
      exact ⟨hi, h1, y, h2⟩
    have hLlen : L.length = len := by simp [L]
    have hu : Uni (P.cellsOf e) L := fun r hr => by
      obtain ⟨i, hi, rfl⟩ := List.mem_iff_getElem.1 hr
      have := hL i L[i] (by simp)
      exact (cells?_seg this.2.1 hm0).2.1
    refine ⟨some a, len, cap, L, hcs, hl, hc, hLlen, hu, ⟨by rw [rows_length hu, hLlen], ?_⟩, ?_, fun r hr => ?_⟩
    · rcases Nat.eq_zero_or_pos len with h0 | h0
      · exact .inl h0
      · right
        have h00 := hL 0 L[0] (by simp)
        have e0 : a.add (0 * P.cellsOf e) = a := by simp [Addr.add]
        rw [e0] at h00
        have ha := (cells?_seg h00.2.1 hm0).1
        refine ⟨a.block, a.off, congrArg some ha, rows_seg hu fun i r hr => ?_⟩
        have hi := hL i r hr
        have := (cells?_seg hi.2.1 hm0).2.2.1
        have e1 : a.add (i * P.cellsOf e) = ⟨a.block, a.off + i * P.cellsOf e, none⟩ := by
          conv => lhs; rw [ha]
          exact addr_add _ _ _
        rw [e1] at this
        exact this
    · intro hn b off hb
      have h00 := hL 0 (L[0]'(by omega)) (by simp)
      have e0 : a.add (0 * P.cellsOf e) = a := by simp [Addr.add]
      rw [e0] at h00
      have := (cells?_seg h00.2.1 hm0).2.2.2
      simp only [Option.some.injEq] at hb
      rw [hb] at this
      exact this
    · obtain ⟨i, hi, rfl⟩ := List.mem_iff_getElem.1 hr
      obtain ⟨_, _, y, hy⟩ := hL i L[i] (by simp)
      exact ⟨n, y, hy⟩
end
end Go.Vc
namespace Go.Proofs.YtjghckniloikgaaDoor
open Go.Vc Go.WideShapes Go.ChangeShapes
section
variable {H : Type} {enc : TypeId × Value → H} {W : World} {sp : Nat → Bool} {held : Bool}

theorem list_of {α β : Type} {R : α → β → Prop} : ∀ (L : List β), (∀ r ∈ L, ∃ a, R a r) → ∃ l : List α, l.length = L.length ∧ ∀ (i : Nat) (a : α) (r : β), l[i]? = some a → L[i]? = some r → R a r
  | [], _ => ⟨[], rfl, fun i a r h => by simp at h⟩
  | r :: L, h => by
    obtain ⟨a, ha⟩ := h r (by simp)
    obtain ⟨l, h1, h2⟩ := list_of L fun x hx => h x (by simp [hx])
    refine ⟨a :: l, by simp [h1], fun i b x hb hx => ?_⟩
    cases i with
    | zero => simp at hb hx; subst hb; subst hx; exact ha
    | succ i => exact h2 i b x (by simpa using hb) (by simpa using hx)
/-- a slice of rows, each opened -/
theorem open_list {α : Type} {cells : α → List Value} {ok : α → Prop} {fuel t e m : Nat} {cs : List Value} {x : DataW H × List MemPlace} (ht : Tryd.prog.underlying t = some (.slice e)) (hm : Tryd.prog.cellsOf e = m) (hm0 : 0 < m)
    (hrow : ∀ {k : Nat} {r : List Value} {y : DataW H × List MemPlace}, DataW.trod enc Tryd.prog W 0 sp held k e r = some y → ∃ a, r = cells a ∧ ok a)
    (h : DataW.trod enc Tryd.prog W 0 sp held fuel t cs = some x) :
    ∃ (p : Option Addr) (l : List α) (c : Nat), cs = [.slice p l.length c] ∧ l.length ≤ c ∧ c ≤ maxLen ∧ Sl W p l.length m (l.flatMap cells) ∧ (∀ a ∈ l, ok a) ∧ (l ≠ [] → ∀ b off, p = some ⟨b, off, none⟩ → b < W.heap.size) := by
  obtain ⟨p, n, c, L, rfl, hn, hc, hL, hu, hs, hlt, hr⟩ := open_rows ht hm hm0 h
  obtain ⟨l, h1, h2⟩ := list_of (R := fun a r => r = cells a ∧ ok a) L fun r hr' => by
    obtain ⟨k, y, hy⟩ := hr r hr'
    exact hrow hy
  have e : L = l.map cells := by
    apply List.ext_getElem?
    intro i
    rw [List.getElem?_map]
    by_cases hi : i < l.length
    · have hi' : i < L.length := by omega
      have := (h2 i l[i] L[i] (by simp) (by simp)).1
      simp [hi, hi', this]
    · rw [List.getElem?_eq_none (by omega), List.getElem?_eq_none (by omega)]; rfl
  have hln : l.length = n := by omega
  subst hln
  refine ⟨p, l, c, rfl, hn, hc, by rw [List.flatMap_def, ← e]; exact hs, fun a ha => ?_, fun hne => hlt fun h0 => hne (List.eq_nil_of_length_eq_zero h0)⟩
  obtain ⟨i, hi, rfl⟩ := List.mem_iff_getElem.1 ha
  have hi' : i < L.length := by omega
  exact (h2 i l[i] L[i] (by simp) (by simp)).2
theorem open_byte {fuel : Nat} {cs : List Value} {x : DataW H × List MemPlace} (h : DataW.trod enc Tryd.prog W 0 sp held fuel 5 cs = some x) : ∃ b : UInt8, cs = [byteV b] := by
  obtain ⟨n, rfl, _, hw⟩ := DataW.trod_int Tryd.underlying5 h
  have hw : 0 ≤ n ∧ n ≤ 255 := by simpa [Lit.wf, IntKind.min, IntKind.max, IntKind.signed, IntKind.bits] using hw
  refine ⟨UInt8.ofNat n.toNat, ?_⟩
  show _ = [Value.int .u8 ((UInt8.ofNat n.toNat).toNat : Int)]
  have e : (UInt8.ofNat n.toNat).toNat = n.toNat := UInt8.toNat_ofNat_of_lt' (by show n.toNat < 256; omega)
  rw [e, Int.toNat_of_nonneg hw.1]
theorem open_str {fuel : Nat} {cs : List Value} {x : DataW H × List MemPlace} (h : DataW.trod enc Tryd.prog W 0 sp held fuel 9 cs = some x) : ∃ s : Str, cs = [strV s] ∧ s.length ≤ maxLen := by
  obtain ⟨s, rfl, _, hw⟩ := DataW.trod_string Tryd.underlying9 h
  exact ⟨s.data.toList, by show _ = [Value.string (strU s.data.toList)]; rw [strU_of], hw⟩
theorem open_id {fuel : Nat} {cs : List Value} {x : DataW H × List MemPlace} (h : DataW.trod enc Tryd.prog W 0 sp held fuel 26 cs = some x) : ∃ l : List UInt8, cs = bytesU l ∧ l.length = 32 := by
  obtain ⟨xs, m, rfl, _, hlen, hn, hel⟩ := DataW.trod_array Tryd.underlying26 h
  have c5 : Tryd.prog.cellsOf 5 = 1 := by kernel_rfl
  have c26 : Tryd.prog.cellsOf 26 = 32 := by kernel_rfl
  rw [c26] at hlen
  obtain ⟨l, h1, h2⟩ := list_of (R := fun (b : UInt8) v => v = byteV b) cs fun v hv => by
    obtain ⟨i, hi, rfl⟩ := List.mem_iff_getElem.1 hv
    have hi32 : i < 32 := by omega
    have h0 := hel i hi32
    rw [c5, Nat.mul_one, List.getElem?_eq_getElem (show i < xs.length by rw [hn]; exact hi32)] at h0
    obtain ⟨b, hb⟩ := open_byte h0
    rw [List.drop_eq_getElem_cons hi, List.take_succ_cons, List.take_zero] at hb
    exact ⟨b, (List.cons.inj hb).1⟩
  refine ⟨l, ?_, by omega⟩
  apply List.ext_getElem?
  intro i
  rw [bytesU, List.getElem?_map]
  by_cases hi : i < l.length
  · have hi' : i < cs.length := by omega
    have := h2 i l[i] cs[i] (by simp) (by simp)
    simp [hi, hi', this]
  · rw [List.getElem?_eq_none (by omega), List.getElem?_eq_none (by omega)]; rfl
theorem split_at (cs : List Value) (o n : Nat) : cs.drop o = (cs.drop o).take n ++ cs.drop (o + n) := by
  rw [← List.drop_drop, List.take_append_drop]
theorem open_leaf {fuel : Nat} {cs : List Value} {x : DataW H × List MemPlace} (h : DataW.trod enc Tryd.prog W 0 sp held fuel 76 cs = some x) : ∃ r : LeafD, cs = r.cells ∧ r.path.length ≤ maxLen ∧ r.id.length = 32 := by
  obtain ⟨xs, k, rfl, _, hlen, hxs, hf⟩ := DataW.trod_struct Tryd.underlying76 h
  have k76 : Tryd.prog.cellsOf 76 = 33 := by kernel_rfl
  have k9 : Tryd.prog.cellsOf 9 = 1 := by kernel_rfl
  have k26 : Tryd.prog.cellsOf 26 = 32 := by kernel_rfl
  have hxs : xs.length = 2 := hxs
  have g0 : DataW.trod enc Tryd.prog W 0 sp held k 9 ((cs.drop 0).take (Tryd.prog.cellsOf 9)) = _ := hf 0 _ rfl
  have g1 : DataW.trod enc Tryd.prog W 0 sp held k 26 ((cs.drop 1).take (Tryd.prog.cellsOf 26)) = _ := hf 1 _ rfl
  rw [k9, List.getElem?_eq_getElem (by omega)] at g0
  rw [k26, List.getElem?_eq_getElem (by omega)] at g1
  obtain ⟨s, e0, h0⟩ := open_str g0
  obtain ⟨l, e1, h1⟩ := open_id g1
  rw [k76] at hlen
  refine ⟨⟨s, l⟩, ?_, h0, h1⟩
  have e : cs = cs.drop 0 := rfl
  rw [e, split_at cs 0 1, e0, split_at cs (0 + 1) 32, e1, List.drop_eq_nil_of_le (by omega), List.append_nil]
  rfl
theorem open_chg {fuel : Nat} {cs : List Value} {x : DataW H × List MemPlace} (h : DataW.trod enc Tryd.prog W 0 sp held fuel 82 cs = some x) : ∃ r : ChgD, cs = r.cells ∧ r.path.length ≤ maxLen ∧ r.text.length ≤ maxLen := by
  obtain ⟨xs, k, rfl, _, hlen, hxs, hf⟩ := DataW.trod_struct Tryd.underlying82 h
  have k82 : Tryd.prog.cellsOf 82 = 3 := by kernel_rfl
  have k9 : Tryd.prog.cellsOf 9 = 1 := by kernel_rfl
  have k4 : Tryd.prog.cellsOf 4 = 1 := by kernel_rfl
  have hxs : xs.length = 3 := hxs
  have g0 : DataW.trod enc Tryd.prog W 0 sp held k 9 ((cs.drop 0).take (Tryd.prog.cellsOf 9)) = _ := hf 0 _ rfl
  have g1 : DataW.trod enc Tryd.prog W 0 sp held k 4 ((cs.drop 1).take (Tryd.prog.cellsOf 4)) = _ := hf 1 _ rfl
  have g2 : DataW.trod enc Tryd.prog W 0 sp held k 9 ((cs.drop 2).take (Tryd.prog.cellsOf 9)) = _ := hf 2 _ rfl
  rw [k9, List.getElem?_eq_getElem (by omega)] at g0 g2
  rw [k4, List.getElem?_eq_getElem (by omega)] at g1
  obtain ⟨s, e0, h0⟩ := open_str g0
  obtain ⟨b, e1, _⟩ := DataW.trod_bool Tryd.underlying4 g1
  obtain ⟨t, e2, h2⟩ := open_str g2
  rw [k82] at hlen
  refine ⟨⟨s, b, t⟩, ?_, h0, h2⟩
  have e : cs = cs.drop 0 := rfl
  rw [e, split_at cs 0 1, e0, split_at cs (0 + 1) 1, e1, split_at cs (0 + 1 + 1) 1, e2, List.drop_eq_nil_of_le (by omega), List.append_nil]
  rfl
theorem open_row {fuel : Nat} {cs : List Value} {x : DataW H × List MemPlace} (h : DataW.trod enc Tryd.prog W 0 sp held fuel 78 cs = some x) : ∃ r : RowD, cs = r.cells ∧ r.path.length ≤ maxLen ∧ r.text.length ≤ maxLen := by
  obtain ⟨xs, k, rfl, _, hlen, hxs, hf⟩ := DataW.trod_struct Tryd.underlying78 h
  have k78 : Tryd.prog.cellsOf 78 = 2 := by kernel_rfl
  have k9 : Tryd.prog.cellsOf 9 = 1 := by kernel_rfl
  have hxs : xs.length = 2 := hxs
  have g0 : DataW.trod enc Tryd.prog W 0 sp held k 9 ((cs.drop 0).take (Tryd.prog.cellsOf 9)) = _ := hf 0 _ rfl
  have g1 : DataW.trod enc Tryd.prog W 0 sp held k 9 ((cs.drop 1).take (Tryd.prog.cellsOf 9)) = _ := hf 1 _ rfl
  rw [k9, List.getElem?_eq_getElem (by omega)] at g0 g1
  obtain ⟨s, e0, h0⟩ := open_str g0
  obtain ⟨t, e1, h1⟩ := open_str g1
  rw [k78] at hlen
  refine ⟨⟨s, t⟩, ?_, h0, h1⟩
  have e : cs = cs.drop 0 := rfl
  rw [e, split_at cs 0 1, e0, split_at cs (0 + 1) 1, e1, List.drop_eq_nil_of_le (by omega), List.append_nil]
  rfl
theorem open_u32 {fuel : Nat} {cs : List Value} {x : DataW H × List MemPlace} (h : DataW.trod enc Tryd.prog W 0 sp held fuel 31 cs = some x) : ∃ n : Nat, cs = [.int .u32 (n : Int)] ∧ n < 2 ^ 32 := by
  obtain ⟨n, rfl, _, hw⟩ := DataW.trod_int Tryd.underlying31 h
  have hw : 0 ≤ n ∧ n ≤ 4294967295 := by simpa [Lit.wf, IntKind.min, IntKind.max, IntKind.signed, IntKind.bits] using hw
  exact ⟨n.toNat, by rw [Int.toNat_of_nonneg hw.1], by omega⟩
/-- an object that the statement reads -/
theorem open_obj {fuel : Nat} {cs : List Value} {x : DataW H × List MemPlace} (h : DataW.trod enc Tryd.prog W 0 sp held fuel 33 cs = some x) : ∃ (o : ObjD) (a : ObjP), cs = objC o a ∧ ObjArg W o a := by
  obtain ⟨xs, k, rfl, _, hlen, hxs, hf⟩ := DataW.trod_struct Tryd.underlying33 h
  have k33 : Tryd.prog.cellsOf 33 = 73 := by kernel_rfl
  have k3 : Tryd.prog.cellsOf 3 = 1 := by kernel_rfl
  have k9 : Tryd.prog.cellsOf 9 = 1 := by kernel_rfl
  have k24 : Tryd.prog.cellsOf 24 = 1 := by kernel_rfl
  have k27 : Tryd.prog.cellsOf 27 = 1 := by kernel_rfl
  have k26 : Tryd.prog.cellsOf 26 = 32 := by kernel_rfl
  have k30 : Tryd.prog.cellsOf 30 = 1 := by kernel_rfl
  have k28 : Tryd.prog.cellsOf 28 = 1 := by kernel_rfl
  have k31 : Tryd.prog.cellsOf 31 = 1 := by kernel_rfl
  have hxs : xs.length = 11 := hxs
  have g0 : DataW.trod enc Tryd.prog W 0 sp held k 3 ((cs.drop 0).take (Tryd.prog.cellsOf 3)) = _ := hf 0 _ rfl
  have g1 : DataW.trod enc Tryd.prog W 0 sp held k 9 ((cs.drop 1).take (Tryd.prog.cellsOf 9)) = _ := hf 1 _ rfl
  have g2 : DataW.trod enc Tryd.prog W 0 sp held k 24 ((cs.drop 2).take (Tryd.prog.cellsOf 24)) = _ := hf 2 _ rfl
  have g3 : DataW.trod enc Tryd.prog W 0 sp held k 3 ((cs.drop 3).take (Tryd.prog.cellsOf 3)) = _ := hf 3 _ rfl
  have g4 : DataW.trod enc Tryd.prog W 0 sp held k 26 ((cs.drop 4).take (Tryd.prog.cellsOf 26)) = _ := hf 4 _ rfl
  have g5 : DataW.trod enc Tryd.prog W 0 sp held k 26 ((cs.drop 36).take (Tryd.prog.cellsOf 26)) = _ := hf 5 _ rfl
  have g6 : DataW.trod enc Tryd.prog W 0 sp held k 27 ((cs.drop 68).take (Tryd.prog.cellsOf 27)) = _ := hf 6 _ rfl
  have g7 : DataW.trod enc Tryd.prog W 0 sp held k 30 ((cs.drop 69).take (Tryd.prog.cellsOf 30)) = _ := hf 7 _ rfl
  have g8 : DataW.trod enc Tryd.prog W 0 sp held k 31 ((cs.drop 70).take (Tryd.prog.cellsOf 31)) = _ := hf 8 _ rfl
  have g9 : DataW.trod enc Tryd.prog W 0 sp held k 31 ((cs.drop 71).take (Tryd.prog.cellsOf 31)) = _ := hf 9 _ rfl
  have g10 : DataW.trod enc Tryd.prog W 0 sp held k 9 ((cs.drop 72).take (Tryd.prog.cellsOf 9)) = _ := hf 10 _ rfl
  rw [k3, List.getElem?_eq_getElem (by omega)] at g0 g3
  rw [k9, List.getElem?_eq_getElem (by omega)] at g1 g10
  rw [k24, List.getElem?_eq_getElem (by omega)] at g2
  rw [k26, List.getElem?_eq_getElem (by omega)] at g4 g5
  rw [k27, List.getElem?_eq_getElem (by omega)] at g6
  rw [k30, List.getElem?_eq_getElem (by omega)] at g7
  rw [k31, List.getElem?_eq_getElem (by omega)] at g8 g9
  obtain ⟨kind, e0, _, _⟩ := DataW.trod_int Tryd.underlying3 g0
  obtain ⟨tx, e1, _⟩ := open_str g1
  obtain ⟨lp, ll, lc, e2, hlc, _, hls, hli, _⟩ := open_list (cells := LeafD.cells) (ok := fun r => r.path.length ≤ maxLen ∧ r.id.length = 32) Tryd.underlying24 (by kernel_rfl : Tryd.prog.cellsOf 76 = 33) (by decide) (fun h => open_leaf h) g2
  obtain ⟨st, e3, _, _⟩ := DataW.trod_int Tryd.underlying3 g3
  obtain ⟨tree, e4, ht⟩ := open_id g4
  obtain ⟨base, e5, hb⟩ := open_id g5
  obtain ⟨pp, pl, pc, e6, hpc, _, hps, hpi, _⟩ := open_list (cells := bytesU) (ok := fun r => r.length = 32) Tryd.underlying27 k26 (by decide) (fun h => open_id h) g6
  obtain ⟨xs2, k2, _, _, hlen2, hxs2, hf2⟩ := DataW.trod_struct Tryd.underlying30 g7
  have hxs2 : xs2.length = 1 := hxs2
  have g7' : DataW.trod enc Tryd.prog W 0 sp held k2 28 (((((cs.drop 69).take 1)).drop 0).take (Tryd.prog.cellsOf 28)) = _ := hf2 0 _ rfl
  rw [k28, List.getElem?_eq_getElem (by omega)] at g7'
  obtain ⟨rp, rl, rc, e7, hrc, _, hrs, hri, _⟩ := open_list (cells := ChgD.cells) (ok := fun r => r.path.length ≤ maxLen ∧ r.text.length ≤ maxLen) Tryd.underlying28 (by kernel_rfl : Tryd.prog.cellsOf 82 = 3) (by decide) (fun h => open_chg h) g7'
  have e7 : (cs.drop 69).take 1 = [.slice rp rl.length rc] := by rw [← e7, List.drop_zero, List.take_take]; rfl
  obtain ⟨nu, e8, h8⟩ := open_u32 g8
  obtain ⟨au, e9, h9⟩ := open_u32 g9
  obtain ⟨no, e10, _⟩ := open_str g10
  rw [k33] at hlen
  refine ⟨⟨kind, tx, ll, st, tree, base, pl, rl, nu, au, no⟩, ⟨lp, lc, pp, pc, rp, rc⟩, ?_, ⟨⟨ht, hb, hpi, hli, hri, h8, h9⟩, ⟨hls, hps, hrs⟩, ⟨hlc, hpc, hrc⟩⟩⟩
  have e : cs = cs.drop 0 := rfl
  rw [e, split_at cs 0 1, e0, split_at cs (0 + 1) 1, e1, split_at cs (0 + 1 + 1) 1, e2, split_at cs (0 + 1 + 1 + 1) 1, e3, split_at cs (0 + 1 + 1 + 1 + 1) 32, e4, split_at cs (0 + 1 + 1 + 1 + 1 + 32) 32, e5,
    split_at cs (0 + 1 + 1 + 1 + 1 + 32 + 32) 1, e6, split_at cs (0 + 1 + 1 + 1 + 1 + 32 + 32 + 1) 1, e7, split_at cs (0 + 1 + 1 + 1 + 1 + 32 + 32 + 1 + 1) 1, e8, split_at cs (0 + 1 + 1 + 1 + 1 + 32 + 32 + 1 + 1 + 1) 1, e9,
    split_at cs (0 + 1 + 1 + 1 + 1 + 32 + 32 + 1 + 1 + 1 + 1) 1, e10, List.drop_eq_nil_of_le (by omega), List.append_nil]
  rfl
end
end Go.Proofs.YtjghckniloikgaaDoor
namespace Go.Proofs.YtjghckniloikgaaDoor
open Go.Vc Go.ChangeShapes Go.WideShapes Go.ChangeAt Go.RowKit

theorem own : ownKnob Tryd.prog.godebug = none := by kernel_rfl
theorem gRoots : Tryd.prog.globalNamed "confluence/sha.roots" = some 0 := by kernel_rfl
abbrev laidR : List (String × DataW Unit) := [("confluence/sha.roots", Rows.laid_confluence_sha_roots)]
theorem roots_data {H : Type} : (Rows.laid_confluence_sha_roots : DataW H) = Lib.tabData .u32 (rootsW.map fun x => (x.toNat : Int)) := rfl
theorem roots_of {W : World} (h : laidMetH Tryd.prog laidR W) : Seg W 0 0 (wordsV rootsW) := by
  rw [MakeChecks.laidMetH_plain _ _ _ (by kernel_rfl)] at h
  have h : laidMet Tryd.prog [("confluence/sha.roots", Lib.tabData .u32 (rootsW.map fun x => (x.toNat : Int)))] W := h
  have ht := Lib.tabIs_of_head gRoots (t := 148) (e := 31) (n := 64) (by kernel_rfl) (by kernel_rfl) (by kernel_rfl) (by kernel_rfl) (by kernel_rfl) h
  intro i v hi
  have hlt : i < rootsW.length := by
    have := (List.getElem?_eq_some_iff.1 hi).1
    simpa [wordsV] using this
  have hc := ht.cell gRoots i (by rw [List.length_map]; exact hlt)
  rw [Nat.zero_add, hc, ← hi, wordsV_get rootsW hlt]
  rw [List.getD_eq_getElem?_getD, List.getElem?_map, List.getElem?_eq_getElem hlt]
  rfl
end Go.Proofs.YtjghckniloikgaaDoor
namespace Go.Proofs.YtjghckniloikgaaDoor
open Go.Vc Go.ChangeShapes Go.WideShapes Go.ChangeAt Go.RowKit Go

theorem door_met (os : Os) (args : Array Value) : laidMetH Tryd.prog laidR ((World.doorLaid Tryd.prog 400 os).forCall (fun _ _ => 0) ⟨#[], args, []⟩).memory :=
  laidMetH_of_parts3 (fuel := 70) (laidMet_of_run' 70 (by kernel_rfl) (by kernel_rfl)) (by kernel_rfl) (by kernel_rfl)

set_option maxRecDepth 100000 in
theorem same_lifted (os : Os) (started : os.Started) (H : Type) (enc : TypeId × Value → H) :
    ReturnsInHanded {} Tryd.checked os 6 .any (fun w args => (Rows.objectSameSpec.pre enc Tryd.prog Tryd.f6 [] false w args ∧ laidMetH Tryd.prog laidR w) ∧ sizedMet enc Tryd.prog Tryd.f6 (OpenSpec.ofChange Rows.objectSameSpec) false w args)
      (Rows.objectSameSpec.post enc Tryd.prog Tryd.f6 false true false false) := by
  refine returnsInHanded_of_change_and (C := Tryd.checked) (X := fun w _ => laidMetH Tryd.prog laidR w) (fun _ _ _ hh h => h.of_heap hh) own started (by kernel_rfl) Tryd.func6
    (ChangeSpec.witness_shaped (enc := enc) (C := Tryd.checked) (os := os) (X := fun w _ => laidMetH Tryd.prog laidR w) false (World.doorLaid Tryd.prog 400 os) #[ti33.zero, ti33.zero] 40 rfl (World.shaped_of_RefB (by kernel_rfl) (by kernel_rfl)) (by kernel_rfl) (by kernel_rfl) (by kernel_rfl) (door_met os _)) ?_
  intro W base args ds gs before hval0 hW _ _ hL _
  have hval : ∀ (j : Nat) t v, Tryd.f6.params[j]? = some t → args[j]? = some v → Value.okWide Tryd.prog W .any base t v := hval0
  have hW' := hW
  obtain ⟨p, q, hA0, hV, rfl, hfz, hnd⟩ := hW
  have hA : DataW.TrodAll enc Tryd.prog W 0 (fun _ => true) true Tryd.f6.params.toList args.toList ds p := hA0
  rw [Tryd.params6] at hA hval
  obtain ⟨v0, vs0, d0, ds0, p0, q0, hargs, rfl, rfl, h0, r0⟩ := trodAll_cons hA
  obtain ⟨v1, vs1, d1, ds1, p1, q1, rfl, rfl, rfl, h1, r1⟩ := trodAll_cons r0
  obtain ⟨rfl, rfl, rfl⟩ := trodAll_nil r1
  obtain rfl : args = #[v0, v1] := by cases args; simp_all
  obtain ⟨rfl, rfl⟩ := trodVars_none hV
  have w0 := hval 0 33 v0 rfl rfl
  have w1 := hval 1 33 v1 rfl rfl
  obtain ⟨c0, rfl, _⟩ := okWide_struct Tryd.underlying33 w0
  obtain ⟨c1, rfl, _⟩ := okWide_struct Tryd.underlying33 w1
  obtain ⟨k0, h0⟩ := h0
  obtain ⟨k1, h1⟩ := h1
  obtain ⟨x, a, e0, hx⟩ := open_obj h0
  obtain ⟨y, b, e1, hy⟩ := open_obj h1
  obtain rfl : c0 = (objC x a).toArray := by rw [← e0]; rfl
  obtain rfl : c1 = (objC y b).toArray := by rw [← e1]; rfl
  clear hA0 hval0
  simp only [List.append_nil] at hW'
  refine Calls.mono (objectSame_calls W hx hy (roots_of hL)) fun e W' he => ?_
  cases e with
  | returned v =>
    obtain ⟨rfl, hE⟩ : v = .bool true ∧ Ext No W W' := he
    refine ⟨_, rfl, post_true (by kernel_rfl) (by kernel_rfl) (by kernel_rfl) hW' rfl (by kernel_rfl) (by kernel_rfl) Tryd.underlying4 rfl rfl rfl hE⟩
  | panicked _ => exact he.elim
  | outgrown => exact he.elim
theorem same_row : Rows.ObjectSameSaid :=
  OpenClaim.holds_of_wide 6 Tryd.f6 rfl rfl rfl rfl rfl rfl rfl ⟨rfl, rfl, rfl, rfl, rfl⟩ rfl rfl rfl rfl rfl (by kernel_rfl) Tryd.func6 (by kernel_rfl)
    (of_decide_eq_true (by kernel_rfl)) (by unfold Func.isWrapper; first | (rw [if_pos (by decide +kernel)]; kernel_rfl) | (rw [if_neg (by decide +kernel)]; exact ⟨rfl, rfl⟩))
    (fun os started H enc _ => same_lifted os started H enc)
theorem same_holds : Rows.ObjectSameCardSaid :=
  Claim7.holds_tied_plain_at .later [] [.data] true Rows.objectSameCard.stood.harness false
    same_row (fun _ h => by cases h) (by kernel_rfl) (fun _ h => by cases h) objectSame_row_tie rfl ⟨rfl, rfl⟩ (by kernel_rfl) rfl
    (fun f fn hf hfn => by
      obtain rfl : f = 6 := Option.some.inj ((show Tryd.prog.funcNamed "confluence/confluencelaw06.ObjectSame" = some 6 by kernel_rfl).symm.trans hf) |>.symm
      obtain rfl : fn = Tryd.f6 := (Option.some.inj (Tryd.func6.symm.trans hfn)).symm
      exact ⟨by kernel_rfl, fun j t ht => by
        rw [Tryd.params6] at ht
        have hm : t ∈ [33] := by have := Array.mem_of_getElem? ht; simpa using this
        have hall : ([33].all fun u => !Tryd.prog.wantsStandIn u) = true := by kernel_rfl
        exact (show Tryd.prog.wantsStandIn t = false by simpa using List.all_eq_true.1 hall t hm)⟩)
    (by kernel_rfl)
end Go.Proofs.YtjghckniloikgaaDoor
