/-
  WalMakes: which disks are formatted, what stands on them then, and which error is told; how many sectors pieces have; what is too long.
-/
import Derived.Test.YtlfdlodcjiaiiaaDoorTie
import Derived.Test.YtlfdlodcjiaiiaaDoorCards
import Derived.SevenTiedAt
import Derived.Test.YtlfdlodcjiaiiaaDoorSamD
namespace Go.Proofs.YtlfdlodcjiaiiaaDoor
open Go.Vc
structure DeedD where
  kind : Int
  num : Int
  byte : UInt8
  p : Option Addr
  keep : List Bool
  c : Nat
def DeedD.cells (o : DeedD) : List Value := [.int .i64 o.kind, .int .i64 o.num, byteV o.byte, .slice o.p o.keep.length o.c]
abbrev DeedD.v (o : DeedD) : Value := .agg o.cells.toArray
def u64N (i : Int) : Nat := (IntKind.u64.wrap i).toNat
def whichD (o : DeedD) : Nat := u64N o.kind % 7 - 2
def lenD (o : DeedD) : Nat := u64N o.num % 400
def bytesD (o : DeedD) : Bytes := (List.range (lenD o)).map fun i => o.byte ^^^ UInt8.ofNat (i + i / 7)
theorem bytesD_len (o : DeedD) : (bytesD o).length = lenD o := by simp [bytesD]
theorem lenD_lt (o : DeedD) : lenD o < 400 := Nat.mod_lt _ (by decide)
theorem u64N_eq (i : Int) : IntKind.u64.wrap i = (u64N i : Int) := by
  have h : 0 ≤ IntKind.u64.wrap i := by rw [IntKind.wrap_u64]; omega
  unfold u64N
  omega
theorem u64_mod (i : Int) (k : Nat) (hk : 0 < k) (hk2 : k < 1000000) : IntKind.i64.wrap ((IntKind.u64.wrap i).tmod (k : Int)) = ((u64N i % k : Nat) : Int) := by
  rw [u64N_eq, Int.tmod_eq_emod_of_nonneg (Int.natCast_nonneg _), ← Int.natCast_emod]
  have := Nat.mod_lt (u64N i) hk
  exact IntWalk.i64_in _ (by omega)
def byteD (o : DeedD) (i : Nat) : UInt8 := o.byte ^^^ UInt8.ofNat (i + i / 7)
theorem byte_at (o : DeedD) (i : Nat) : bitI .xor .u8 (o.byte.toNat : Int) (IntKind.u8.wrap ((i + i / 7 : Nat) : Int)) = ((byteD o i).toNat : Int) := by
  have e1 : IntKind.u8.wrap ((i + i / 7 : Nat) : Int) = ((UInt8.ofNat (i + i / 7)).toNat : Int) := by
    rw [IntKind.wrap_u8, UInt8.toNat_ofNat']
    omega
  rw [e1]
  unfold byteD
  generalize UInt8.ofNat (i + i / 7) = y
  generalize o.byte = x
  show IntKind.u8.wrap ((BitVec.ofInt 8 (x.toNat : Int) ^^^ BitVec.ofInt 8 (y.toNat : Int)).toNat : Int) = _
  have e2 : ∀ z : UInt8, BitVec.ofInt 8 (z.toNat : Int) = z.toBitVec := fun z => by
    apply BitVec.eq_of_toNat_eq
    rw [BitVec.toNat_ofInt]
    have := z.toNat_lt
    show _ = z.toNat
    omega
  rw [e2, e2, ← UInt8.toBitVec_xor]
  have := (x ^^^ y).toNat_lt
  rw [IntKind.wrap_u8]
  show (((x ^^^ y).toNat : Int)) % 256 = _
  omega
def fillD (o : DeedD) (i : Nat) : Bytes := (List.range (lenD o)).map fun j => if j < i then byteD o j else 0
theorem fillD_len (o : DeedD) (i : Nat) : (fillD o i).length = lenD o := by simp [fillD]
theorem fillD_zero (o : DeedD) : fillD o 0 = List.replicate (lenD o) 0 := by
  apply List.ext_getElem
  · simp [fillD]
  · intro i h1 h2; simp [fillD]
theorem fillD_all (o : DeedD) : fillD o (lenD o) = bytesD o := by
  apply List.ext_getElem
  · simp [fillD, bytesD]
  · intro i h1 h2
    rw [fillD_len] at h1
    simp [fillD, bytesD, h1, byteD]
theorem fillD_set (o : DeedD) {i : Nat} (_hi : i < lenD o) : (bytesU (fillD o i)).set i (byteV (byteD o i)) = bytesU (fillD o (i + 1)) := by
  rw [bytesU, ← List.map_set, bytesU]
  congr 1
  apply List.ext_getElem
  · simp [fillD]
  · intro j h1 h2
    rw [List.getElem_set]
    simp only [fillD, List.getElem_map, List.getElem_range]
    by_cases h : i = j
    · subst h; simp
    · rw [if_neg h]
      by_cases h3 : j < i
      · rw [if_pos h3, if_pos (by omega)]
      · rw [if_neg h3, if_neg (by omega)]
theorem which_calls (w : World) (o : DeedD) :
    CallsV Tryd.prog 12 [o.v] w fun v w' => v = .int .i64 (whichD o : Int) ∧ Ext No w w' := by
  refine calls_enter Tryd.func12 rfl rfl rfl rfl ?_
  have hX := Ext.refl No w
  refine c_seq (c_region (wl (st_al I_ok rfl fun b1 w1 hn1 hb1 hE1 => ?_)))
  have fr1 := Nat.le_trans hX.size hn1
  have hX := hX.thenNo hE1
  have hb1 : Blk w1 b1 36 (o.cells) := hb1
  refine wl_p I_ok rfl (wl_nil (f_then (c_seq (c_region (wl_p I_ok rfl (wl (st_ld I_ok rfl (hb1.cell rfl) (wl_p I_ok rfl ?_))))))))
  have h7 := Nat.mod_lt (u64N o.kind) (by decide : 0 < 7)
  rw [show IntKind.i64.wrap ((IntKind.u64.wrap o.kind).tmod 7) = ((u64N o.kind % 7 : Nat) : Int) from u64_mod o.kind 7 (by decide) (by decide)]
  refine wl_p I_ok rfl ?_
  rw [IntWalk.i64_in _ (by omega)]
  refine wl_nil (f_then (c_ret (f_ret1 rfl rfl (⟨?_, hX⟩))))
  unfold whichD
  split
  · rw [show u64N o.kind % 7 - 2 = 0 from by omega]; rfl
  · rw [show ((u64N o.kind % 7 - 2 : Nat) : Int) = ((u64N o.kind % 7 : Nat) : Int) - 2 from by omega]

theorem dbytes_calls (w : World) (o : DeedD) :
    CallsV Tryd.prog 13 [o.v] w fun v w' => ∃ q c, v = .slice q (bytesD o).length c ∧ Own w' q (bytesD o).length c 5 1 (bytesU (bytesD o)) ∧ (∀ y, OwnB q y → w.heap.size ≤ y) ∧ Ext No w w' := by
  refine calls_enter Tryd.func13 rfl rfl rfl rfl ?_
  have hX := Ext.refl No w
  refine c_seq (c_region (wl (st_al I_ok rfl fun b1 w1 hn1 hb1 hE1 => ?_)))
  have fr1 := Nat.le_trans hX.size hn1
  have hX := hX.thenNo hE1
  have hb1 : Blk w1 b1 36 (o.cells) := hb1
  refine wl_p I_ok rfl (wl_nil (f_then (c_seq (c_region (wl_p I_ok rfl (wl (st_ld I_ok rfl (hb1.cell rfl) (wl_p I_ok rfl ?_))))))))
  have h4 := lenD_lt o
  rw [show (IntKind.u64.wrap o.num).tmod 400 = (lenD o : Int) from by rw [u64N_eq, Int.tmod_eq_emod_of_nonneg (Int.natCast_nonneg _)]; rfl]
  refine wl (st_mk I_ok rfl (lenD o) (lenD o) 1 rfl rfl rfl (by decide) rfl rfl (by omega) (by omega) (by dsimp only [maxLen]; omega) fun b9 w2 hn9 hb9 hE2 hs2 => ?_)
  have ne1_9 : b1 ≠ b9 := Nat.ne_of_lt (Nat.lt_of_lt_of_le hb1.lt hn9)
  have fr9 := Nat.le_trans hX.size hn9
  have hb1 := hb1.extNo hE2
  have hX := hX.thenNo hE2
  have hb9 : Blk w2 b9 5 (bytesU (fillD o 0)) := by (rw [fillD_zero, ← rep_bytes]; exact hb9)
  refine wl_p I_ok rfl (wl_nil (f_then (c_seq (c_seq (c_region (wl_p I_ok rfl (wl_nil (f_then (c_block ?_)))))))))
  refine c_loopK (α := Nat) [1, 3, 11] rfl (fun z => [(12, .int .i64 (z : Int))]) (fun z u => (z ≤ lenD o) ∧ Blk u b1 36 (o.cells) ∧ Blk u b9 5 (bytesU (fillD o z)) ∧ Ext No w u) (fun z u => lenD o - z) (0) rfl ⟨Nat.zero_le _, hb1, hb9, hX⟩ ?_
  rintro i w3 ⟨hi, hb1, hb9, hX⟩
  refine c_seq (c_region (wl_p I_ok rfl (wl_nil (f_then (c_seq (c_if rfl (fun hc => ?_) (fun hc => ?_)))))))
  · have hil : i < lenD o := by omega
    refine c_skip (f_then (c_seq (c_block (c_seq (c_region (wl_p I_ok rfl (wl_nil (f_then (c_region (wl_p I_ok rfl (wl (st_ld I_ok rfl (hb1.cell rfl) (wl_p I_ok rfl ?_)))))))))))))
    rw [show IntKind.i64.wrap ((i : Int).tdiv 7) = ((i / 7 : Nat) : Int) from by rw [Int.tdiv_eq_ediv_of_nonneg (Int.natCast_nonneg _), IntWalk.i64_in _ (by omega)]; omega]
    refine wl_p I_ok rfl ?_
    rw [show IntKind.i64.wrap ((i : Int) + ((i / 7 : Nat) : Int)) = ((i + i / 7 : Nat) : Int) from by rw [IntWalk.i64_in _ (by omega)]; omega]
    refine wl_p I_ok rfl ?_
    rw [byte_at o i]
    refine wl (st_ix I_ok rfl 1 rfl i rfl hil (0 + i * 1) rfl (wl (st_set I_ok hb9 rfl rfl (by rw [bytesU_len, fillD_len]; omega) fun w4 hb9 hE4 hs4 => ?_)))
    have hb1 := hb1.ext1 hE4 ne1_9
    have hX := hX.thenNew hE4 fr9
    have hb9 : Blk w4 b9 5 (bytesU (fillD o (i + 1))) := by (have e := hb9; rw [show 0 + i * 1 = i from by omega, fillD_set o hil] at e; exact e)
    refine wl_nil (f_blockN (f_then (c_region (wl_p I_ok rfl ?_))))
    rw [IntWalk.i64_in _ (by omega)]
    refine wl_nil ?_
    exact f_round (i + 1) rfl ⟨by omega, hb1, hb9, hX⟩ (by first | omega | (dsimp only; omega))
  · have hil : i = lenD o := by omega
    subst hil
    refine c_exit (f_thenE (f_thenE (f_blockE (f_then (c_seq (c_region (wl_p I_ok rfl (wl_nil (f_then (c_ret (f_ret1 rfl rfl (⟨_, (bytesD o).length, by rw [bytesD_len], ?_, fun y hy => by cases hy; exact fr9, hX⟩))))))))))))
    have e := Own.blk (n := lenD o) (c := lenD o) hb9 1 (by rw [bytesU_len, fillD_len, Nat.mul_one]) (Nat.le_refl _) (by dsimp only [maxLen]; omega)
    rw [List.take_of_length_le (by rw [bytesU_len, fillD_len]; omega), fillD_all, ← bytesD_len] at e
    exact e
end Go.Proofs.YtlfdlodcjiaiiaaDoor
namespace Go.Proofs.YtlfdlodcjiaiiaaDoor
open Go.Vc
theorem sectN_find {n k : Nat} (hn : n ≤ 40000) (h1 : 48 * (k - 1) < n + 4) (h2 : n + 4 ≤ 48 * k) (hk : 1 ≤ k) : k = sectN n := by
  rw [sectN, if_neg (by omega)]
  omega
theorem refSectors_calls (w : World) (n : Int) :
    CallsV Tryd.prog 35 [.int .i64 n] w fun v w' => v = .int .i64 (sectZ n) ∧ Ext No w w' := by
  refine calls_enter Tryd.func35 rfl rfl rfl rfl ?_
  have hX := Ext.refl No w
  refine c_seq (c_region (wl_p I_ok rfl (wl_nil (f_then (c_seq (c_cutK (α := Bool) [0] rfl (fun z => [(9, .bool z)]) (fun z u => u = w ∧ z = decide (n < 0 ∨ 40000 < n)) ?_ ?_))))))
  · refine c_region ?_
    refine wl_p I_ok rfl (wl_caseD 6 rfl (fun hg => ?_) (fun hg => ?_))
    · refine wl_pk I_ok 3 rfl ?_
      refine wl_nil ?_
      exact f_cut (true) rfl ⟨rfl, by simp [hg]⟩
    · refine wl_pk I_ok 3 rfl ?_
      refine wl_nil ?_
      exact f_cut (_) rfl ⟨rfl, by simp [hg]⟩
  rintro z w1 ⟨hu, rfl⟩
  have hu := hu.symm
  subst hu
  refine c_if rfl (fun hc => ?_) (fun hc => ?_)
  · have e1 : sectZ n = 0 := if_pos hc
    rw [e1]
    refine c_seq (c_region (wl_p I_ok rfl (wl_nil (f_then (c_ret (f_thenR (f_ret1 rfl rfl ?_)))))))
    exact ⟨rfl, hX⟩
  · obtain ⟨m, rfl⟩ : ∃ m : Nat, n = (m : Int) := ⟨n.toNat, by omega⟩
    rw [sectZ_nat]
    have hm : m ≤ 40000 := by omega
    refine c_skip (f_then (c_seq (c_region (wl_p I_ok rfl (wl_nil (f_then (c_seq (c_block ?_))))))))
    refine c_loopK (α := Nat) [0] rfl (fun z => [(3, .int .i64 (z : Int))]) (fun z u => (1 ≤ z ∧ 48 * (z - 1) < m + 4) ∧ Ext No w u) (fun z u => m + 4 - z) (1) rfl ⟨⟨Nat.le_refl _, by omega⟩, hX⟩ ?_
    rintro k w2 ⟨⟨hk1, hk⟩, hX⟩
    refine c_seq (c_seq (c_region (wl_p I_ok rfl ?_)))
    rw [IntWalk.i64_in _ (by omega)]
    rw [IntWalk.i64_in _ (by omega)]
    refine wl_nil (f_then (c_if rfl (fun hc => ?_) (fun hc => ?_)))
    · refine c_skip ?_
      refine f_then (c_block (c_region (wl_p I_ok rfl ?_)))
      rw [IntWalk.i64_in _ (by omega)]
      refine wl_nil ?_
      exact f_blockN (f_round (k + 1) rfl ⟨⟨by omega, by omega⟩, hX⟩ (by first | omega | (dsimp only; omega)))
    · have hks : k = sectN m := sectN_find hm hk (by omega) hk1
      refine c_exit (f_thenE (f_thenE (f_blockE (f_then (c_seq (c_region (wl_p I_ok rfl (wl_nil (f_then (c_ret (f_ret1 rfl rfl ?_)))))))))))
      exact ⟨by rw [hks], hX⟩

theorem refFits_calls (w : World) (n : Int) (S : Nat) (_hS : S < 1000000) :
    CallsV Tryd.prog 66 [.int .i64 n, .int .i64 (S : Int)] w fun v w' => v = .bool (decide (0 ≤ n ∧ FitsB n.toNat S)) ∧ Ext No w w' := by
  refine calls_enter Tryd.func66 rfl rfl rfl rfl ?_
  have hX := Ext.refl No w
  refine c_seq (c_region (wl_p I_ok rfl (wl_nil (f_then (c_cutK (α := Bool) [] rfl (fun z => [(4, .bool z)]) (fun z u => (z = decide (0 ≤ n ∧ FitsB n.toNat S)) ∧ Ext No w u) ?_ ?_)))))
  · refine c_region ?_
    refine wl_p I_ok rfl (wl_caseD 7 rfl (fun hg => ?_) (fun hg => ?_))
    · refine wl_pk I_ok 4 rfl ?_
      refine wl_caseD 11 rfl (fun hg => ?_) (fun hg => ?_)
      · have hg2 := hg
        refine wl_pk I_ok 7 rfl (wl_nil ?_)
        exact f_cut (_) rfl ⟨by rw [IntWalk.i64_in (2 * n) (by omega), IntWalk.i64_in (2 + 2 * n) (by omega), decide_eq_decide]; unfold FitsB; omega, hX⟩
      · refine wl_pk I_ok 7 rfl ?_
        refine wl_nil ?_
        exact f_cut (false) rfl ⟨by symm; rw [decide_eq_false_iff_not]; unfold FitsB; omega, hX⟩
    · refine wl_pk I_ok 11 rfl ?_
      refine wl_nil ?_
      exact f_cut (false) rfl ⟨by symm; rw [decide_eq_false_iff_not]; unfold FitsB; omega, hX⟩
  rintro z w1 ⟨rfl, hX⟩
  refine c_ret (f_ret1 rfl rfl ?_)
  exact ⟨rfl, hX⟩

theorem refFrom_calls (w : World) (t n : Nat) (_ht : t < 4294967296) (hn : n < 1000000) :
    CallsV Tryd.prog 73 [.int .u32 (t : Int), .int .i64 (n : Int)] w fun v w' => v = .int .i64 (areaB t n : Int) ∧ Ext No w w' := by
  refine calls_enter Tryd.func73 rfl rfl rfl rfl ?_
  have hX := Ext.refl No w
  refine c_seq (c_region (wl_p I_ok rfl (wl_nil (f_then (c_seq (c_region (wl_p I_ok rfl (wl_nil (f_then (c_ret (f_ret1 rfl rfl (⟨?_, hX⟩))))))))))))
  have e0 : ((t : Int).tmod 2) = ((t % 2 : Nat) : Int) := by rw [Int.tmod_eq_emod_of_nonneg (Int.natCast_nonneg _)]; omega
  rw [e0, areaB_eq]
  rcases Nat.mod_two_eq_zero_or_one t with h | h
  · rw [h, IntWalk.i64_in ((0 : Nat) : Int) (by omega), show (((0 : Nat) : Int) * (n : Int)) = 0 from by simp, IntWalk.i64_in 0 (by omega), IntWalk.i64_in _ (by omega)]
    simp
  · rw [h, IntWalk.i64_in ((1 : Nat) : Int) (by omega), show (((1 : Nat) : Int) * (n : Int)) = n from by simp, IntWalk.i64_in (n : Int) (by omega), IntWalk.i64_in _ (by omega)]
    simp

theorem refSealed_calls (w : World) {p : Option Addr} {c : Nat} {l : Bytes} (h : SlB w p l) (hl : l.length ≤ 60) :
    CallsV Tryd.prog 93 [.slice p l.length c] w fun v w' => v = numB (sealB l) ∧ Ext No w w' := by
  refine calls_enter Tryd.func93 rfl rfl rfl rfl ?_
  have hX := Ext.refl No w
  have hsl := h
  obtain ⟨R, hR⟩ : ∃ R, R = l ++ List.replicate (60 - l.length) 0 := ⟨_, rfl⟩
  have hRl : R.length = 60 := by rw [hR]; simp; omega
  have hS : sealB l = (sumW R).take 4 ++ R := by rw [hR]; rfl
  refine c_seq (c_region (wl (st_al I_ok rfl fun b2 w1 hn2 hb2 hE1 => ?_)))
  have fr2 := Nat.le_trans hX.size hn2
  have hsl := hsl.extNo hE1
  have hX := hX.thenNo hE1
  have hb2 : Blk w1 b2 90 (bytesU (List.replicate 64 0)) := by (rw [show bytesU (List.replicate 64 0) = cellsOf ti90.zero from zeros_b]; exact hb2)
  refine wl_nil (f_then (c_seq (c_region (wl_p I_ok rfl ?_))))
  rw [IntWalk.i64_in _ (by omega)]
  rw [show (60 : Int) - (l.length : Int) = ((60 - l.length : Nat) : Int) from by omega]
  refine wl (st_mk I_ok rfl (60 - l.length) (60 - l.length) 1 rfl rfl rfl (by decide) rfl rfl (by omega) (by omega) (by dsimp only [maxLen]; omega) fun b9 w2 hn9 hb9 hE2 hs2 => ?_)
  have ne2_9 : b2 ≠ b9 := Nat.ne_of_lt (Nat.lt_of_lt_of_le hb2.lt hn9)
  have fr9 := Nat.le_trans hX.size hn9
  have hb2 := hb2.extNo hE2
  have hsl := hsl.extNo hE2
  have hX := hX.thenNo hE2
  have hb9 : Blk w2 b9 5 (bytesU (List.replicate (60 - l.length) 0)) := by (rw [← rep_bytes]; exact hb9)
  rw [show Value.slice (some ⟨b9, 0, none⟩) (60 - l.length) (60 - l.length) = .slice (some ⟨b9, 0, none⟩) (List.replicate (60 - l.length) (0 : UInt8)).length (60 - l.length) from by rw [List.length_replicate]]
  refine wl (st_call Tryd.call91 rfl rfl rfl rfl rfl rfl (both_calls w2 (m := List.replicate (60 - l.length) 0) hsl hb9.slB (by omega) (by rw [List.length_replicate]; omega)) fun v3 w3 hr3 => ?_)
  obtain ⟨q, k, rfl, hq, hqn, hE3⟩ := hr3
  have hb2 := hb2.extNo hE3
  have hb9 := hb9.extNo hE3
  have hsl := hsl.extNo hE3
  have hX := hX.thenNo hE3
  rw [← hR] at hq ⊢
  refine wl_p I_ok rfl (wl_nil (f_then (c_seq (c_region (wl_p I_ok rfl (wl (st_call Tryd.call102 rfl rfl rfl rfl rfl rfl (refSum_calls w3 hq.sl (by omega)) fun v4 w4 hr4 => ?_)))))))
  obtain ⟨rfl, hE4⟩ := hr4
  have hb2 := hb2.extNo hE4
  have hb9 := hb9.extNo hE4
  have hq := hq.ext hE4 fun _ _ => id
  have hX := hX.thenNo hE4
  have hql := fun y (hy : OwnB q y) => hq.lt hy
  refine wl (st_al I_ok rfl fun b4 w5 hn4 hb4 hE5 => ?_)
  have ne2_4 : b2 ≠ b4 := Nat.ne_of_lt (Nat.lt_of_lt_of_le hb2.lt hn4)
  have ne9_4 : b9 ≠ b4 := Nat.ne_of_lt (Nat.lt_of_lt_of_le hb9.lt hn4)
  have fr4 := Nat.le_trans hX.size hn4
  have hb2 := hb2.extNo hE5
  have hb9 := hb9.extNo hE5
  have hq := hq.ext hE5 fun _ _ => id
  have hX := hX.thenNo hE5
  refine wl (st_stW (l' := bytesU (sumW R)) I_ok hb4 rfl rfl (by rw [bytesU_len, sumW_len]) (by rw [bytesU_len, sumW_len]; rfl) OneC.h fun w6 hb4 hE6 hs6 => ?_)
  have hb2 := hb2.ext1 hE6 ne2_4
  have hb9 := hb9.ext1 hE6 ne9_4
  have hq := hq.ext hE6 fun y hy e => by have e : y = b4 := e; have := hql y hy; omega
  have hX := hX.thenNew hE6 fr4
  have hb4 : Blk w6 b4 144 (bytesU (sumW R)) := hb4
  refine wl_nil (f_then (c_seq (c_region (wl (st_sa I_ok rfl 0 4 32 1 rfl ⟨.inr ⟨rfl, rfl⟩, .inl rfl, .inr ⟨rfl, rfl⟩, by decide, by decide, by decide⟩ ?_)))))
  have h4 : ((sumW R).take 4).length = 4 := by rw [List.length_take, sumW_len]; rfl
  have hs4 : SlB w6 (some ⟨b4, 0, none⟩) ((sumW R).take 4) := ⟨by rw [bytesU_len, Nat.mul_one], .inr ⟨b4, 0, rfl, by have e := hb4.seg.take 4; rwa [bytesU_take] at e⟩⟩
  rw [slBase_zero, Nat.sub_zero, show Value.slice (some ⟨b4, 0, none⟩) 4 (32 - 0) = .slice (some ⟨b4, 0, none⟩) ((sumW R).take 4).length 32 from by rw [h4]]
  refine wl_p I_ok rfl (wl (st_call Tryd.call91 rfl rfl rfl rfl rfl rfl (both_calls w6 hs4 hq.sl (by omega) (by omega)) fun v7 w7 hr7 => ?_))
  obtain ⟨q2, k2, rfl, hq2, hqn2, hE7⟩ := hr7
  have hb2 := hb2.extNo hE7
  have hb9 := hb9.extNo hE7
  have hb4 := hb4.extNo hE7
  have hq := hq.ext hE7 fun _ _ => id
  have hX := hX.thenNo hE7
  rw [← hS] at hq2 ⊢
  have hSl : (sealB l).length = 64 := sealB_len hl
  obtain ⟨bq, off, rfl, hseg⟩ : ∃ bq off, q2 = some ⟨bq, off, none⟩ ∧ Seg w7 bq off (bytesU (sealB l)) := by
    rcases hq2.sl.2 with h0 | h1
    · omega
    · exact h1
  refine wl (st_sp I_ok rfl (Nat.le_of_eq hSl.symm) (wl (st_ldN I_ok rfl hseg (by rw [bytesU_len, hSl]) (wl (st_stW (l' := bytesU (sealB l)) I_ok hb2 rfl rfl (by rw [bytesU_len, hSl]) (by rw [bytesU_len, hSl]; rfl) OneC.h fun w8 hb2 hE8 hs8 => ?_)))))
  have hb9 := hb9.ext1 hE8 ne2_9.symm
  have hb4 := hb4.ext1 hE8 ne2_4.symm
  have hX := hX.thenNew hE8 fr2
  refine wl_nil (f_then (c_ret (f_ret [_] ⟨⟨b2, 0, rfl, ld_all I_ok rfl rfl hb2.seg (by rw [bytesU_len, hSl]; rfl)⟩, trivial⟩ ?_)))
  exact ⟨rfl, hX⟩
theorem wrap64 (n : Nat) (h : n < 18446744073709551616) : IntKind.u64.wrap (n : Int) = (n : Int) := by rw [IntKind.wrap_u64]; omega
theorem hi_sl {q : Option Addr} {n x c : Nat} : Value.slice q n c = .slice q (be n x).length c := by rw [be_len]
theorem refHead_calls (w : World) (t n : Nat) (ht : t < 4294967296) (hn : n < 4294967296) :
    CallsV Tryd.prog 90 [.int .u32 (t : Int), .int .i64 (n : Int)] w fun v w' => v = numB (headB t n) ∧ Ext No w w' := by
  refine calls_enter Tryd.func90 rfl rfl rfl rfl ?_
  have hX := Ext.refl No w
  refine c_seq (c_region (wl (st_al I_ok rfl fun b4 w1 hn4 hb4 hE1 => ?_)))
  have fr4 := Nat.le_trans hX.size hn4
  have hX := hX.thenNo hE1
  refine wl_nil (f_then (c_seq (c_region (wl (st_bs I_ok rfl 1 rfl rfl rfl (by decide) (by decide) (by simp [partsOk]) (l' := bytesU lettersB) rfl fun b6 w2 hn6 hb6 hE2 hs2 => ?_)))))
  have ne4_6 : b4 ≠ b6 := Nat.ne_of_lt (Nat.lt_of_lt_of_le hb4.lt hn6)
  have fr6 := Nat.le_trans hX.size hn6
  have hb4 := hb4.extNo hE2
  have hX := hX.thenNo hE2
  refine wl (st_cv I_ok rfl hb6 fun w3 hEn hsg6 hsn => ?_)
  have hX := hX.thenNew hEn fr6
  have hb4 := hb4.ext1 hEn ne4_6
  have hs6 : SlB w3 (some ⟨b6, 0, none⟩) lettersB := ⟨rfl, .inr ⟨b6, 0, rfl, hsg6⟩⟩
  refine wl_p I_ok rfl ?_
  rw [wrap64 t (by omega)]
  refine wl (st_call Tryd.call92 rfl rfl rfl rfl rfl rfl (high_calls 4 (by decide) w3 t (by omega)) fun v4 w4 hr4 => ?_)
  obtain ⟨qh, kh, rfl, hqh, hqhn, hE4⟩ := hr4
  have hb4 := hb4.extNo hE4
  have hs6 := hs6.extNo hE4
  have hX := hX.thenNo hE4
  rw [hi_sl (q := qh) (n := 4) (x := t) (c := kh)]
  have hqh : Own w4 qh (be 4 t).length kh 5 1 (bytesU (be 4 t)) := by rw [be_len]; exact hqh
  refine wl (st_call Tryd.call91 rfl rfl rfl rfl rfl rfl (both_calls w4 (l := lettersB) hs6 hqh.sl (by decide) (by rw [be_len]; decide)) fun v5 w5 hr5 => ?_)
  obtain ⟨q1, k1, rfl, hq1, hqn1, hE5⟩ := hr5
  have hb4 := hb4.extNo hE5
  have hs6 := hs6.extNo hE5
  have hqh := hqh.ext hE5 fun _ _ => id
  have hX := hX.thenNo hE5
  refine wl_p I_ok rfl (wl_nil (f_then (c_seq (c_region (wl_p I_ok rfl ?_)))))
  rw [wrap64 n (by omega)]
  refine wl (st_call Tryd.call92 rfl rfl rfl rfl rfl rfl (high_calls 4 (by decide) w5 n (by omega)) fun v6 w6 hr6 => ?_)
  obtain ⟨qh, kh, rfl, hqh, hqhn, hE6⟩ := hr6
  have hb4 := hb4.extNo hE6
  have hs6 := hs6.extNo hE6
  have hq1 := hq1.ext hE6 fun _ _ => id
  have hX := hX.thenNo hE6
  rw [hi_sl (q := qh) (n := 4) (x := n) (c := kh)]
  have hqh : Own w6 qh (be 4 n).length kh 5 1 (bytesU (be 4 n)) := by rw [be_len]; exact hqh
  refine wl (st_call Tryd.call91 rfl rfl rfl rfl rfl rfl (both_calls w6 hq1.sl hqh.sl (by simp [lettersB, be_len]) (by rw [be_len]; decide)) fun v7 w7 hr7 => ?_)
  obtain ⟨q2, k2, rfl, hq2, hqn2, hE7⟩ := hr7
  have hb4 := hb4.extNo hE7
  have hs6 := hs6.extNo hE7
  have hqh := hqh.ext hE7 fun _ _ => id
  have hq1 := hq1.ext hE7 fun _ _ => id
  have hX := hX.thenNo hE7
  refine wl (st_call Tryd.call93 rfl rfl rfl rfl rfl rfl (refSealed_calls w7 hq2.sl (by simp [lettersB, be_len])) fun v8 w8 hr8 => ?_)
  obtain ⟨rfl, hE8⟩ := hr8
  have hb4 := hb4.extNo hE8
  have hs6 := hs6.extNo hE8
  have hqh := hqh.ext hE8 fun _ _ => id
  have hq1 := hq1.ext hE8 fun _ _ => id
  have hX := hX.thenNo hE8
  refine wl (st_stW (l' := bytesU (headB t n)) I_ok hb4 rfl rfl (by rw [bytesU_len, headB_len]) (by rw [bytesU_len, headB_len]; rfl) OneC.h fun w9 hb4 hE9 hs9 => ?_)
  have hX := hX.thenNew hE9 fr4
  refine wl_nil (f_then (c_ret (f_ret [_] ⟨⟨b4, 0, rfl, ld_all I_ok rfl rfl hb4.seg (by rw [bytesU_len, headB_len]; rfl)⟩, trivial⟩ ?_)))
  exact ⟨rfl, hX⟩
end Go.Proofs.YtlfdlodcjiaiiaaDoor
namespace Go.Proofs.YtlfdlodcjiaiiaaDoor
open Go.Vc
theorem pieceB_take (t n : Nat) (b : Bytes) {j : Nat} (h : j < sectN b.length) : (pieceB t n b).take (j + 1) = (pieceB t n b).take j ++ [pieceAt t n b j] := by
  have hl : j < (pieceB t n b).length := by rw [pieceB_length]; exact h
  rw [List.take_succ_eq_append_getElem hl]
  simp [pieceB]
theorem put_all {xs ys : List Value} (h : xs.length = ys.length) : Vc.put xs 0 ys = ys := by
  rw [put_eq _ _ _ (by omega), List.take_zero, List.nil_append, List.drop_eq_nil_of_le (by omega), List.append_nil]
theorem flat_bytes_len {l : List Bytes} (h : ∀ s ∈ l, s.length = 64) : (l.flatMap bytesU).length = l.length * 64 := by
  induction l with
  | nil => rfl
  | cons a r ih =>
    rw [List.flatMap_cons, List.length_append, bytesU_64 (h a (by simp)), ih fun x hx => h x (by simp [hx]), List.length_cons]
    omega
theorem refPiece_calls (w : World) (t n : Nat) (ht : t < 4294967296) (hn : n < 4294967296) {p : Option Addr} {c : Nat} {b : Bytes} (h : SlB w p b) (hb : b.length ≤ 40000) :
    CallsV Tryd.prog 72 [.int .u32 (t : Int), .int .u32 (n : Int), .slice p b.length c] w fun v w' => ∃ q k, v = .slice q (pieceB t n b).length k ∧ Own w' q (pieceB t n b).length k 90 64 ((pieceB t n b).flatMap bytesU) ∧ (∀ y, OwnB q y → w.heap.size ≤ y) ∧ Ext No w w' := by
  refine calls_enter Tryd.func72 rfl rfl rfl rfl ?_
  have hX := Ext.refl No w
  have hsl := h
  have hsn := sectN_le b.length
  have hroom := sectN_room hb
  have htight := sectN_tight hb
  have hbl := bodyB_len b
  refine c_seq (c_region (wl_p I_ok rfl (wl_nil (f_then (c_seq (c_region (wl_p I_ok rfl (wl_nil (f_then (c_seq (c_region (wl_p I_ok rfl ?_))))))))))))
  rw [wrap64 b.length (by omega)]
  refine wl (st_call Tryd.call92 rfl rfl rfl rfl rfl rfl (high_calls 4 (by decide) w b.length (by omega)) fun v1 w1 hr1 => ?_)
  obtain ⟨qha, kha, rfl, ha, nha, hE1⟩ := hr1
  have hsl := hsl.extNo hE1
  have hX := hX.thenNo hE1
  rw [hi_sl (q := qha) (n := 4) (x := b.length) (c := kha)]
  have ha : Own w1 qha (be 4 b.length).length kha 5 1 (bytesU (be 4 b.length)) := by rw [be_len]; exact ha
  refine wl_p I_ok rfl (wl (st_call Tryd.call91 rfl rfl rfl rfl rfl rfl (both_calls w1 ha.sl hsl (by rw [be_len]; decide) (by omega)) fun v2 w2 hr2 => ?_))
  obtain ⟨qa, ka, rfl, hall, hna, hE2⟩ := hr2
  have hsl := hsl.extNo hE2
  have ha := ha.ext hE2 fun _ _ => id
  have hX := hX.thenNo hE2
  rw [show be 4 b.length ++ b = bodyB b from rfl] at hall ⊢
  refine wl_p I_ok rfl (wl_nil (f_then (c_seq (c_region (wl_p I_ok rfl ?_)))))
  have hallc := hall.cap
  refine wl (st_call Tryd.call35 rfl rfl rfl rfl rfl rfl (refSectors_calls w2 (b.length : Int)) fun v3 w3 hr3 => ?_)
  obtain ⟨rfl, hE3⟩ := hr3
  have hsl := hsl.extNo hE3
  have hall := hall.ext hE3 fun _ _ => id
  have hX := hX.thenNo hE3
  rw [sectZ_nat]
  have hkc : (bodyB b).length ≤ ka := hallc
  refine wl_p I_ok rfl (wl_nil (f_then (c_seq (c_seq (c_region (wl_p I_ok rfl (wl_nil (f_then (c_block ?_)))))))))
  refine c_loopK (α := Nat × Option Addr × Nat) [0, 1, 8, 9] rfl (fun z => [(7, .slice z.2.1 z.1 z.2.2), (10, .int .i64 (z.1 : Int))]) (fun z u => (z.1 ≤ sectN b.length ∧ Own u z.2.1 z.1 z.2.2 90 64 (((pieceB t n b).take z.1).flatMap bytesU) ∧ (∀ y, OwnB z.2.1 y → w.heap.size ≤ y) ∧ Own u qa (bodyB b).length ka 5 1 (bytesU (bodyB b))) ∧ Ext No w u) (fun z u => sectN b.length - z.1) (0, none, 0) rfl ⟨⟨Nat.zero_le _, Own.nil _ _ _, fun y hy => (by cases hy), hall⟩, hX⟩ ?_
  rintro ⟨j, q, k⟩ w4 ⟨⟨hj, hout, hon, hall⟩, hX⟩
  try dsimp only
  dsimp only at hj hout hon
  refine c_seq (c_seq (c_region (wl_p I_ok rfl (wl_nil (f_then (c_if rfl (fun hc => ?_) (fun hc => ?_)))))))
  · have hjl : j < sectN b.length := by omega
    refine c_skip (f_then (c_seq (c_block (c_seq (c_region (wl_p I_ok rfl ?_))))))
    rw [IntWalk.i64_in (48 * (j : Int)) (by omega), IntWalk.i64_in (48 * (j : Int) + 48) (by omega), show 48 * (j : Int) + 48 = ((48 * j + 48 : Nat) : Int) from by omega]
    refine wl_p I_ok rfl (wl_nil (f_then (c_cutK (α := Nat) [0, 1, 7, 8, 9, 10] rfl (fun z => [(11, .int .i64 (z : Int))]) (fun z u => u = w4 ∧ z = min (48 * j + 48) (bodyB b).length) ?_ ?_)))
    · refine c_seq ?_
      refine c_region (wl_p I_ok rfl (wl_nil (f_then (c_if rfl (fun hc => ?_) (fun hc => ?_)))))
      · refine c_region ?_
        refine wl_p I_ok rfl (wl_nil ?_)
        exact f_cut ((bodyB b).length) rfl ⟨rfl, by omega⟩
      · refine c_skip ?_
        exact f_cut (48 * j + 48) rfl ⟨rfl, by omega⟩
    rintro en w5 ⟨hu, hen⟩
    have hu := hu.symm
    subst hu
    refine c_seq (c_region (wl_p I_ok rfl ?_))
    rw [wrap64 t (by omega)]
    refine wl (st_call Tryd.call92 rfl rfl rfl rfl rfl rfl (high_calls 4 (by decide) w4 t (by omega)) fun v6 w6 hr6 => ?_)
    obtain ⟨qhh, khh, rfl, hh, nhh, hE6⟩ := hr6
    have hall := hall.ext hE6 fun _ _ => id
    have hout := hout.ext hE6 fun _ _ => id
    have hX := hX.thenNo hE6
    rw [hi_sl (q := qhh) (n := 4) (x := t) (c := khh)]
    have hh : Own w6 qhh (be 4 t).length khh 5 1 (bytesU (be 4 t)) := by rw [be_len]; exact hh
    refine wl_p I_ok rfl ?_
    rw [wrap64 n (by omega)]
    refine wl (st_call Tryd.call92 rfl rfl rfl rfl rfl rfl (high_calls 4 (by decide) w6 n (by omega)) fun v7 w7 hr7 => ?_)
    obtain ⟨qhi, khi, rfl, hi, nhi, hE7⟩ := hr7
    have hall := hall.ext hE7 fun _ _ => id
    have hout := hout.ext hE7 fun _ _ => id
    have hh := hh.ext hE7 fun _ _ => id
    have hX := hX.thenNo hE7
    rw [hi_sl (q := qhi) (n := 4) (x := n) (c := khi)]
    have hi : Own w7 qhi (be 4 n).length khi 5 1 (bytesU (be 4 n)) := by rw [be_len]; exact hi
    refine wl (st_call Tryd.call91 rfl rfl rfl rfl rfl rfl (both_calls w7 hh.sl hi.sl (by rw [be_len]; decide) (by rw [be_len]; decide)) fun v8 w8 hr8 => ?_)
    obtain ⟨q6, k6, rfl, h6, n6, hE8⟩ := hr8
    have hall := hall.ext hE8 fun _ _ => id
    have hout := hout.ext hE8 fun _ _ => id
    have hh := hh.ext hE8 fun _ _ => id
    have hi := hi.ext hE8 fun _ _ => id
    have hX := hX.thenNo hE8
    refine wl_p I_ok rfl (wl_nil (f_then (c_seq (c_region (wl_p I_ok rfl ?_)))))
    rw [wrap64 j (by omega)]
    refine wl (st_call Tryd.call92 rfl rfl rfl rfl rfl rfl (high_calls 2 (by decide) w8 j (by omega)) fun v9 w9 hr9 => ?_)
    obtain ⟨qhh, khh, rfl, hh, nhh, hE9⟩ := hr9
    have hall := hall.ext hE9 fun _ _ => id
    have hout := hout.ext hE9 fun _ _ => id
    have h6 := h6.ext hE9 fun _ _ => id
    have hX := hX.thenNo hE9
    rw [hi_sl (q := qhh) (n := 2) (x := j) (c := khh)]
    have hh : Own w9 qhh (be 2 j).length khh 5 1 (bytesU (be 2 j)) := by rw [be_len]; exact hh
    refine wl (st_call Tryd.call91 rfl rfl rfl rfl rfl rfl (both_calls w9 h6.sl hh.sl (by simp [be_len]) (by rw [be_len]; decide)) fun v10 w10 hr10 => ?_)
    obtain ⟨q7, k7, rfl, h7, n7, hE10⟩ := hr10
    have hall := hall.ext hE10 fun _ _ => id
    have hout := hout.ext hE10 fun _ _ => id
    have hh := hh.ext hE10 fun _ _ => id
    have h6 := h6.ext hE10 fun _ _ => id
    have hX := hX.thenNo hE10
    refine wl_p I_ok rfl (wl_nil (f_then (c_seq (c_region (wl_p I_ok rfl ?_)))))
    rw [wrap64 (sectN b.length) (by omega)]
    refine wl (st_call Tryd.call92 rfl rfl rfl rfl rfl rfl (high_calls 2 (by decide) w10 (sectN b.length) (by omega)) fun v11 w11 hr11 => ?_)
    obtain ⟨qhh, khh, rfl, hh, nhh, hE11⟩ := hr11
    have hall := hall.ext hE11 fun _ _ => id
    have hout := hout.ext hE11 fun _ _ => id
    have h7 := h7.ext hE11 fun _ _ => id
    have hX := hX.thenNo hE11
    rw [hi_sl (q := qhh) (n := 2) (x := (sectN b.length)) (c := khh)]
    have hh : Own w11 qhh (be 2 (sectN b.length)).length khh 5 1 (bytesU (be 2 (sectN b.length))) := by rw [be_len]; exact hh
    refine wl (st_call Tryd.call91 rfl rfl rfl rfl rfl rfl (both_calls w11 h7.sl hh.sl (by simp [be_len]) (by rw [be_len]; decide)) fun v12 w12 hr12 => ?_)
    obtain ⟨q8, k8, rfl, h8, n8, hE12⟩ := hr12
    have hall := hall.ext hE12 fun _ _ => id
    have hout := hout.ext hE12 fun _ _ => id
    have hh := hh.ext hE12 fun _ _ => id
    have h7 := h7.ext hE12 fun _ _ => id
    have hX := hX.thenNo hE12
    refine wl_p I_ok rfl (wl_nil (f_then (c_region (wl_p I_ok rfl ?_))))
    rw [IntWalk.i64_in _ (by omega)]
    refine wl (st_sl I_ok rfl (48 * j) en ka 1 rfl (.inr ⟨rfl, rfl⟩) (.inl rfl) (.inl (congrArg some (by omega))) (by omega) (by omega) (Nat.le_refl _) ?_)
    have hch : SlB w12 (slBase qa (48 * j) ka 1) (((bodyB b).drop (48 * j)).take 48) := by
      have e := Sl.slice hall.sl (48 * j) en ka (by omega) (by omega) (by omega)
      rw [Nat.mul_one, Nat.mul_one, bytesU_drop, bytesU_take] at e
      have e2 : ((bodyB b).drop (48 * j)).take (en - 48 * j) = ((bodyB b).drop (48 * j)).take 48 := by
        rw [hen]
        rcases Nat.le_total (48 * j + 48) (bodyB b).length with h | h
        · rw [Nat.min_eq_left h]; congr 1; omega
        · rw [Nat.min_eq_right h, List.take_of_length_le (by rw [List.length_drop]; omega), List.take_of_length_le (by rw [List.length_drop]; omega)]
      rw [e2] at e
      have e3 : (((bodyB b).drop (48 * j)).take 48).length = en - 48 * j := by rw [List.length_take, List.length_drop]; omega
      rw [SlB, e3]
      exact e
    have hcl : (((bodyB b).drop (48 * j)).take 48).length = en - 48 * j := by rw [List.length_take, List.length_drop]; omega
    rw [← hcl]
    refine wl (st_call Tryd.call91 rfl rfl rfl rfl rfl rfl (both_calls w12 h8.sl hch (by simp [be_len]) (by omega)) fun v13 w13 hr13 => ?_)
    obtain ⟨q9, k9, rfl, h9, n9, hE13⟩ := hr13
    have hall := hall.ext hE13 fun _ _ => id
    have hout := hout.ext hE13 fun _ _ => id
    have h8 := h8.ext hE13 fun _ _ => id
    have hX := hX.thenNo hE13
    refine wl (st_call Tryd.call93 rfl rfl rfl rfl rfl rfl (refSealed_calls w13 h9.sl (by simp only [List.length_append, be_len]; omega)) fun v14 w14 hr14 => ?_)
    obtain ⟨rfl, hE14⟩ := hr14
    have hall := hall.ext hE14 fun _ _ => id
    have hout := hout.ext hE14 fun _ _ => id
    have hX := hX.thenNo hE14
    rw [show sealB (be 4 t ++ be 4 n ++ be 2 j ++ be 2 (sectN b.length) ++ ((bodyB b).drop (48 * j)).take 48) = pieceAt t n b j from rfl]
    refine wl (st_bs I_ok rfl 64 rfl rfl rfl (by decide) (by decide) ⟨⟨by show (bytesU (pieceAt t n b j)).length = 64; rw [bytesU_len, pieceAt_len], by decide⟩, trivial⟩ (l' := bytesU (pieceAt t n b j)) (put_all (by show (rep 1 (cellsOf ti90.zero)).length = (bytesU (pieceAt t n b j)).length; rw [bytesU_len, pieceAt_len]; rfl)) fun b62 w15 hn62 hb62 hE15 hs15 => ?_)
    have fr62 := Nat.le_trans hX.size hn62
    have hall := hall.ext hE15 fun _ _ => id
    have hout := hout.ext hE15 fun _ _ => id
    have hX := hX.thenNo hE15
    have hs13 := hX.size
    refine wl (st_app I_ok rfl 64 64 rfl rfl rfl (by decide) hout (Src.slice (m := 1) ⟨by rw [bytesU_len, pieceAt_len], .inr ⟨b62, 0, rfl, hb62.seg⟩⟩ one_bytes) (by dsimp only [maxLen]; omega) (by dsimp only; omega) fun p16 c16 w16 ho16 hE16 hB16 => ?_)
    have hX := hX.trans hE16 fun y hy e => by have := hon y e; omega
    have hout2 : Own w16 p16 (j + 1) c16 90 64 (((pieceB t n b).take (j + 1)).flatMap bytesU) := by
      rw [pieceB_take t n b hjl, List.flatMap_append, List.flatMap_singleton]
      exact ho16
    have hon2 : ∀ y, OwnB p16 y → w.heap.size ≤ y := fun y hy => (hB16 y hy).elim (hon y) fun h => by omega
    have hall := hall.ext hE16 fun y hy e => by obtain ⟨l, hl⟩ := Own.ty hout e; exact (Own.ty hall hy).ne hl (by decide) rfl
    refine wl_p I_ok rfl (wl_nil (f_blockN (f_then (c_region (wl_p I_ok rfl ?_)))))
    rw [IntWalk.i64_in _ (by omega)]
    refine wl_nil ?_
    exact f_round (j + 1, p16, c16) rfl ⟨⟨by dsimp only; omega, hout2, hon2, hall⟩, hX⟩ (by first | omega | (dsimp only; omega))
  · have hjl : j = sectN b.length := by omega
    refine c_exit (f_thenE (f_thenE (f_blockE (f_then (c_seq (c_region (wl_p I_ok rfl (wl_nil (f_then (c_ret (f_ret1 rfl rfl ?_)))))))))))
    exact ⟨q, k, by rw [pieceB_length, hjl], by rw [hjl, show (pieceB t n b).take (sectN b.length) = pieceB t n b from List.take_of_length_le (by rw [pieceB_length]; omega)] at hout; rw [pieceB_length]; exact hout, hon, hX⟩
end Go.Proofs.YtlfdlodcjiaiiaaDoor
namespace Go.Proofs.YtlfdlodcjiaiiaaDoor
open Go.Vc
theorem OwnB.of {w : World} {q : Option Addr} {n c T sz : Nat} {xs : List Value} (h : Own w q n c T sz xs) {y off : Nat} (e : q = some ⟨y, off, none⟩) : OwnB q y := by
  rcases h with ⟨h1, _⟩ | ⟨b, l, h1, _⟩
  · rw [h1] at e; cases e
  · rw [h1] at e; cases e; exact h1
/-- a book: x its own block; H: all its blocks -/
structure BookAt (u : World) (x d : Nat) (H : Nat → Prop) (W : Wl) : Prop where
  box : ∃ q c rows, Blk u x 110 [.pointer (some ⟨d, 0, none⟩), .int .i64 (W.size : Int), .int .u32 (W.turn : Int), .slice q W.pieces.length c, .int .i64 (W.used : Int), .bool W.broken] ∧ Own u q W.pieces.length c 37 1 rows ∧ PiecesAt u H W.pieces rows ∧ ∀ y, OwnB q y → H y
  own : H x
  lt : ∀ y, H y → y < u.heap.size
theorem BookAt.ext {S H : Nat → Prop} {u u' : World} {x d : Nat} {W : Wl} (h : BookAt u x d H W) (hE : Ext S u u') (hS : ∀ y, H y → ¬ S y) : BookAt u' x d H W := by
  obtain ⟨⟨q, c, rows, h1, h2, h3, h4⟩, h5, h6⟩ := h
  exact ⟨⟨q, c, rows, h1.ext hE (hS x h5), h2.ext hE fun y hy => hS y (h4 y hy), h3.ext hE fun y hy _ => hS y hy, h4⟩, h5, fun y hy => Nat.lt_of_lt_of_le (h6 y hy) hE.size⟩
theorem BookAt.extNo {H : Nat → Prop} {u u' : World} {x d : Nat} {W : Wl} (h : BookAt u x d H W) (hE : Ext No u u') : BookAt u' x d H W := h.ext hE fun _ _ => id
theorem BookAt.data {H : Nat → Prop} {u : World} {x d : Nat} {W W' : Wl} (h : BookAt u x d H W) (h1 : W'.size = W.size) (h2 : W'.turn = W.turn) (h3 : W'.pieces = W.pieces) (h4 : W'.used = W.used) (h5 : W'.broken = W.broken) : BookAt u x d H W' := by
  obtain ⟨hb, ho, hl⟩ := h
  exact ⟨by rw [h1, h2, h3, h4, h5]; exact hb, ho, hl⟩
/-- a book that has turned, after a call -/
def BookQ (w : World) (x d : Nat) (F H : Nat → Prop) (r : Wl × Int) (v : Value) (w' : World) : Prop :=
  v = .int .i64 r.2 ∧ ∃ F' H' : Nat → Prop, At w' d F' r.1.D ∧ BookAt w' x d H' r.1 ∧ (∀ y, F' y → F y ∨ w.heap.size ≤ y) ∧ (∀ y, H' y → H y ∨ w.heap.size ≤ y) ∧ (∀ y, H' y → ¬ F' y) ∧ Ext (fun y => F y ∨ H y) w w'
theorem refuses_zero {W : Wl} {b : Bytes} {r : Int} (h : W.refuses b r = 0) : b.length ≤ 40000 ∧ (sectN b.length : Int) ≤ r := by
  unfold Wl.refuses at h
  split at h
  · cases h
  · split at h
    · cases h
    · split at h
      · cases h
      · exact ⟨by omega, by omega⟩
theorem flat_row {L : List Bytes} (h : ∀ b ∈ L, b.length = 64) : ∀ b ∈ L, (bytesU b).length = 64 := fun b hb => bytesU_64 (h b hb)
theorem lay_calls (w : World) {d m c : Nat} {F : Nat → Prop} {D : Dsk} {L : List Bytes} {p : Option Addr} (h : At w d F D) (hok : D.Ok m) (hm : m + 2 * L.length + 3 < 1000000000) (at_ : Int) (hat : -1000000000 ≤ at_ ∧ at_ ≤ 1000000000) (hL64 : ∀ b ∈ L, b.length = 64) (hL0 : L ≠ [])
    (hs : Sl w p L.length 64 (L.flatMap bytesU)) (hpF : ∀ y off, p = some ⟨y, off, none⟩ → ¬ F y) :
    CallsV Tryd.prog 68 [.pointer (some ⟨d, 0, none⟩), .int .i64 at_, .slice p L.length c] w fun v w' => v = .int .i64 (layD D at_ L).2 ∧ DkQ w d F (layD D at_ L).1 w' := by
  refine calls_enter Tryd.func68 rfl rfl rfl rfl ?_
  have hX := Ext.refl F w
  have hFlt := h.lt
  have hL1 : 0 < L.length := by cases L with | nil => exact absurd rfl hL0 | cons a l => simp
  obtain ⟨pb, po, rfl, hrows⟩ := hs.rowAll (flat_row hL64) hL1
  refine c_seq (c_region (wl_p I_ok rfl (wl_nil (f_then (c_seq (c_seq (c_region (wl_p I_ok rfl (wl_nil (f_then (c_block ?_)))))))))))
  refine c_loopK (α := Nat × (Nat → Prop) × Dsk) [0, 1, 10, 11] rfl (fun z => [(12, .int .i64 (z.1 : Int))]) (fun z u => (z.1 ≤ L.length ∧ At u d z.2.1 z.2.2 ∧ z.2.2.Ok (m + 2 * z.1) ∧ layD D at_ L = layD z.2.2 (at_ + z.1) (L.drop z.1) ∧ (∀ y, z.2.1 y → F y ∨ w.heap.size ≤ y)) ∧ Ext F w u) (fun z u => L.length - z.1) (0, F, D) rfl ⟨⟨Nat.zero_le _, h, hok, by simp, fun y => .inl⟩, hX⟩ ?_
  rintro ⟨k, G, D2⟩ w1 ⟨⟨hk0, hA, hok2, hlay, hGF⟩, hX⟩
  try dsimp only
  dsimp only at hk0 hA hok2 hlay hGF
  refine c_seq (c_region (wl_p I_ok rfl (wl_nil (f_then (c_seq (c_if rfl (fun hc => ?_) (fun hc => ?_)))))))
  · have hk : k < L.length := by omega
    obtain ⟨Bk, hBk⟩ : ∃ Bk, Bk = L[k] := ⟨_, rfl⟩
    have hB64 : Bk.length = 64 := by rw [hBk]; exact hL64 _ (List.getElem_mem hk)
    have hrow : Seg w1 pb (po + k * 64) (bytesU Bk) := by
      have e := Seg.ext (hrows k hk) hX (hpF pb po rfl)
      rw [← hBk] at e
      exact e
    refine c_skip (f_then (c_seq (c_block (c_seq (c_region (wl_p I_ok rfl (wl (st_ix I_ok rfl 64 rfl k rfl hk (po + k * 64) rfl (wl (st_ldN I_ok rfl hrow (by rw [bytesU_len, hB64]) ?_))))))))))
    have hGl := hA.lt
    refine wl (st_al I_ok rfl fun b8 w2 hn8 hb8 hE2 => ?_)
    have fr8 := Nat.le_trans hX.size hn8
    have hA := hA.extNo hE2
    have hX := hX.thenNo hE2
    have hnb : ∀ x, G x → x ≠ b8 := fun x hx e => by have := hGl x hx; omega
    refine wl_p I_ok rfl (wl (st_stW (l' := bytesU Bk) I_ok hb8 rfl rfl (by rw [bytesU_len, hB64]) (by rw [bytesU_len, hB64]; rfl) OneC.h fun w3 hb8 hE3 hs3 => ?_))
    have hA := hA.ext hE3 fun x hx e => by have e : x = b8 := e; exact hnb x hx e
    have hX := hX.thenNew hE3 fr8
    refine wl_nil (f_then (c_seq (c_region (wl_p I_ok rfl ?_))))
    rw [IntWalk.i64_in _ (by omega)]
    refine wl (st_ldB I_ok hb8 rfl (by rw [bytesU_len, hB64]) ?_)
    have hX4 := hX.size
    have hstep := layD_step hk D2 at_
    have hgd : L.getD k [] = Bk := by rw [hBk]; simp [hk]
    rw [← hlay, hgd] at hstep
    refine wl (st_call Tryd.call81 rfl rfl rfl rfl rfl rfl (dkWrite w3 hA hok2 (by omega) (at_ + k) hB64) fun v4 w4 hr4 => ?_)
    obtain ⟨rfl, G2, hA2, hE4, hGs⟩ := hr4
    have hX := hX.trans hE4 fun x hx e => (hGF x e).resolve_right (by omega)
    have hG2 := grow_sub hGF hX4 hGs
    have hok3 := hok2.write (at_ + k) hB64
    refine wl_p I_ok rfl (wl_nil (f_then (c_seq (c_region (wl_p I_ok rfl (wl_nil (f_then (c_if rfl (fun hc => ?_) (fun hc => ?_)))))))))
    · rw [if_pos hc] at hstep
      refine c_seq (c_region (wl_p I_ok rfl (wl_nil (f_then (c_ret (f_blockR (f_thenR (f_thenR (f_blockR (f_thenR (f_ret1 rfl rfl ?_)))))))))))
      rw [hstep]
      exact ⟨rfl, G2, hA2, hX, hG2⟩
    · rw [if_neg hc] at hstep
      refine c_skip (f_blockN (f_then (c_region (wl_p I_ok rfl ?_))))
      rw [IntWalk.i64_in _ (by omega)]
      refine wl_nil ?_
      exact f_round (k + 1, G2, (D2.write (at_ + k) Bk).1) rfl ⟨⟨by dsimp only; omega, hA2, by dsimp only; rw [show m + 2 * (k + 1) = m + 2 * k + 2 from by omega]; exact hok3, hstep, hG2⟩, hX⟩ (by first | omega | (dsimp only; omega))
  · have hk : k = L.length := by omega
    rw [hk, List.drop_length] at hlay
    refine c_exit (f_thenE (f_thenE (f_blockE (f_then (c_seq (c_region (wl_p I_ok rfl ?_)))))))
    have hX4 := hX.size
    refine wl (st_call Tryd.call82 rfl rfl rfl rfl rfl rfl (dkSync w1 hA hok2 (by omega)) fun v5 w5 hr5 => ?_)
    obtain ⟨rfl, G2, hA2, hE5, hGs⟩ := hr5
    have hX := hX.trans hE5 fun x hx e => (hGF x e).resolve_right (by omega)
    have hG2 := grow_sub hGF hX4 hGs
    refine wl_p I_ok rfl (wl_nil (f_then (c_ret (f_ret1 rfl rfl ?_))))
    rw [hlay]
    exact ⟨rfl, G2, hA2, hX, hG2⟩
end Go.Proofs.YtlfdlodcjiaiiaaDoor
namespace Go.Proofs.YtlfdlodcjiaiiaaDoor
open Go.Vc
theorem bookRefuses_calls (w : World) {x d c : Nat} {H : Nat → Prop} {W : Wl} (h : BookAt w x d H W) {p : Option Addr} {b : Bytes} (r : Int) :
    CallsV Tryd.prog 71 [.pointer (some ⟨x, 0, none⟩), .slice p b.length c, .int .i64 r] w fun v w' => v = .int .i64 (W.refuses b r) ∧ Ext No w w' := by
  obtain ⟨⟨q, cq, rows, hbx, _, _, _⟩, _, _⟩ := h
  refine calls_enter Tryd.func71 rfl rfl rfl rfl ?_
  have hX := Ext.refl No w
  refine c_seq (c_region (wl_p I_ok rfl (wl_nil (f_then (c_seq (c_block (c_seq (c_region (wl_p I_ok rfl (wl_nil (f_then (c_if rfl (fun hc => ?_) (fun hc => ?_)))))))))))))
  · have e : W.refuses b r = 3 := if_pos (by omega)
    rw [e]
    refine c_seq (c_region (wl_p I_ok rfl (wl_nil (f_then (c_ret (f_blockR (f_thenR (f_ret1 rfl rfl ?_))))))))
    exact ⟨rfl, hX⟩
  · have hb40 : ¬ 40000 < b.length := by omega
    refine c_seq (c_region (wl_p I_ok rfl (wl (st_ld I_ok rfl (hbx.cell rfl) (wl_p I_ok rfl (wl_nil (f_then (c_cond rfl (fun hc => ?_) (fun hc => ?_)))))))))
    · have e : W.refuses b r = 8 := by unfold Wl.refuses; rw [if_neg hb40, if_pos hc]
      rw [e]
      refine c_seq (c_region (wl_p I_ok rfl (wl_nil (f_then (c_ret (f_blockR (f_thenR (f_ret1 rfl rfl ?_))))))))
      exact ⟨rfl, hX⟩
    · have hbr : ¬ W.broken = true := by simp [hc]
      refine c_seq (c_region (wl_p I_ok rfl (wl (st_call Tryd.call35 rfl rfl rfl rfl rfl rfl (refSectors_calls w (b.length : Int)) fun v1 w1 hr1 => ?_))))
      obtain ⟨rfl, hE1⟩ := hr1
      have hX := hX.thenNo hE1
      rw [sectZ_nat]
      refine wl_p I_ok rfl (wl_nil (f_then (c_if rfl (fun hc => ?_) (fun hc => ?_))))
      · have e : W.refuses b r = 6 := by unfold Wl.refuses; rw [if_neg hb40, if_neg hbr, if_pos hc]
        rw [e]
        refine c_seq (c_region (wl_p I_ok rfl (wl_nil (f_then (c_ret (f_blockR (f_thenR (f_ret1 rfl rfl ?_))))))))
        exact ⟨rfl, hX⟩
      · have e : W.refuses b r = 0 := by unfold Wl.refuses; rw [if_neg hb40, if_neg hbr, if_neg hc]
        rw [e]
        refine c_skip (f_blockN (f_then (c_seq (c_region (wl_p I_ok rfl (wl_nil (f_then (c_ret (f_ret1 rfl rfl ?_)))))))))
        exact ⟨rfl, hX⟩

theorem bookBegin_calls (w : World) {x d m t c : Nat} {H F : Nat → Prop} {D : Dsk} {W : Wl} {p : Option Addr} {b : Bytes} (h : BookAt w x d H W) (hA : At w d F D) (hok : D.Ok m) (hm : m + 2000 < 1000000000) (hn : W.size < 1000000) (ht : t < 4294967296) (hs : SlB w p b) (hbl : b.length ≤ 40000) (hFx : ¬ F x) :
    CallsV Tryd.prog 69 [.pointer (some ⟨x, 0, none⟩), .int .u32 (t : Int), .slice p b.length c] w fun v w' => v = .int .i64 (beginD D t W.size b).2 ∧ DkQ w d F (beginD D t W.size b).1 w' := by
  refine calls_enter Tryd.func69 rfl rfl rfl rfl ?_
  have hX := Ext.refl F w
  have hFlt := hA.lt
  have hsl := sectN_le b.length
  have hsp := sectN_pos hbl
  obtain ⟨⟨q, cq, rows, hbk, _, _, _⟩, hxH, hlt⟩ := h
  have hbx := hbk
  have hat := hA
  have hsb := hs
  refine c_seq (c_region (wl_p I_ok rfl (wl_nil (f_then (c_seq ?_)))))
  refine c_draw rfl 15 [(0, true), (1, true), (2, true), (3, true), (4, true), (5, true), (6, true), (7, true), (8, true), (10, true), (11, true), (9, false), (12, false), (13, false), (14, true)] [] (F) (by kernel_rfl) fun w1 hE1 hs1 => ?_
  have hbxd := hbx
  have hsbd := hsb
  have hatd := hat
  have hXd := hX
  have hbx := hbx.extNo hE1
  have hsb := hsb.extNo hE1
  have hat := hat.extNo hE1
  have hX := hX.thenNo hE1
  have hC : Ext (F) _ w1 := hE1.no
  refine wd_k I_ok 3 rfl (wd_ld I_ok rfl rfl (fun w' hw' => ((hbxd.ext hw' hFx).cell rfl)) ?_)
  refine wd_k I_ok 4 rfl (wd_ld I_ok rfl rfl (fun w' hw' => ((hbxd.ext hw' hFx).cell rfl)) ?_)
  refine wd_k I_ok 2 rfl (wd_l rfl (st_call Tryd.call73 rfl rfl rfl rfl rfl rfl (refFrom_calls w1 t W.size ht (by omega)) fun v2 w2 hr2 => ⟨(by obtain ⟨rfl, hE2⟩ := hr2; exact hC.thenNo hE2), ?_⟩))
  obtain ⟨rfl, hE2⟩ := hr2
  have hbx := hbx.extNo hE2
  have hsb := hsb.extNo hE2
  have hat := hat.extNo hE2
  have hX := hX.thenNo hE2
  have hC := hC.thenNo hE2
  have hX0 := hX.size
  refine wd_l rfl (st_call Tryd.call72 rfl rfl rfl rfl rfl rfl (refPiece_calls w2 t 0 ht (by decide) hsb hbl) fun v3 w3 hr3 => ⟨(by obtain ⟨q1, k1, rfl, ho1, hon1, hE3⟩ := hr3; exact hC.thenNo hE3), ?_⟩)
  obtain ⟨q1, k1, rfl, ho1, hon1, hE3⟩ := hr3
  have hbx := hbx.extNo hE3
  have hsb := hsb.extNo hE3
  have hat := hat.extNo hE3
  have hX := hX.thenNo hE3
  have hC := hC.thenNo hE3
  have hX1 := hX.size
  refine wd_l rfl (st_call Tryd.call68 rfl rfl rfl rfl rfl rfl (lay_calls w3 hat hok (by rw [pieceB_length]; omega) (areaB t W.size : Int) (by unfold areaB; split <;> omega) (pieceB_len t 0 b) (fun e => by have := pieceB_length t 0 b; rw [e] at this; simp at this; omega) ho1.sl (fun y off e hF => by have := hon1 y (OwnB.of ho1 e); have := hFlt y hF; omega)) fun v4 w4 hr4 => ⟨(by obtain ⟨rfl, F2, h2, hE4, hF2⟩ := hr4; exact hC.then hE4), ?_⟩)
  obtain ⟨rfl, F2, h2, hE4, hF2⟩ := hr4
  have hC := hC.then hE4
  have hX := hX.then hE4
  have hxl := hlt x hxH
  have hbx := hbx.ext hE4 hFx
  obtain ⟨y, hy⟩ : ∃ y, y = layD D (areaB t W.size) (pieceB t 0 b) := ⟨_, rfl⟩
  have hyo := layD_ok (pieceB t 0 b) (areaB t W.size : Int) hok (pieceB_len t 0 b)
  rw [pieceB_length] at hyo
  have hbe : beginD D t W.size b = if y.2 ≠ 0 then y else layD y.1 ((t % 2 : Nat) : Int) [headB t W.size] := by rw [hy]; rfl
  rw [← hy] at h2 hyo ⊢
  obtain ⟨yy, hyy⟩ : ∃ yy, yy = (if y.2 ≠ 0 then y else layD y.1 ((t % 2 : Nat) : Int) [headB t W.size]) := ⟨_, rfl⟩
  rw [hbe, ← hyy]
  have hF2x : ¬ F2 x := fun e => (hF2 x e).elim hFx fun e => by omega
  have hF2 := grow_sub (fun x => .inl) hX1 hF2
  refine wd_k I_ok 1 rfl (wd_sw (wb_nil (f_then ?_)))
  refine c_cutK (α := Int × (Nat → Prop) × Dsk) [] rfl (fun z => [(7, .int .i64 z.1)]) (fun z u => ((z.1 = yy.2 ∧ z.2.2 = yy.1) ∧ At u d z.2.1 z.2.2 ∧ (∀ x, z.2.1 x → F x ∨ w.heap.size ≤ x)) ∧ Ext F w u) ?_ ?_
  · refine c_seq ?_
    refine c_region (wl_p I_ok rfl (wl_nil (f_then (c_if rfl (fun hc => ?_) (fun hc => ?_)))))
    · have hy0 : y.2 = 0 := hc
      have hyl : yy = layD y.1 ((t % 2 : Nat) : Int) [headB t W.size] := by rw [hyy, if_neg (fun e => e hy0)]
      refine c_draw rfl 16 [(0, true), (1, true), (2, true), (3, true), (4, true), (5, true), (6, true), (7, true), (8, true), (9, true), (10, true), (11, true), (12, false), (13, false), (14, false), (15, true)] [] (F2) (by kernel_rfl) fun w5 hE5 hs5 => ?_
      have hbxd := hbx
      have hsbd := hsb
      have hatd := hat
      have h2d := h2
      have hXd := hX
      have hbx := hbx.extNo hE5
      have h2 := h2.extNo hE5
      have hX := hX.thenNo hE5
      have hC : Ext (F2) _ w5 := hE5.no
      refine wd_k I_ok 3 rfl (wd_ld I_ok rfl rfl (fun w' hw' => ((hbxd.ext hw' hF2x).cell rfl)) ?_)
      refine wd_k I_ok 7 rfl (wd_ld I_ok rfl rfl (fun w' hw' => ((hbxd.ext hw' hF2x).cell rfl)) ?_)
      refine wd_l rfl (st_call Tryd.call90 rfl rfl rfl rfl rfl rfl (refHead_calls w5 t W.size ht (by omega)) fun v6 w6 hr6 => ⟨(by obtain ⟨rfl, hE6⟩ := hr6; exact hC.thenNo hE6), ?_⟩)
      obtain ⟨rfl, hE6⟩ := hr6
      have hbx := hbx.extNo hE6
      have h2 := h2.extNo hE6
      have hX := hX.thenNo hE6
      have hC := hC.thenNo hE6
      obtain ⟨Hd, hHd⟩ : ∃ Hd, Hd = headB t W.size := ⟨_, rfl⟩
      have hHl : Hd.length = 64 := by rw [hHd]; exact headB_len t W.size
      rw [← hHd]
      have h2l := h2.lt
      refine wd_l rfl (st_bs I_ok rfl 64 rfl rfl rfl (by decide) (by decide) ⟨⟨by show (bytesU Hd).length = 64; rw [bytesU_len, hHl], by decide⟩, trivial⟩ (l' := bytesU Hd) (put_all (by show (rep 1 (cellsOf ti90.zero)).length = (bytesU Hd).length; rw [bytesU_len, hHl]; rfl)) fun b37 w7 hn37 hb37 hE7 hs7 => ⟨hC.thenNo hE7, ?_⟩)
      have fr37 := Nat.le_trans hX.size hn37
      have hbx := hbx.extNo hE7
      have h2 := h2.extNo hE7
      have hX := hX.thenNo hE7
      have hC := hC.thenNo hE7
      have hX2 := hX.size
      have hmod : IntKind.i64.wrap ((t : Int).tmod 2) = ((t % 2 : Nat) : Int) := by rw [show (t : Int).tmod 2 = ((t % 2 : Nat) : Int) from by rw [Int.tmod_eq_emod_of_nonneg (Int.natCast_nonneg _)]; omega]; exact IntWalk.i64_in _ (by omega)
      refine wd_l rfl (st_call Tryd.call68 rfl rfl rfl rfl rfl rfl (lay_calls w7 (L := [Hd]) h2 hyo (by simp; omega) (IntKind.i64.wrap ((t : Int).tmod 2)) (by rw [hmod]; omega) (fun x hx => by rw [List.mem_singleton.1 hx]; exact hHl) (by simp) ⟨by simp [bytesU_len, hHl], .inr ⟨b37, 0, rfl, by have e := hb37.seg; simpa using e⟩⟩ (fun y off e hF => by cases e; have := h2l _ hF; omega)) fun v8 w8 hr8 => ⟨(by obtain ⟨rfl, F4, h4, hE8, hF4s⟩ := hr8; exact hC.then hE8), ?_⟩)
      obtain ⟨rfl, F4, h4, hE8, hF4s⟩ := hr8
      have hC := hC.then hE8
      rw [hmod] at h4
      rw [hmod]
      have hX := hX.trans hE8 fun x hx e => (hF2 x e).resolve_right (by omega)
      have hF4s := grow_sub hF2 hX2 hF4s
      rw [hHd, ← hyl] at h4
      rw [hHd, ← hyl]
      refine wd_k I_ok 1 rfl (wd_sw (wb_nil ?_))
      exact f_cut ((yy.2, F4, yy.1)) rfl ⟨⟨⟨rfl, rfl⟩, h4, hF4s⟩, hX⟩
    · have hyl : yy = y := by rw [hyy, if_pos hc]
      refine c_skip ?_
      exact f_cut ((y.2, F2, y.1)) rfl ⟨⟨⟨by rw [hyl], by rw [hyl]⟩, h2, hF2⟩, hX⟩
  rintro ⟨e, F3, D3⟩ w9 ⟨⟨⟨he, hD3⟩, h3, hF3⟩, hX⟩
  try dsimp only
  dsimp only at he hD3 h3 hF3
  refine c_seq (c_region (wl_p I_ok rfl (wl_nil (f_then (c_ret (f_ret1 rfl rfl ?_))))))
  rw [he]
  exact ⟨rfl, F3, by rw [← hD3]; exact h3, hX, hF3⟩
end Go.Proofs.YtlfdlodcjiaiiaaDoor
namespace Go.Proofs.YtlfdlodcjiaiiaaDoor
open Go.Vc
/-- a book that has turned, after a call that gave it bytes of K -/
def BookK (w : World) (x d : Nat) (F H K : Nat → Prop) (r : Wl × Int) (v : Value) (w' : World) : Prop :=
  v = .int .i64 r.2 ∧ ∃ F' H' : Nat → Prop, At w' d F' r.1.D ∧ BookAt w' x d H' r.1 ∧ (∀ y, F' y → F y ∨ w.heap.size ≤ y) ∧ (∀ y, H' y → (H y ∨ K y) ∨ w.heap.size ≤ y) ∧ (∀ y, H' y → ¬ F' y) ∧ Ext (fun y => F y ∨ H y) w w'
theorem bookAppend_calls (w : World) {x d m c : Nat} {H F K : Nat → Prop} {W : Wl} {p : Option Addr} {b : Bytes} (h : BookAt w x d H W) (hA : At w d F W.D) (hok : W.D.Ok m) (hm : m + 2000 < 1000000000) (hW : Wl.Ok W) (hs : SlB w p b) (hp : PieceAt w K (.slice p b.length c) b) (hK : ∀ y, K y → ¬ F y ∧ y < w.heap.size) (hHF : ∀ y, H y → ¬ F y) :
    CallsV Tryd.prog 40 [.pointer (some ⟨x, 0, none⟩), .slice p b.length c] w fun v w' => BookK w x d F H K (W.append b) v w' := by
  refine calls_enter Tryd.func40 rfl rfl rfl rfl ?_
  have hX := Ext.refl (fun y => F y ∨ H y) w
  have hsl := sectN_le b.length
  have hFlt := hA.lt
  obtain ⟨hz1, hz2⟩ := hW.size
  have hz3 := hW.few
  have hz4 := hW.room
  have hz5 := hW.turn
  have hpbl := pieceB_length W.turn W.pieces.length b
  have har : areaB W.turn W.size ≤ 2 + W.size := by unfold areaB; split <;> omega
  have hbook := h
  obtain ⟨⟨q, cq, rows, hlb, hrw, hps, hqH⟩, hxH, hlt⟩ := id h
  have hFx := hHF x hxH
  have hat := hA
  have hsb := hs
  have hpc := hp
  refine c_seq (c_region (wl_p I_ok rfl (wl_nil (f_then (c_seq (c_seq ?_))))))
  refine c_draw rfl 13 [(0, true), (1, true), (2, true), (3, true), (4, true), (5, true), (6, true), (7, true), (8, true), (9, true), (10, true), (11, false), (12, true)] [] (No) (by kernel_rfl) fun w1 hE1 hs1 => ?_
  have hlbd := hlb
  have hrwd := hrw
  have hpsd := hps
  have hatd := hat
  have hpcd := hpc
  have hsbd := hsb
  have hbookd := hbook
  have hXd := hX
  have hlb := hlb.extNo hE1
  have hrw := hrw.ext hE1 fun _ _ => id
  have hps := hps.ext hE1 fun _ _ _ => id
  have hat := hat.extNo hE1
  have hpc := hpc.ext hE1 fun _ _ _ => id
  have hsb := hsb.extNo hE1
  have hbook := hbook.extNo hE1
  have hX := hX.thenNo hE1
  have hC : Ext (No) _ w1 := hE1.no
  refine wd_k I_ok 5 rfl (wd_ld I_ok rfl rfl (fun w' hw' => ((hlbd.extNo hw').cell rfl)) ?_)
  refine wd_k I_ok 3 rfl (wd_ld I_ok rfl rfl (fun w' hw' => ((hlbd.extNo hw').cell rfl)) ?_)
  refine wd_k I_ok 1 rfl ?_
  rw [IntWalk.i64_in _ (by omega)]
  refine wd_l rfl (st_call Tryd.call71 rfl rfl rfl rfl rfl rfl (bookRefuses_calls w1 hbook (p := p) (c := c) (b := b) ((W.size : Int) - W.used)) fun v2 w2 hr2 => ⟨(by obtain ⟨rfl, hE2⟩ := hr2; exact hC.thenNo hE2), ?_⟩)
  obtain ⟨rfl, hE2⟩ := hr2
  have hlb := hlb.extNo hE2
  have hrw := hrw.ext hE2 fun _ _ => id
  have hps := hps.ext hE2 fun _ _ _ => id
  have hat := hat.extNo hE2
  have hpc := hpc.ext hE2 fun _ _ _ => id
  have hsb := hsb.extNo hE2
  have hbook := hbook.extNo hE2
  have hX := hX.thenNo hE2
  have hC := hC.thenNo hE2
  refine wd_k I_ok 1 rfl (wd_sw (wb_nil (f_then (c_seq (c_region (wl_p I_ok rfl (wl_nil (f_then (c_if rfl (fun hc => ?_) (fun hc => ?_))))))))))
  · refine c_seq ?_
    refine c_region (wl_p I_ok rfl (wl_nil (f_then (c_ret (f_thenR (f_ret1 rfl rfl ?_))))))
    rw [append_no hc]
    exact ⟨rfl, F, H, hat, hbook, fun y => .inl, fun y hy => .inl (.inl hy), hHF, hX⟩
  · have hre : W.refuses b ((W.size : Int) - W.used) = 0 := Decidable.not_not.1 hc
    obtain ⟨hb40, hbr⟩ := refuses_zero hre
    have hsp := sectN_pos hb40
    refine c_skip (f_then (c_seq (c_draw rfl 13 [(0, true), (1, true), (2, true), (3, true), (4, true), (5, true), (6, true), (7, true), (8, true), (9, true), (10, true), (11, false), (12, true)] [] (No) (by kernel_rfl) fun w3 hE3 hs3 => ?_)))
    have hlbd := hlb
    have hrwd := hrw
    have hpsd := hps
    have hatd := hat
    have hpcd := hpc
    have hsbd := hsb
    have hbookd := hbook
    have hXd := hX
    have hlb := hlb.extNo hE3
    have hrw := hrw.ext hE3 fun _ _ => id
    have hps := hps.ext hE3 fun _ _ _ => id
    have hat := hat.extNo hE3
    have hpc := hpc.ext hE3 fun _ _ _ => id
    have hsb := hsb.extNo hE3
    have hbook := hbook.extNo hE3
    have hX := hX.thenNo hE3
    have hC : Ext (No) _ w3 := hE3.no
    refine wd_k I_ok 3 rfl (wd_ld I_ok rfl rfl (fun w' hw' => ((hlbd.extNo hw').cell rfl)) ?_)
    refine wd_k I_ok 3 rfl (wd_ld I_ok rfl rfl (fun w' hw' => ((hlbd.extNo hw').cell rfl)) ?_)
    refine wd_k I_ok 2 rfl ?_
    rw [wrap32 W.pieces.length (by omega)]
    refine wd_k I_ok 1 rfl ?_
    have hX0 := hX.size
    refine wd_l rfl (st_call Tryd.call72 rfl rfl rfl rfl rfl rfl (refPiece_calls w3 W.turn W.pieces.length hz5 (by omega) hsb hb40) fun v4 w4 hr4 => ⟨(by obtain ⟨q1, k1, rfl, ho1, hon1, hE4⟩ := hr4; exact hC.thenNo hE4), ?_⟩)
    obtain ⟨q1, k1, rfl, ho1, hon1, hE4⟩ := hr4
    have hlb := hlb.extNo hE4
    have hrw := hrw.ext hE4 fun _ _ => id
    have hps := hps.ext hE4 fun _ _ _ => id
    have hat := hat.extNo hE4
    have hpc := hpc.ext hE4 fun _ _ _ => id
    have hsb := hsb.extNo hE4
    have hbook := hbook.extNo hE4
    have hX := hX.thenNo hE4
    have hC := hC.thenNo hE4
    have hon1 : ∀ y, OwnB q1 y → w.heap.size ≤ y := fun y hy => by have := hon1 y hy; omega
    refine wd_k I_ok 1 rfl (wd_sw (wb_nil (f_then (c_seq ?_))))
    refine c_draw rfl 21 [(0, true), (1, true), (2, true), (3, true), (4, true), (5, true), (6, true), (7, true), (8, true), (9, true), (10, true), (11, true), (13, true), (14, true), (15, true), (16, true), (18, true), (12, false), (17, true), (19, false), (20, true)] [] (F) (by kernel_rfl) fun w5 hE5 hs5 => ?_
    have hlbd := hlb
    have hrwd := hrw
    have hpsd := hps
    have hatd := hat
    have hpcd := hpc
    have hsbd := hsb
    have hbookd := hbook
    have ho1d := ho1
    have hXd := hX
    have hlb := hlb.extNo hE5
    have hrw := hrw.ext hE5 fun _ _ => id
    have hps := hps.ext hE5 fun _ _ _ => id
    have hat := hat.extNo hE5
    have hpc := hpc.ext hE5 fun _ _ _ => id
    have hsb := hsb.extNo hE5
    have ho1 := ho1.ext hE5 fun _ _ => id
    have hX := hX.thenNo hE5
    have hC : Ext (F) _ w5 := hE5.no
    refine wd_k I_ok 3 rfl (wd_ld I_ok rfl rfl (fun w' hw' => ((hlbd.ext hw' hFx).cell rfl)) ?_)
    refine wd_k I_ok 3 rfl (wd_ld I_ok rfl rfl (fun w' hw' => ((hlbd.ext hw' hFx).cell rfl)) ?_)
    refine wd_k I_ok 3 rfl (wd_ld I_ok rfl rfl (fun w' hw' => ((hlbd.ext hw' hFx).cell rfl)) ?_)
    refine wd_k I_ok 3 rfl (wd_ld I_ok rfl rfl (fun w' hw' => ((hlbd.ext hw' hFx).cell rfl)) ?_)
    refine wd_k I_ok 1 rfl (wd_l rfl (st_call Tryd.call73 rfl rfl rfl rfl rfl rfl (refFrom_calls w5 W.turn W.size hz5 (by omega)) fun v6 w6 hr6 => ⟨(by obtain ⟨rfl, hE6⟩ := hr6; exact hC.thenNo hE6), ?_⟩))
    obtain ⟨rfl, hE6⟩ := hr6
    have hlb := hlb.extNo hE6
    have hrw := hrw.ext hE6 fun _ _ => id
    have hps := hps.ext hE6 fun _ _ _ => id
    have hat := hat.extNo hE6
    have hpc := hpc.ext hE6 fun _ _ _ => id
    have hsb := hsb.extNo hE6
    have ho1 := ho1.ext hE6 fun _ _ => id
    have hX := hX.thenNo hE6
    have hC := hC.thenNo hE6
    refine wd_k I_ok 1 rfl ?_
    rw [show IntKind.i64.wrap ((areaB W.turn W.size : Int) + (W.used : Int)) = ((areaB W.turn W.size + W.used : Nat) : Int) from by rw [IntWalk.i64_in _ (by omega)]; omega]
    have hX1 := hX.size
    refine wd_l rfl (st_call Tryd.call68 rfl rfl rfl rfl rfl rfl (lay_calls w6 hat hok (by rw [pieceB_length]; omega) ((areaB W.turn W.size + W.used : Nat) : Int) (by omega) (pieceB_len _ _ b) (fun e => by have := pieceB_length W.turn W.pieces.length b; rw [e] at this; simp at this; omega) ho1.sl (fun y off e hF => by have := hon1 y (OwnB.of ho1 e); have := hFlt y hF; omega)) fun v7 w7 hr7 => ⟨(by obtain ⟨rfl, F2, hat2, hE7, hFs⟩ := hr7; exact hC.then hE7), ?_⟩)
    obtain ⟨rfl, F2, hat2, hE7, hFs⟩ := hr7
    have hC := hC.then hE7
    obtain ⟨y, hy⟩ : ∃ y, y = layD W.D ((areaB W.turn W.size + W.used : Nat) : Int) (pieceB W.turn W.pieces.length b) := ⟨_, rfl⟩
    rw [← hy] at hat2 ⊢
    have hX := hX.then (hE7.mono fun z _ e => .inl e)
    have hlb := hlb.ext hE7 hFx
    have hrw := hrw.ext hE7 fun z hz => hHF z (hqH z hz)
    have hps := hps.ext hE7 fun z hz _ => hHF z hz
    have hpc := hpc.ext hE7 fun z hz _ => (hK z hz).1
    have hHF2 : ∀ z, H z → ¬ F2 z := fun z hz e => (hFs z e).elim (hHF z hz) fun e => by have := hlt z hz; omega
    have hKF2 : ∀ z, K z → ¬ F2 z := fun z hz e => (hFs z e).elim (hK z hz).1 fun e => by have := (hK z hz).2; omega
    have hFs := grow_sub (fun z => .inl) hX1 hFs
    obtain ⟨N, hN⟩ : ∃ N, N = w7.heap.size := ⟨_, rfl⟩
    have hNw : w.heap.size ≤ N := by rw [hN]; exact hX.size
    have hF2lt : ∀ z, F2 z → z < N := by rw [hN]; exact hat2.lt
    refine wd_k I_ok 1 rfl (wd_sw (wb_nil (f_then ?_)))
    refine c_cutK (α := Wl × (Nat → Prop)) [7] rfl (fun z => []) (fun z u => (BookAt u x d z.2 z.1 ∧ At u d F2 z.1.D ∧ (∀ y, z.2 y → (H y ∨ K y) ∨ w.heap.size ≤ y) ∧ (∀ y, z.2 y → ¬ F2 y) ∧ W.append b = (z.1, y.2)) ∧ Ext (fun y => F y ∨ H y) w u) ?_ ?_
    · refine c_seq ?_
      refine c_region (wl_p I_ok rfl ?_)
      have hlb0 := hlb
      refine wl (st_set I_ok hlb rfl rfl (Nat.lt_of_lt_of_eq (by decide : 0 + 5 < 6) rfl) fun w8 hlb hE8 hs8 => ?_)
      have hX := hX.then (hE8.mono fun z _ e => .inr (by have e : z = x := e; rw [e]; exact hxH))
      have hat2 := hat2.ext hE8 fun z hz e => by have e : z = x := e; subst e; exact hHF2 z hxH hz
      have hrw := hrw.extTy hE8 hlb0 (by decide)
      have hps := hps.ext hE8 fun z _ ht e => by have e : z = x := e; subst e; exact ht.ne hlb0 (by decide) rfl
      have hpc := hpc.ext hE8 fun z _ ht e => by have e : z = x := e; subst e; exact ht.ne hlb0 (by decide) rfl
      refine wl_nil (f_then (c_seq (c_region (wl_p I_ok rfl (wl (st_ld I_ok rfl (hlb.cell rfl) (wl_p I_ok rfl (wl_nil (f_then (c_cond rfl (fun hc => ?_) (fun hc => ?_)))))))))))
      · have hy0 : y.2 = 0 := by simpa using hc
        have hqx : ¬ OwnB q x := fun e => (Own.ty hrw e).ne hlb (by decide) rfl
        refine c_drawX rfl 22 22 [] (fun z => OwnB q z ∨ z = x) (by kernel_rfl) fun w9 hE9 hs9 => ?_
        have hlbd := hlb
        have hrwd := hrw
        have hpsd := hps
        have hatd := hat
        have hpcd := hpc
        have hsbd := hsb
        have hbookd := hbook
        have ho1d := ho1
        have hat2d := hat2
        have hXd := hX
        have hlb := hlb.extNo hE9
        have hrw := hrw.ext hE9 fun _ _ => id
        have hps := hps.ext hE9 fun _ _ _ => id
        have hpc := hpc.ext hE9 fun _ _ _ => id
        have hat2 := hat2.extNo hE9
        have hX := hX.thenNo hE9
        have hC : Ext (fun z => OwnB q z ∨ z = x) _ w9 := hE9.no
        refine wx_plan [(0, true), (1, true), (2, true), (3, true), (4, true), (6, true), (9, true), (10, true), (11, true), (13, true), (14, true)] 11 rfl (by kernel_rfl) (wd_k I_ok 11 rfl (wd_tail rfl ?_))
        refine wx_alt [5, 7, 12] rfl (by kernel_rfl) ⟨⟨_, rfl, ?_⟩, ⟨_, rfl, ?_⟩, ⟨_, rfl, ?_⟩, trivial⟩
        · refine st_ld I_ok rfl (hlb.cell rfl) ⟨hC, ?_⟩
          refine wx_plan [] 10 rfl (by kernel_rfl) (wd_tail rfl (wx_alt [7, 12] rfl (by kernel_rfl) ⟨⟨_, rfl, ?_⟩, ⟨_, rfl, ?_⟩, trivial⟩))
          · refine st_bs I_ok rfl 1 rfl rfl rfl (by decide) (by decide) (by simp [partsOk]) (l' := [.slice p b.length c]) rfl fun b72 w10 hn72 hb72 hE10 hs10 => ⟨hC.thenNo hE10, ?_⟩
            have fr72 := Nat.le_trans hX.size hn72
            have frhC72 := Nat.le_trans hC.size hn72
            have hlb := hlb.extNo hE10
            have hrw := hrw.ext hE10 fun _ _ => id
            have hps := hps.ext hE10 fun _ _ _ => id
            have hpc := hpc.ext hE10 fun _ _ _ => id
            have hat2 := hat2.extNo hE10
            have hX := hX.thenNo hE10
            have hC := hC.thenNo hE10
            refine wx_plan [] 9 rfl (by kernel_rfl) (wd_tail rfl (wx_alt [8, 12] rfl (by kernel_rfl) ⟨⟨_, rfl, ?_⟩, ⟨_, rfl, ?_⟩, trivial⟩))
            · have hNs := hC.size
              refine st_app I_ok rfl 1 24 rfl rfl rfl (by decide) hrw (Src.slice (m := 1) ⟨rfl, .inr ⟨b72, 0, rfl, hb72.seg⟩⟩ OneC.h) (by dsimp only [maxLen]; omega) (by dsimp only; omega) fun p11 c11 w11 ho11 hE11 hB11 => ⟨hC.then (hE11.mono fun _ _ e => .inl e), ?_⟩
              have hC := hC.then (hE11.mono fun _ _ e => .inl e)
              have hX := hX.then (hE11.mono fun z _ e => .inr (hqH z e))
              have hlb := hlb.ext hE11 hqx
              have hat2 := hat2.ext hE11 fun z hz e => hHF2 z (hqH z e) hz
              have hps := hps.ext hE11 fun z hz ht e => by obtain ⟨l, hl⟩ := Own.ty hrw e; exact ht.ne hl (by decide) rfl
              have hpc := hpc.ext hE11 fun z hz ht e => by obtain ⟨l, hl⟩ := Own.ty hrw e; exact ht.ne hl (by decide) rfl
              have hqn : ∀ z, OwnB p11 z → H z ∨ N ≤ z := fun z hz => (hB11 z hz).imp (hqH z) fun e => by omega
              have hrw : Own w11 p11 (W.pieces ++ [b]).length c11 37 1 (rows ++ [.slice p b.length c]) := by rw [List.length_append]; exact ho11
              dsimp only
              obtain ⟨pn, hpn0⟩ : ∃ pn, pn = p11 := ⟨_, rfl⟩
              obtain ⟨cn, hcn0⟩ : ∃ cn, cn = c11 := ⟨_, rfl⟩
              rw [← hpn0] at hrw hqn ⊢
              rw [← hcn0] at hrw ⊢
              refine wx_plan [(12, false), (15, true), (16, true), (17, true), (18, false), (19, true), (20, true), (21, false)] 0 rfl (by kernel_rfl) (wd_l rfl (st_ld I_ok rfl (hlb.cell rfl) ⟨hC, ?_⟩))
              refine wd_k I_ok 3 rfl ?_
              have hlb0 := hlb
              refine wd_l rfl (st_set I_ok hlb rfl rfl (Nat.lt_of_lt_of_eq (by decide : 0 + 3 < 6) rfl) fun w12 hlb hE12 hs12 => ⟨hC.then (hE12.mono fun _ _ e => .inr e), ?_⟩)
              have hX := hX.then (hE12.mono fun z _ e => .inr (by have e : z = x := e; rw [e]; exact hxH))
              have hat2 := hat2.ext hE12 fun z hz e => by have e : z = x := e; subst e; exact hHF2 z hxH hz
              have hrw := hrw.extTy hE12 hlb0 (by decide)
              have hps := hps.ext hE12 fun z _ ht e => by have e : z = x := e; subst e; exact ht.ne hlb0 (by decide) rfl
              have hpc := hpc.ext hE12 fun z _ ht e => by have e : z = x := e; subst e; exact ht.ne hlb0 (by decide) rfl
              have hC := hC.then (hE12.mono fun _ _ e => .inr e)
              refine wd_k I_ok 2 rfl ?_
              rw [show IntKind.i64.wrap ((W.used : Int) + ((pieceB W.turn W.pieces.length b).length : Int)) = ((W.used + sectN b.length : Nat) : Int) from by rw [hpbl, IntWalk.i64_in _ (by omega)]; omega]
              have hlb0 := hlb
              refine wd_l rfl (st_set I_ok hlb rfl rfl (Nat.lt_of_lt_of_eq (by decide : 0 + 4 < 6) rfl) fun w13 hlb hE13 hs13 => ⟨hC.then (hE13.mono fun _ _ e => .inr e), ?_⟩)
              have hX := hX.then (hE13.mono fun z _ e => .inr (by have e : z = x := e; rw [e]; exact hxH))
              have hat2 := hat2.ext hE13 fun z hz e => by have e : z = x := e; subst e; exact hHF2 z hxH hz
              have hrw := hrw.extTy hE13 hlb0 (by decide)
              have hps := hps.ext hE13 fun z _ ht e => by have e : z = x := e; subst e; exact ht.ne hlb0 (by decide) rfl
              have hpc := hpc.ext hE13 fun z _ ht e => by have e : z = x := e; subst e; exact ht.ne hlb0 (by decide) rfl
              have hnw := hat2.lt
              have hhr := fun z (hz : OwnB pn z) => hrw.lt hz
              have hxw := hX.size
              refine wd_sw (wb_nil ?_)
              exact f_cut ({ W with D := y.1, broken := false, pieces := W.pieces ++ [b], used := W.used + sectN b.length }, fun z => (H z ∨ K z) ∨ (N ≤ z ∧ z < w13.heap.size)) rfl ⟨⟨⟨⟨pn, cn, _, by dsimp only; rw [List.length_append]; rw [decide_eq_false (fun e => e hy0)] at hlb; exact hlb, hrw, (PiecesAt.mono hps fun z hz => .inl (.inl hz)).snoc (PieceAt.mono hpc fun z hz => .inl (.inr hz)), fun z hz => (hqn z hz).elim (fun e => .inl (.inl e)) fun e => .inr ⟨e, hhr z hz⟩⟩, .inl (.inl hxH), fun z hz => hz.elim (fun e => e.elim (fun e => Nat.lt_of_lt_of_le (hlt z e) hxw) fun e => Nat.lt_of_lt_of_le (hK z e).2 hxw) fun e => e.2⟩, hat2, fun z hz => hz.imp id fun e => Nat.le_trans hNw e.1, fun z hz e => hz.elim (fun h => h.elim (fun h => hHF2 z h e) fun h => hKF2 z h e) fun h => by have := hF2lt z e; omega, by rw [hy0]; exact append_ok hre hy hy0⟩, hX⟩
            · refine st_ld I_ok rfl (hlb.cell rfl) ⟨hC, ?_⟩
              refine wx_plan [(15, true), (8, false), (16, true), (17, true), (18, false), (19, true), (20, true), (21, false)] 0 rfl (by kernel_rfl) (wd_k I_ok 1 rfl ?_)
              have hNs := hC.size
              refine wd_l rfl (st_app I_ok rfl 1 24 rfl rfl rfl (by decide) hrw (Src.slice (m := 1) ⟨rfl, .inr ⟨b72, 0, rfl, hb72.seg⟩⟩ OneC.h) (by dsimp only [maxLen]; omega) (by dsimp only; omega) fun p14 c14 w14 ho14 hE14 hB14 => ⟨hC.then (hE14.mono fun _ _ e => .inl e), ?_⟩)
              have hC := hC.then (hE14.mono fun _ _ e => .inl e)
              have hX := hX.then (hE14.mono fun z _ e => .inr (hqH z e))
              have hlb := hlb.ext hE14 hqx
              have hat2 := hat2.ext hE14 fun z hz e => hHF2 z (hqH z e) hz
              have hps := hps.ext hE14 fun z hz ht e => by obtain ⟨l, hl⟩ := Own.ty hrw e; exact ht.ne hl (by decide) rfl
              have hpc := hpc.ext hE14 fun z hz ht e => by obtain ⟨l, hl⟩ := Own.ty hrw e; exact ht.ne hl (by decide) rfl
              have hqn : ∀ z, OwnB p14 z → H z ∨ N ≤ z := fun z hz => (hB14 z hz).imp (hqH z) fun e => by omega
              have hrw : Own w14 p14 (W.pieces ++ [b]).length c14 37 1 (rows ++ [.slice p b.length c]) := by rw [List.length_append]; exact ho14
              dsimp only
              obtain ⟨pn, hpn0⟩ : ∃ pn, pn = p14 := ⟨_, rfl⟩
              obtain ⟨cn, hcn0⟩ : ∃ cn, cn = c14 := ⟨_, rfl⟩
              rw [← hpn0] at hrw hqn ⊢
              rw [← hcn0] at hrw ⊢
              refine wd_k I_ok 2 rfl ?_
              have hlb0 := hlb
              refine wd_l rfl (st_set I_ok hlb rfl rfl (Nat.lt_of_lt_of_eq (by decide : 0 + 3 < 6) rfl) fun w15 hlb hE15 hs15 => ⟨hC.then (hE15.mono fun _ _ e => .inr e), ?_⟩)
              have hX := hX.then (hE15.mono fun z _ e => .inr (by have e : z = x := e; rw [e]; exact hxH))
              have hat2 := hat2.ext hE15 fun z hz e => by have e : z = x := e; subst e; exact hHF2 z hxH hz
              have hrw := hrw.extTy hE15 hlb0 (by decide)
              have hps := hps.ext hE15 fun z _ ht e => by have e : z = x := e; subst e; exact ht.ne hlb0 (by decide) rfl
              have hpc := hpc.ext hE15 fun z _ ht e => by have e : z = x := e; subst e; exact ht.ne hlb0 (by decide) rfl
              have hC := hC.then (hE15.mono fun _ _ e => .inr e)
              refine wd_k I_ok 2 rfl ?_
              rw [show IntKind.i64.wrap ((W.used : Int) + ((pieceB W.turn W.pieces.length b).length : Int)) = ((W.used + sectN b.length : Nat) : Int) from by rw [hpbl, IntWalk.i64_in _ (by omega)]; omega]
              have hlb0 := hlb
              refine wd_l rfl (st_set I_ok hlb rfl rfl (Nat.lt_of_lt_of_eq (by decide : 0 + 4 < 6) rfl) fun w16 hlb hE16 hs16 => ⟨hC.then (hE16.mono fun _ _ e => .inr e), ?_⟩)
              have hX := hX.then (hE16.mono fun z _ e => .inr (by have e : z = x := e; rw [e]; exact hxH))
              have hat2 := hat2.ext hE16 fun z hz e => by have e : z = x := e; subst e; exact hHF2 z hxH hz
              have hrw := hrw.extTy hE16 hlb0 (by decide)
              have hps := hps.ext hE16 fun z _ ht e => by have e : z = x := e; subst e; exact ht.ne hlb0 (by decide) rfl
              have hpc := hpc.ext hE16 fun z _ ht e => by have e : z = x := e; subst e; exact ht.ne hlb0 (by decide) rfl
              have hnw := hat2.lt
              have hhr := fun z (hz : OwnB pn z) => hrw.lt hz
              have hxw := hX.size
              refine wd_sw (wb_nil ?_)
              exact f_cut ({ W with D := y.1, broken := false, pieces := W.pieces ++ [b], used := W.used + sectN b.length }, fun z => (H z ∨ K z) ∨ (N ≤ z ∧ z < w16.heap.size)) rfl ⟨⟨⟨⟨pn, cn, _, by dsimp only; rw [List.length_append]; rw [decide_eq_false (fun e => e hy0)] at hlb; exact hlb, hrw, (PiecesAt.mono hps fun z hz => .inl (.inl hz)).snoc (PieceAt.mono hpc fun z hz => .inl (.inr hz)), fun z hz => (hqn z hz).elim (fun e => .inl (.inl e)) fun e => .inr ⟨e, hhr z hz⟩⟩, .inl (.inl hxH), fun z hz => hz.elim (fun e => e.elim (fun e => Nat.lt_of_lt_of_le (hlt z e) hxw) fun e => Nat.lt_of_lt_of_le (hK z e).2 hxw) fun e => e.2⟩, hat2, fun z hz => hz.imp id fun e => Nat.le_trans hNw e.1, fun z hz e => hz.elim (fun h => h.elim (fun h => hHF2 z h e) fun h => hKF2 z h e) fun h => by have := hF2lt z e; omega, by rw [hy0]; exact append_ok hre hy hy0⟩, hX⟩
          · refine st_ld I_ok rfl (hlb.cell rfl) ⟨hC, ?_⟩
            refine wx_plan [(15, true), (7, false), (8, false), (16, true), (17, true), (18, false), (19, true), (20, true), (21, false)] 0 rfl (by kernel_rfl) (wd_k I_ok 1 rfl ?_)
            refine wd_l rfl (st_bs I_ok rfl 1 rfl rfl rfl (by decide) (by decide) (by simp [partsOk]) (l' := [.slice p b.length c]) rfl fun b72 w17 hn72 hb72 hE17 hs17 => ⟨hC.thenNo hE17, ?_⟩)
            have fr72 := Nat.le_trans hX.size hn72
            have frhC72 := Nat.le_trans hC.size hn72
            have hlb := hlb.extNo hE17
            have hrw := hrw.ext hE17 fun _ _ => id
            have hps := hps.ext hE17 fun _ _ _ => id
            have hpc := hpc.ext hE17 fun _ _ _ => id
            have hat2 := hat2.extNo hE17
            have hX := hX.thenNo hE17
            have hC := hC.thenNo hE17
            have hNs := hC.size
            refine wd_l rfl (st_app I_ok rfl 1 24 rfl rfl rfl (by decide) hrw (Src.slice (m := 1) ⟨rfl, .inr ⟨b72, 0, rfl, hb72.seg⟩⟩ OneC.h) (by dsimp only [maxLen]; omega) (by dsimp only; omega) fun p18 c18 w18 ho18 hE18 hB18 => ⟨hC.then (hE18.mono fun _ _ e => .inl e), ?_⟩)
            have hC := hC.then (hE18.mono fun _ _ e => .inl e)
            have hX := hX.then (hE18.mono fun z _ e => .inr (hqH z e))
            have hlb := hlb.ext hE18 hqx
            have hat2 := hat2.ext hE18 fun z hz e => hHF2 z (hqH z e) hz
            have hps := hps.ext hE18 fun z hz ht e => by obtain ⟨l, hl⟩ := Own.ty hrw e; exact ht.ne hl (by decide) rfl
            have hpc := hpc.ext hE18 fun z hz ht e => by obtain ⟨l, hl⟩ := Own.ty hrw e; exact ht.ne hl (by decide) rfl
            have hqn : ∀ z, OwnB p18 z → H z ∨ N ≤ z := fun z hz => (hB18 z hz).imp (hqH z) fun e => by omega
            have hrw : Own w18 p18 (W.pieces ++ [b]).length c18 37 1 (rows ++ [.slice p b.length c]) := by rw [List.length_append]; exact ho18
            dsimp only
            obtain ⟨pn, hpn0⟩ : ∃ pn, pn = p18 := ⟨_, rfl⟩
            obtain ⟨cn, hcn0⟩ : ∃ cn, cn = c18 := ⟨_, rfl⟩
            rw [← hpn0] at hrw hqn ⊢
            rw [← hcn0] at hrw ⊢
            refine wd_k I_ok 2 rfl ?_
            have hlb0 := hlb
            refine wd_l rfl (st_set I_ok hlb rfl rfl (Nat.lt_of_lt_of_eq (by decide : 0 + 3 < 6) rfl) fun w19 hlb hE19 hs19 => ⟨hC.then (hE19.mono fun _ _ e => .inr e), ?_⟩)
            have hX := hX.then (hE19.mono fun z _ e => .inr (by have e : z = x := e; rw [e]; exact hxH))
            have hat2 := hat2.ext hE19 fun z hz e => by have e : z = x := e; subst e; exact hHF2 z hxH hz
            have hrw := hrw.extTy hE19 hlb0 (by decide)
            have hps := hps.ext hE19 fun z _ ht e => by have e : z = x := e; subst e; exact ht.ne hlb0 (by decide) rfl
            have hpc := hpc.ext hE19 fun z _ ht e => by have e : z = x := e; subst e; exact ht.ne hlb0 (by decide) rfl
            have hC := hC.then (hE19.mono fun _ _ e => .inr e)
            refine wd_k I_ok 2 rfl ?_
            rw [show IntKind.i64.wrap ((W.used : Int) + ((pieceB W.turn W.pieces.length b).length : Int)) = ((W.used + sectN b.length : Nat) : Int) from by rw [hpbl, IntWalk.i64_in _ (by omega)]; omega]
            have hlb0 := hlb
            refine wd_l rfl (st_set I_ok hlb rfl rfl (Nat.lt_of_lt_of_eq (by decide : 0 + 4 < 6) rfl) fun w20 hlb hE20 hs20 => ⟨hC.then (hE20.mono fun _ _ e => .inr e), ?_⟩)
            have hX := hX.then (hE20.mono fun z _ e => .inr (by have e : z = x := e; rw [e]; exact hxH))
            have hat2 := hat2.ext hE20 fun z hz e => by have e : z = x := e; subst e; exact hHF2 z hxH hz
            have hrw := hrw.extTy hE20 hlb0 (by decide)
            have hps := hps.ext hE20 fun z _ ht e => by have e : z = x := e; subst e; exact ht.ne hlb0 (by decide) rfl
            have hpc := hpc.ext hE20 fun z _ ht e => by have e : z = x := e; subst e; exact ht.ne hlb0 (by decide) rfl
            have hnw := hat2.lt
            have hhr := fun z (hz : OwnB pn z) => hrw.lt hz
            have hxw := hX.size
            refine wd_sw (wb_nil ?_)
            exact f_cut ({ W with D := y.1, broken := false, pieces := W.pieces ++ [b], used := W.used + sectN b.length }, fun z => (H z ∨ K z) ∨ (N ≤ z ∧ z < w20.heap.size)) rfl ⟨⟨⟨⟨pn, cn, _, by dsimp only; rw [List.length_append]; rw [decide_eq_false (fun e => e hy0)] at hlb; exact hlb, hrw, (PiecesAt.mono hps fun z hz => .inl (.inl hz)).snoc (PieceAt.mono hpc fun z hz => .inl (.inr hz)), fun z hz => (hqn z hz).elim (fun e => .inl (.inl e)) fun e => .inr ⟨e, hhr z hz⟩⟩, .inl (.inl hxH), fun z hz => hz.elim (fun e => e.elim (fun e => Nat.lt_of_lt_of_le (hlt z e) hxw) fun e => Nat.lt_of_lt_of_le (hK z e).2 hxw) fun e => e.2⟩, hat2, fun z hz => hz.imp id fun e => Nat.le_trans hNw e.1, fun z hz e => hz.elim (fun h => h.elim (fun h => hHF2 z h e) fun h => hKF2 z h e) fun h => by have := hF2lt z e; omega, by rw [hy0]; exact append_ok hre hy hy0⟩, hX⟩
        · refine st_bs I_ok rfl 1 rfl rfl rfl (by decide) (by decide) (by simp [partsOk]) (l' := [.slice p b.length c]) rfl fun b72 w21 hn72 hb72 hE21 hs21 => ⟨hC.thenNo hE21, ?_⟩
          have fr72 := Nat.le_trans hX.size hn72
          have frhC72 := Nat.le_trans hC.size hn72
          have hlb := hlb.extNo hE21
          have hrw := hrw.ext hE21 fun _ _ => id
          have hps := hps.ext hE21 fun _ _ _ => id
          have hpc := hpc.ext hE21 fun _ _ _ => id
          have hat2 := hat2.extNo hE21
          have hX := hX.thenNo hE21
          have hC := hC.thenNo hE21
          refine wx_plan [] 10 rfl (by kernel_rfl) (wd_tail rfl (wx_alt [5, 12] rfl (by kernel_rfl) ⟨⟨_, rfl, ?_⟩, ⟨_, rfl, ?_⟩, trivial⟩))
          · refine st_ld I_ok rfl (hlb.cell rfl) ⟨hC, ?_⟩
            refine wx_plan [] 9 rfl (by kernel_rfl) (wd_tail rfl (wx_alt [8, 12] rfl (by kernel_rfl) ⟨⟨_, rfl, ?_⟩, ⟨_, rfl, ?_⟩, trivial⟩))
            · have hNs := hC.size
              refine st_app I_ok rfl 1 24 rfl rfl rfl (by decide) hrw (Src.slice (m := 1) ⟨rfl, .inr ⟨b72, 0, rfl, hb72.seg⟩⟩ OneC.h) (by dsimp only [maxLen]; omega) (by dsimp only; omega) fun p22 c22 w22 ho22 hE22 hB22 => ⟨hC.then (hE22.mono fun _ _ e => .inl e), ?_⟩
              have hC := hC.then (hE22.mono fun _ _ e => .inl e)
              have hX := hX.then (hE22.mono fun z _ e => .inr (hqH z e))
              have hlb := hlb.ext hE22 hqx
              have hat2 := hat2.ext hE22 fun z hz e => hHF2 z (hqH z e) hz
              have hps := hps.ext hE22 fun z hz ht e => by obtain ⟨l, hl⟩ := Own.ty hrw e; exact ht.ne hl (by decide) rfl
              have hpc := hpc.ext hE22 fun z hz ht e => by obtain ⟨l, hl⟩ := Own.ty hrw e; exact ht.ne hl (by decide) rfl
              have hqn : ∀ z, OwnB p22 z → H z ∨ N ≤ z := fun z hz => (hB22 z hz).imp (hqH z) fun e => by omega
              have hrw : Own w22 p22 (W.pieces ++ [b]).length c22 37 1 (rows ++ [.slice p b.length c]) := by rw [List.length_append]; exact ho22
              dsimp only
              obtain ⟨pn, hpn0⟩ : ∃ pn, pn = p22 := ⟨_, rfl⟩
              obtain ⟨cn, hcn0⟩ : ∃ cn, cn = c22 := ⟨_, rfl⟩
              rw [← hpn0] at hrw hqn ⊢
              rw [← hcn0] at hrw ⊢
              refine wx_plan [(12, false), (15, true), (16, true), (17, true), (18, false), (19, true), (20, true), (21, false)] 0 rfl (by kernel_rfl) (wd_l rfl (st_ld I_ok rfl (hlb.cell rfl) ⟨hC, ?_⟩))
              refine wd_k I_ok 3 rfl ?_
              have hlb0 := hlb
              refine wd_l rfl (st_set I_ok hlb rfl rfl (Nat.lt_of_lt_of_eq (by decide : 0 + 3 < 6) rfl) fun w23 hlb hE23 hs23 => ⟨hC.then (hE23.mono fun _ _ e => .inr e), ?_⟩)
              have hX := hX.then (hE23.mono fun z _ e => .inr (by have e : z = x := e; rw [e]; exact hxH))
              have hat2 := hat2.ext hE23 fun z hz e => by have e : z = x := e; subst e; exact hHF2 z hxH hz
              have hrw := hrw.extTy hE23 hlb0 (by decide)
              have hps := hps.ext hE23 fun z _ ht e => by have e : z = x := e; subst e; exact ht.ne hlb0 (by decide) rfl
              have hpc := hpc.ext hE23 fun z _ ht e => by have e : z = x := e; subst e; exact ht.ne hlb0 (by decide) rfl
              have hC := hC.then (hE23.mono fun _ _ e => .inr e)
              refine wd_k I_ok 2 rfl ?_
              rw [show IntKind.i64.wrap ((W.used : Int) + ((pieceB W.turn W.pieces.length b).length : Int)) = ((W.used + sectN b.length : Nat) : Int) from by rw [hpbl, IntWalk.i64_in _ (by omega)]; omega]
              have hlb0 := hlb
              refine wd_l rfl (st_set I_ok hlb rfl rfl (Nat.lt_of_lt_of_eq (by decide : 0 + 4 < 6) rfl) fun w24 hlb hE24 hs24 => ⟨hC.then (hE24.mono fun _ _ e => .inr e), ?_⟩)
              have hX := hX.then (hE24.mono fun z _ e => .inr (by have e : z = x := e; rw [e]; exact hxH))
              have hat2 := hat2.ext hE24 fun z hz e => by have e : z = x := e; subst e; exact hHF2 z hxH hz
              have hrw := hrw.extTy hE24 hlb0 (by decide)
              have hps := hps.ext hE24 fun z _ ht e => by have e : z = x := e; subst e; exact ht.ne hlb0 (by decide) rfl
              have hpc := hpc.ext hE24 fun z _ ht e => by have e : z = x := e; subst e; exact ht.ne hlb0 (by decide) rfl
              have hnw := hat2.lt
              have hhr := fun z (hz : OwnB pn z) => hrw.lt hz
              have hxw := hX.size
              refine wd_sw (wb_nil ?_)
              exact f_cut ({ W with D := y.1, broken := false, pieces := W.pieces ++ [b], used := W.used + sectN b.length }, fun z => (H z ∨ K z) ∨ (N ≤ z ∧ z < w24.heap.size)) rfl ⟨⟨⟨⟨pn, cn, _, by dsimp only; rw [List.length_append]; rw [decide_eq_false (fun e => e hy0)] at hlb; exact hlb, hrw, (PiecesAt.mono hps fun z hz => .inl (.inl hz)).snoc (PieceAt.mono hpc fun z hz => .inl (.inr hz)), fun z hz => (hqn z hz).elim (fun e => .inl (.inl e)) fun e => .inr ⟨e, hhr z hz⟩⟩, .inl (.inl hxH), fun z hz => hz.elim (fun e => e.elim (fun e => Nat.lt_of_lt_of_le (hlt z e) hxw) fun e => Nat.lt_of_lt_of_le (hK z e).2 hxw) fun e => e.2⟩, hat2, fun z hz => hz.imp id fun e => Nat.le_trans hNw e.1, fun z hz e => hz.elim (fun h => h.elim (fun h => hHF2 z h e) fun h => hKF2 z h e) fun h => by have := hF2lt z e; omega, by rw [hy0]; exact append_ok hre hy hy0⟩, hX⟩
            · refine st_ld I_ok rfl (hlb.cell rfl) ⟨hC, ?_⟩
              refine wx_plan [(15, true), (8, false), (16, true), (17, true), (18, false), (19, true), (20, true), (21, false)] 0 rfl (by kernel_rfl) (wd_k I_ok 1 rfl ?_)
              have hNs := hC.size
              refine wd_l rfl (st_app I_ok rfl 1 24 rfl rfl rfl (by decide) hrw (Src.slice (m := 1) ⟨rfl, .inr ⟨b72, 0, rfl, hb72.seg⟩⟩ OneC.h) (by dsimp only [maxLen]; omega) (by dsimp only; omega) fun p25 c25 w25 ho25 hE25 hB25 => ⟨hC.then (hE25.mono fun _ _ e => .inl e), ?_⟩)
              have hC := hC.then (hE25.mono fun _ _ e => .inl e)
              have hX := hX.then (hE25.mono fun z _ e => .inr (hqH z e))
              have hlb := hlb.ext hE25 hqx
              have hat2 := hat2.ext hE25 fun z hz e => hHF2 z (hqH z e) hz
              have hps := hps.ext hE25 fun z hz ht e => by obtain ⟨l, hl⟩ := Own.ty hrw e; exact ht.ne hl (by decide) rfl
              have hpc := hpc.ext hE25 fun z hz ht e => by obtain ⟨l, hl⟩ := Own.ty hrw e; exact ht.ne hl (by decide) rfl
              have hqn : ∀ z, OwnB p25 z → H z ∨ N ≤ z := fun z hz => (hB25 z hz).imp (hqH z) fun e => by omega
              have hrw : Own w25 p25 (W.pieces ++ [b]).length c25 37 1 (rows ++ [.slice p b.length c]) := by rw [List.length_append]; exact ho25
              dsimp only
              obtain ⟨pn, hpn0⟩ : ∃ pn, pn = p25 := ⟨_, rfl⟩
              obtain ⟨cn, hcn0⟩ : ∃ cn, cn = c25 := ⟨_, rfl⟩
              rw [← hpn0] at hrw hqn ⊢
              rw [← hcn0] at hrw ⊢
              refine wd_k I_ok 2 rfl ?_
              have hlb0 := hlb
              refine wd_l rfl (st_set I_ok hlb rfl rfl (Nat.lt_of_lt_of_eq (by decide : 0 + 3 < 6) rfl) fun w26 hlb hE26 hs26 => ⟨hC.then (hE26.mono fun _ _ e => .inr e), ?_⟩)
              have hX := hX.then (hE26.mono fun z _ e => .inr (by have e : z = x := e; rw [e]; exact hxH))
              have hat2 := hat2.ext hE26 fun z hz e => by have e : z = x := e; subst e; exact hHF2 z hxH hz
              have hrw := hrw.extTy hE26 hlb0 (by decide)
              have hps := hps.ext hE26 fun z _ ht e => by have e : z = x := e; subst e; exact ht.ne hlb0 (by decide) rfl
              have hpc := hpc.ext hE26 fun z _ ht e => by have e : z = x := e; subst e; exact ht.ne hlb0 (by decide) rfl
              have hC := hC.then (hE26.mono fun _ _ e => .inr e)
              refine wd_k I_ok 2 rfl ?_
              rw [show IntKind.i64.wrap ((W.used : Int) + ((pieceB W.turn W.pieces.length b).length : Int)) = ((W.used + sectN b.length : Nat) : Int) from by rw [hpbl, IntWalk.i64_in _ (by omega)]; omega]
              have hlb0 := hlb
              refine wd_l rfl (st_set I_ok hlb rfl rfl (Nat.lt_of_lt_of_eq (by decide : 0 + 4 < 6) rfl) fun w27 hlb hE27 hs27 => ⟨hC.then (hE27.mono fun _ _ e => .inr e), ?_⟩)
              have hX := hX.then (hE27.mono fun z _ e => .inr (by have e : z = x := e; rw [e]; exact hxH))
              have hat2 := hat2.ext hE27 fun z hz e => by have e : z = x := e; subst e; exact hHF2 z hxH hz
              have hrw := hrw.extTy hE27 hlb0 (by decide)
              have hps := hps.ext hE27 fun z _ ht e => by have e : z = x := e; subst e; exact ht.ne hlb0 (by decide) rfl
              have hpc := hpc.ext hE27 fun z _ ht e => by have e : z = x := e; subst e; exact ht.ne hlb0 (by decide) rfl
              have hnw := hat2.lt
              have hhr := fun z (hz : OwnB pn z) => hrw.lt hz
              have hxw := hX.size
              refine wd_sw (wb_nil ?_)
              exact f_cut ({ W with D := y.1, broken := false, pieces := W.pieces ++ [b], used := W.used + sectN b.length }, fun z => (H z ∨ K z) ∨ (N ≤ z ∧ z < w27.heap.size)) rfl ⟨⟨⟨⟨pn, cn, _, by dsimp only; rw [List.length_append]; rw [decide_eq_false (fun e => e hy0)] at hlb; exact hlb, hrw, (PiecesAt.mono hps fun z hz => .inl (.inl hz)).snoc (PieceAt.mono hpc fun z hz => .inl (.inr hz)), fun z hz => (hqn z hz).elim (fun e => .inl (.inl e)) fun e => .inr ⟨e, hhr z hz⟩⟩, .inl (.inl hxH), fun z hz => hz.elim (fun e => e.elim (fun e => Nat.lt_of_lt_of_le (hlt z e) hxw) fun e => Nat.lt_of_lt_of_le (hK z e).2 hxw) fun e => e.2⟩, hat2, fun z hz => hz.imp id fun e => Nat.le_trans hNw e.1, fun z hz e => hz.elim (fun h => h.elim (fun h => hHF2 z h e) fun h => hKF2 z h e) fun h => by have := hF2lt z e; omega, by rw [hy0]; exact append_ok hre hy hy0⟩, hX⟩
          · refine st_ld I_ok rfl (hlb.cell rfl) ⟨hC, ?_⟩
            refine wx_plan [(15, true), (5, false), (8, false), (16, true), (17, true), (18, false), (19, true), (20, true), (21, false)] 0 rfl (by kernel_rfl) (wd_k I_ok 1 rfl (wd_l rfl (st_ld I_ok rfl (hlb.cell rfl) ⟨hC, ?_⟩)))
            have hNs := hC.size
            refine wd_l rfl (st_app I_ok rfl 1 24 rfl rfl rfl (by decide) hrw (Src.slice (m := 1) ⟨rfl, .inr ⟨b72, 0, rfl, hb72.seg⟩⟩ OneC.h) (by dsimp only [maxLen]; omega) (by dsimp only; omega) fun p28 c28 w28 ho28 hE28 hB28 => ⟨hC.then (hE28.mono fun _ _ e => .inl e), ?_⟩)
            have hC := hC.then (hE28.mono fun _ _ e => .inl e)
            have hX := hX.then (hE28.mono fun z _ e => .inr (hqH z e))
            have hlb := hlb.ext hE28 hqx
            have hat2 := hat2.ext hE28 fun z hz e => hHF2 z (hqH z e) hz
            have hps := hps.ext hE28 fun z hz ht e => by obtain ⟨l, hl⟩ := Own.ty hrw e; exact ht.ne hl (by decide) rfl
            have hpc := hpc.ext hE28 fun z hz ht e => by obtain ⟨l, hl⟩ := Own.ty hrw e; exact ht.ne hl (by decide) rfl
            have hqn : ∀ z, OwnB p28 z → H z ∨ N ≤ z := fun z hz => (hB28 z hz).imp (hqH z) fun e => by omega
            have hrw : Own w28 p28 (W.pieces ++ [b]).length c28 37 1 (rows ++ [.slice p b.length c]) := by rw [List.length_append]; exact ho28
            dsimp only
            obtain ⟨pn, hpn0⟩ : ∃ pn, pn = p28 := ⟨_, rfl⟩
            obtain ⟨cn, hcn0⟩ : ∃ cn, cn = c28 := ⟨_, rfl⟩
            rw [← hpn0] at hrw hqn ⊢
            rw [← hcn0] at hrw ⊢
            refine wd_k I_ok 2 rfl ?_
            have hlb0 := hlb
            refine wd_l rfl (st_set I_ok hlb rfl rfl (Nat.lt_of_lt_of_eq (by decide : 0 + 3 < 6) rfl) fun w29 hlb hE29 hs29 => ⟨hC.then (hE29.mono fun _ _ e => .inr e), ?_⟩)
            have hX := hX.then (hE29.mono fun z _ e => .inr (by have e : z = x := e; rw [e]; exact hxH))
            have hat2 := hat2.ext hE29 fun z hz e => by have e : z = x := e; subst e; exact hHF2 z hxH hz
            have hrw := hrw.extTy hE29 hlb0 (by decide)
            have hps := hps.ext hE29 fun z _ ht e => by have e : z = x := e; subst e; exact ht.ne hlb0 (by decide) rfl
            have hpc := hpc.ext hE29 fun z _ ht e => by have e : z = x := e; subst e; exact ht.ne hlb0 (by decide) rfl
            have hC := hC.then (hE29.mono fun _ _ e => .inr e)
            refine wd_k I_ok 2 rfl ?_
            rw [show IntKind.i64.wrap ((W.used : Int) + ((pieceB W.turn W.pieces.length b).length : Int)) = ((W.used + sectN b.length : Nat) : Int) from by rw [hpbl, IntWalk.i64_in _ (by omega)]; omega]
            have hlb0 := hlb
            refine wd_l rfl (st_set I_ok hlb rfl rfl (Nat.lt_of_lt_of_eq (by decide : 0 + 4 < 6) rfl) fun w30 hlb hE30 hs30 => ⟨hC.then (hE30.mono fun _ _ e => .inr e), ?_⟩)
            have hX := hX.then (hE30.mono fun z _ e => .inr (by have e : z = x := e; rw [e]; exact hxH))
            have hat2 := hat2.ext hE30 fun z hz e => by have e : z = x := e; subst e; exact hHF2 z hxH hz
            have hrw := hrw.extTy hE30 hlb0 (by decide)
            have hps := hps.ext hE30 fun z _ ht e => by have e : z = x := e; subst e; exact ht.ne hlb0 (by decide) rfl
            have hpc := hpc.ext hE30 fun z _ ht e => by have e : z = x := e; subst e; exact ht.ne hlb0 (by decide) rfl
            have hnw := hat2.lt
            have hhr := fun z (hz : OwnB pn z) => hrw.lt hz
            have hxw := hX.size
            refine wd_sw (wb_nil ?_)
            exact f_cut ({ W with D := y.1, broken := false, pieces := W.pieces ++ [b], used := W.used + sectN b.length }, fun z => (H z ∨ K z) ∨ (N ≤ z ∧ z < w30.heap.size)) rfl ⟨⟨⟨⟨pn, cn, _, by dsimp only; rw [List.length_append]; rw [decide_eq_false (fun e => e hy0)] at hlb; exact hlb, hrw, (PiecesAt.mono hps fun z hz => .inl (.inl hz)).snoc (PieceAt.mono hpc fun z hz => .inl (.inr hz)), fun z hz => (hqn z hz).elim (fun e => .inl (.inl e)) fun e => .inr ⟨e, hhr z hz⟩⟩, .inl (.inl hxH), fun z hz => hz.elim (fun e => e.elim (fun e => Nat.lt_of_lt_of_le (hlt z e) hxw) fun e => Nat.lt_of_lt_of_le (hK z e).2 hxw) fun e => e.2⟩, hat2, fun z hz => hz.imp id fun e => Nat.le_trans hNw e.1, fun z hz e => hz.elim (fun h => h.elim (fun h => hHF2 z h e) fun h => hKF2 z h e) fun h => by have := hF2lt z e; omega, by rw [hy0]; exact append_ok hre hy hy0⟩, hX⟩
        · refine st_ld I_ok rfl (hlb.cell rfl) ⟨hC, ?_⟩
          refine wx_plan [(15, true)] 9 rfl (by kernel_rfl) (wd_k I_ok 1 rfl (wd_tail rfl (wx_alt [5, 7] rfl (by kernel_rfl) ⟨⟨_, rfl, ?_⟩, ⟨_, rfl, ?_⟩, trivial⟩)))
          · refine st_ld I_ok rfl (hlb.cell rfl) ⟨hC, ?_⟩
            refine wx_plan [(7, false), (8, false), (16, true), (17, true), (18, false), (19, true), (20, true), (21, false)] 0 rfl (by kernel_rfl) ?_
            refine wd_l rfl (st_bs I_ok rfl 1 rfl rfl rfl (by decide) (by decide) (by simp [partsOk]) (l' := [.slice p b.length c]) rfl fun b72 w31 hn72 hb72 hE31 hs31 => ⟨hC.thenNo hE31, ?_⟩)
            have fr72 := Nat.le_trans hX.size hn72
            have frhC72 := Nat.le_trans hC.size hn72
            have hlb := hlb.extNo hE31
            have hrw := hrw.ext hE31 fun _ _ => id
            have hps := hps.ext hE31 fun _ _ _ => id
            have hpc := hpc.ext hE31 fun _ _ _ => id
            have hat2 := hat2.extNo hE31
            have hX := hX.thenNo hE31
            have hC := hC.thenNo hE31
            have hNs := hC.size
            refine wd_l rfl (st_app I_ok rfl 1 24 rfl rfl rfl (by decide) hrw (Src.slice (m := 1) ⟨rfl, .inr ⟨b72, 0, rfl, hb72.seg⟩⟩ OneC.h) (by dsimp only [maxLen]; omega) (by dsimp only; omega) fun p32 c32 w32 ho32 hE32 hB32 => ⟨hC.then (hE32.mono fun _ _ e => .inl e), ?_⟩)
            have hC := hC.then (hE32.mono fun _ _ e => .inl e)
            have hX := hX.then (hE32.mono fun z _ e => .inr (hqH z e))
            have hlb := hlb.ext hE32 hqx
            have hat2 := hat2.ext hE32 fun z hz e => hHF2 z (hqH z e) hz
            have hps := hps.ext hE32 fun z hz ht e => by obtain ⟨l, hl⟩ := Own.ty hrw e; exact ht.ne hl (by decide) rfl
            have hpc := hpc.ext hE32 fun z hz ht e => by obtain ⟨l, hl⟩ := Own.ty hrw e; exact ht.ne hl (by decide) rfl
            have hqn : ∀ z, OwnB p32 z → H z ∨ N ≤ z := fun z hz => (hB32 z hz).imp (hqH z) fun e => by omega
            have hrw : Own w32 p32 (W.pieces ++ [b]).length c32 37 1 (rows ++ [.slice p b.length c]) := by rw [List.length_append]; exact ho32
            dsimp only
            obtain ⟨pn, hpn0⟩ : ∃ pn, pn = p32 := ⟨_, rfl⟩
            obtain ⟨cn, hcn0⟩ : ∃ cn, cn = c32 := ⟨_, rfl⟩
            rw [← hpn0] at hrw hqn ⊢
            rw [← hcn0] at hrw ⊢
            refine wd_k I_ok 2 rfl ?_
            have hlb0 := hlb
            refine wd_l rfl (st_set I_ok hlb rfl rfl (Nat.lt_of_lt_of_eq (by decide : 0 + 3 < 6) rfl) fun w33 hlb hE33 hs33 => ⟨hC.then (hE33.mono fun _ _ e => .inr e), ?_⟩)
            have hX := hX.then (hE33.mono fun z _ e => .inr (by have e : z = x := e; rw [e]; exact hxH))
            have hat2 := hat2.ext hE33 fun z hz e => by have e : z = x := e; subst e; exact hHF2 z hxH hz
            have hrw := hrw.extTy hE33 hlb0 (by decide)
            have hps := hps.ext hE33 fun z _ ht e => by have e : z = x := e; subst e; exact ht.ne hlb0 (by decide) rfl
            have hpc := hpc.ext hE33 fun z _ ht e => by have e : z = x := e; subst e; exact ht.ne hlb0 (by decide) rfl
            have hC := hC.then (hE33.mono fun _ _ e => .inr e)
            refine wd_k I_ok 2 rfl ?_
            rw [show IntKind.i64.wrap ((W.used : Int) + ((pieceB W.turn W.pieces.length b).length : Int)) = ((W.used + sectN b.length : Nat) : Int) from by rw [hpbl, IntWalk.i64_in _ (by omega)]; omega]
            have hlb0 := hlb
            refine wd_l rfl (st_set I_ok hlb rfl rfl (Nat.lt_of_lt_of_eq (by decide : 0 + 4 < 6) rfl) fun w34 hlb hE34 hs34 => ⟨hC.then (hE34.mono fun _ _ e => .inr e), ?_⟩)
            have hX := hX.then (hE34.mono fun z _ e => .inr (by have e : z = x := e; rw [e]; exact hxH))
            have hat2 := hat2.ext hE34 fun z hz e => by have e : z = x := e; subst e; exact hHF2 z hxH hz
            have hrw := hrw.extTy hE34 hlb0 (by decide)
            have hps := hps.ext hE34 fun z _ ht e => by have e : z = x := e; subst e; exact ht.ne hlb0 (by decide) rfl
            have hpc := hpc.ext hE34 fun z _ ht e => by have e : z = x := e; subst e; exact ht.ne hlb0 (by decide) rfl
            have hnw := hat2.lt
            have hhr := fun z (hz : OwnB pn z) => hrw.lt hz
            have hxw := hX.size
            refine wd_sw (wb_nil ?_)
            exact f_cut ({ W with D := y.1, broken := false, pieces := W.pieces ++ [b], used := W.used + sectN b.length }, fun z => (H z ∨ K z) ∨ (N ≤ z ∧ z < w34.heap.size)) rfl ⟨⟨⟨⟨pn, cn, _, by dsimp only; rw [List.length_append]; rw [decide_eq_false (fun e => e hy0)] at hlb; exact hlb, hrw, (PiecesAt.mono hps fun z hz => .inl (.inl hz)).snoc (PieceAt.mono hpc fun z hz => .inl (.inr hz)), fun z hz => (hqn z hz).elim (fun e => .inl (.inl e)) fun e => .inr ⟨e, hhr z hz⟩⟩, .inl (.inl hxH), fun z hz => hz.elim (fun e => e.elim (fun e => Nat.lt_of_lt_of_le (hlt z e) hxw) fun e => Nat.lt_of_lt_of_le (hK z e).2 hxw) fun e => e.2⟩, hat2, fun z hz => hz.imp id fun e => Nat.le_trans hNw e.1, fun z hz e => hz.elim (fun h => h.elim (fun h => hHF2 z h e) fun h => hKF2 z h e) fun h => by have := hF2lt z e; omega, by rw [hy0]; exact append_ok hre hy hy0⟩, hX⟩
          · refine st_bs I_ok rfl 1 rfl rfl rfl (by decide) (by decide) (by simp [partsOk]) (l' := [.slice p b.length c]) rfl fun b72 w35 hn72 hb72 hE35 hs35 => ⟨hC.thenNo hE35, ?_⟩
            have fr72 := Nat.le_trans hX.size hn72
            have frhC72 := Nat.le_trans hC.size hn72
            have hlb := hlb.extNo hE35
            have hrw := hrw.ext hE35 fun _ _ => id
            have hps := hps.ext hE35 fun _ _ _ => id
            have hpc := hpc.ext hE35 fun _ _ _ => id
            have hat2 := hat2.extNo hE35
            have hX := hX.thenNo hE35
            have hC := hC.thenNo hE35
            refine wx_plan [(5, false), (8, false), (16, true), (17, true), (18, false), (19, true), (20, true), (21, false)] 0 rfl (by kernel_rfl) (wd_l rfl (st_ld I_ok rfl (hlb.cell rfl) ⟨hC, ?_⟩))
            have hNs := hC.size
            refine wd_l rfl (st_app I_ok rfl 1 24 rfl rfl rfl (by decide) hrw (Src.slice (m := 1) ⟨rfl, .inr ⟨b72, 0, rfl, hb72.seg⟩⟩ OneC.h) (by dsimp only [maxLen]; omega) (by dsimp only; omega) fun p36 c36 w36 ho36 hE36 hB36 => ⟨hC.then (hE36.mono fun _ _ e => .inl e), ?_⟩)
            have hC := hC.then (hE36.mono fun _ _ e => .inl e)
            have hX := hX.then (hE36.mono fun z _ e => .inr (hqH z e))
            have hlb := hlb.ext hE36 hqx
            have hat2 := hat2.ext hE36 fun z hz e => hHF2 z (hqH z e) hz
            have hps := hps.ext hE36 fun z hz ht e => by obtain ⟨l, hl⟩ := Own.ty hrw e; exact ht.ne hl (by decide) rfl
            have hpc := hpc.ext hE36 fun z hz ht e => by obtain ⟨l, hl⟩ := Own.ty hrw e; exact ht.ne hl (by decide) rfl
            have hqn : ∀ z, OwnB p36 z → H z ∨ N ≤ z := fun z hz => (hB36 z hz).imp (hqH z) fun e => by omega
            have hrw : Own w36 p36 (W.pieces ++ [b]).length c36 37 1 (rows ++ [.slice p b.length c]) := by rw [List.length_append]; exact ho36
            dsimp only
            obtain ⟨pn, hpn0⟩ : ∃ pn, pn = p36 := ⟨_, rfl⟩
            obtain ⟨cn, hcn0⟩ : ∃ cn, cn = c36 := ⟨_, rfl⟩
            rw [← hpn0] at hrw hqn ⊢
            rw [← hcn0] at hrw ⊢
            refine wd_k I_ok 2 rfl ?_
            have hlb0 := hlb
            refine wd_l rfl (st_set I_ok hlb rfl rfl (Nat.lt_of_lt_of_eq (by decide : 0 + 3 < 6) rfl) fun w37 hlb hE37 hs37 => ⟨hC.then (hE37.mono fun _ _ e => .inr e), ?_⟩)
            have hX := hX.then (hE37.mono fun z _ e => .inr (by have e : z = x := e; rw [e]; exact hxH))
            have hat2 := hat2.ext hE37 fun z hz e => by have e : z = x := e; subst e; exact hHF2 z hxH hz
            have hrw := hrw.extTy hE37 hlb0 (by decide)
            have hps := hps.ext hE37 fun z _ ht e => by have e : z = x := e; subst e; exact ht.ne hlb0 (by decide) rfl
            have hpc := hpc.ext hE37 fun z _ ht e => by have e : z = x := e; subst e; exact ht.ne hlb0 (by decide) rfl
            have hC := hC.then (hE37.mono fun _ _ e => .inr e)
            refine wd_k I_ok 2 rfl ?_
            rw [show IntKind.i64.wrap ((W.used : Int) + ((pieceB W.turn W.pieces.length b).length : Int)) = ((W.used + sectN b.length : Nat) : Int) from by rw [hpbl, IntWalk.i64_in _ (by omega)]; omega]
            have hlb0 := hlb
            refine wd_l rfl (st_set I_ok hlb rfl rfl (Nat.lt_of_lt_of_eq (by decide : 0 + 4 < 6) rfl) fun w38 hlb hE38 hs38 => ⟨hC.then (hE38.mono fun _ _ e => .inr e), ?_⟩)
            have hX := hX.then (hE38.mono fun z _ e => .inr (by have e : z = x := e; rw [e]; exact hxH))
            have hat2 := hat2.ext hE38 fun z hz e => by have e : z = x := e; subst e; exact hHF2 z hxH hz
            have hrw := hrw.extTy hE38 hlb0 (by decide)
            have hps := hps.ext hE38 fun z _ ht e => by have e : z = x := e; subst e; exact ht.ne hlb0 (by decide) rfl
            have hpc := hpc.ext hE38 fun z _ ht e => by have e : z = x := e; subst e; exact ht.ne hlb0 (by decide) rfl
            have hnw := hat2.lt
            have hhr := fun z (hz : OwnB pn z) => hrw.lt hz
            have hxw := hX.size
            refine wd_sw (wb_nil ?_)
            exact f_cut ({ W with D := y.1, broken := false, pieces := W.pieces ++ [b], used := W.used + sectN b.length }, fun z => (H z ∨ K z) ∨ (N ≤ z ∧ z < w38.heap.size)) rfl ⟨⟨⟨⟨pn, cn, _, by dsimp only; rw [List.length_append]; rw [decide_eq_false (fun e => e hy0)] at hlb; exact hlb, hrw, (PiecesAt.mono hps fun z hz => .inl (.inl hz)).snoc (PieceAt.mono hpc fun z hz => .inl (.inr hz)), fun z hz => (hqn z hz).elim (fun e => .inl (.inl e)) fun e => .inr ⟨e, hhr z hz⟩⟩, .inl (.inl hxH), fun z hz => hz.elim (fun e => e.elim (fun e => Nat.lt_of_lt_of_le (hlt z e) hxw) fun e => Nat.lt_of_lt_of_le (hK z e).2 hxw) fun e => e.2⟩, hat2, fun z hz => hz.imp id fun e => Nat.le_trans hNw e.1, fun z hz e => hz.elim (fun h => h.elim (fun h => hHF2 z h e) fun h => hKF2 z h e) fun h => by have := hF2lt z e; omega, by rw [hy0]; exact append_ok hre hy hy0⟩, hX⟩
      · have hy0 : y.2 ≠ 0 := by simpa using hc
        refine c_skip ?_
        exact f_cut ({ W with D := y.1, broken := true }, H) rfl ⟨⟨⟨⟨q, cq, rows, by rw [decide_eq_true hy0] at hlb; exact hlb, hrw, hps, hqH⟩, hxH, fun z hz => Nat.lt_of_lt_of_le (hlt z hz) hX.size⟩, hat2, fun z hz => .inl (.inl hz), hHF2, append_bad hre hy hy0⟩, hX⟩
    rintro ⟨V, G⟩ w39 ⟨⟨hlog3, hat3, hGs, hGF, hap⟩, hX⟩
    refine c_seq (c_region (wl_p I_ok rfl (wl_nil (f_then (c_ret (f_ret1 rfl rfl ?_))))))
    rw [hap]
    exact ⟨rfl, F2, G, hat3, hlog3, hFs, hGs, hGF, hX⟩
end Go.Proofs.YtlfdlodcjiaiiaaDoor
namespace Go.Proofs.YtlfdlodcjiaiiaaDoor
open Go.Vc
/-- a book, and its disk's blocks apart from its own -/
def BookOf (w0 w' : World) (d : Nat) (F' : Nat → Prop) (xo : Option Addr) (W : Wl) : Prop := ∃ x H, xo = some ⟨x, 0, none⟩ ∧ BookAt w' x d H W ∧ ∀ y, H y → w0.heap.size ≤ y ∧ ¬ F' y
theorem flat_reps (n : Nat) : (List.replicate n zeros).flatMap bytesU = rep n (bytesU zeros) := by
  unfold rep
  rw [List.flatMap_def, List.map_replicate]
theorem bookFormat_calls (w : World) {d m : Nat} {F : Nat → Prop} {D : Dsk} (h : At w d F D) (hok : D.Ok m) (hm : m + 7000 < 1000000000) (area : Int) (har : -9223372036854775808 ≤ area ∧ area < 9223372036854775808) :
    CallsV Tryd.prog 38 [.pointer (some ⟨d, 0, none⟩), .int .i64 area] w fun v w' => ∃ (xo : Option Addr) (F' : Nat → Prop), v = .tuple #[.pointer xo, .int .i64 (formatW D area).2] ∧ At w' d F' (formatW D area).1 ∧ Ext F w w' ∧ (∀ y, F' y → F y ∨ w.heap.size ≤ y) ∧ ((formatW D area).2 = 0 → BookOf w w' d F' xo (Wl.fresh (formatW D area).1 area.toNat)) := by
  refine calls_enter Tryd.func38 rfl rfl rfl rfl ?_
  have hX := Ext.refl F w
  have hFlt := h.lt
  have hsz := hok.size
  refine c_seq (c_region (wl_p I_ok rfl (wl_nil (f_then (c_seq (c_seq (c_region (wl_p I_ok rfl (wl (st_call Tryd.call67 rfl rfl rfl rfl rfl rfl ((dk_len w (h.extNo (Ext.refl _ _))).same) fun v1 w1 hr1 => ?_))))))))))
  obtain ⟨rfl, hE1⟩ := hr1
  have h := h.extNo hE1
  have hX := hX.thenNo hE1
  refine wl (st_call Tryd.call66 rfl rfl rfl rfl rfl rfl (refFits_calls w1 area D.secs.length (by omega)) fun v2 w2 hr2 => ?_)
  obtain ⟨rfl, hE2⟩ := hr2
  have h := h.extNo hE2
  have hX := hX.thenNo hE2
  refine wl_p I_ok rfl (wl_nil (f_then (c_cond rfl (fun hc => ?_) (fun hc => ?_))))
  · have hfit : ¬ (0 ≤ area ∧ FitsB area.toNat D.secs.length) := fun h => by rw [decide_eq_true h] at hc; cases hc
    have he := formatW_no hfit
    rw [he]
    refine c_seq (c_region (wl_p I_ok rfl (wl_nil (f_then (c_ret (f_thenR (f_ret [_, _] ⟨rfl, rfl, trivial⟩ ?_)))))))
    exact ⟨none, F, rfl, h, hX, fun y hy => .inl hy, fun e => absurd (show (2 : Int) = 0 from e) (by decide)⟩
  · have hfit : 0 ≤ area ∧ FitsB area.toNat D.secs.length := by simpa using hc
    obtain ⟨a, rfl⟩ : ∃ a : Nat, area = (a : Int) := ⟨area.toNat, by omega⟩
    rw [Int.toNat_natCast] at hfit
    have hfit := hfit.2
    have ha4 := hfit.1
    have ha1 := hfit.2.1
    have hW := formatW_yes hfit
    rw [Int.toNat_natCast]
    obtain ⟨y, hy⟩ : ∃ y, y = layD D 0 (List.replicate (2 + 2 * a) zeros) := ⟨_, rfl⟩
    have hyo := layD_ok (List.replicate (2 + 2 * a) zeros) 0 hok (zeros_rep _)
    rw [List.length_replicate, ← hy] at hyo
    rw [← hy] at hW
    refine c_skip (f_then (c_seq (c_region (wl_p I_ok rfl (wl (st_bs I_ok rfl 1 rfl rfl rfl (by decide) (by decide) (by simp [partsOk]) (l' := []) rfl fun b15 w3 hn15 hb15 hE3 hs3 => ?_))))))
    have fr15 := Nat.le_trans hX.size hn15
    have h := h.extNo hE3
    have hX := hX.thenNo hE3
    refine wl (st_bs I_ok rfl 1 rfl rfl rfl (by decide) (by decide) (by simp [partsOk]) (l' := [.slice (some ⟨b15, 0, none⟩) 0 0]) rfl fun b16 w4 hn16 hb16 hE4 hs4 => ?_)
    have ne15_16 : b15 ≠ b16 := Nat.ne_of_lt (Nat.lt_of_lt_of_le hb15.lt hn16)
    have fr16 := Nat.le_trans hX.size hn16
    have hb15 := hb15.extNo hE4
    have h := h.extNo hE4
    have hX := hX.thenNo hE4
    refine wl (st_bd I_ok rfl ⟨⟨rfl, by decide⟩, ⟨rfl, by decide⟩, ⟨rfl, by decide⟩, ⟨rfl, by decide⟩, trivial⟩ (l' := [.pointer (some ⟨d, 0, none⟩), .int .i64 (a : Int), .int .u32 0, .slice (some ⟨b16, 0, none⟩) 1 1, .int .i64 1, .bool false]) rfl ?_)
    refine wl (st_al I_ok rfl fun b18 w5 hn18 hb18 hE5 => ?_)
    have ne15_18 : b15 ≠ b18 := Nat.ne_of_lt (Nat.lt_of_lt_of_le hb15.lt hn18)
    have ne16_18 : b16 ≠ b18 := Nat.ne_of_lt (Nat.lt_of_lt_of_le hb16.lt hn18)
    have fr18 := Nat.le_trans hX.size hn18
    have hb15 := hb15.extNo hE5
    have hb16 := hb16.extNo hE5
    have h := h.extNo hE5
    have hX := hX.thenNo hE5
    have hb18 : Blk w5 b18 110 ([.pointer (some ⟨d, 0, none⟩), .int .i64 (a : Int), .int .u32 0, .slice (some ⟨b16, 0, none⟩) 1 1, .int .i64 1, .bool false]) := hb18
    refine wl_p I_ok rfl (wl_nil (f_then (c_seq (c_region (wl_p I_ok rfl ?_)))))
    rw [show IntKind.i64.wrap (2 + IntKind.i64.wrap (2 * (a : Int))) = ((2 + 2 * a : Nat) : Int) from by rw [IntWalk.i64_in (2 * (a : Int)) (by omega), IntWalk.i64_in _ (by omega)]; omega]
    refine wl (st_mk I_ok rfl (2 + 2 * a) (2 + 2 * a) 64 rfl (zs := bytesU zeros) z29 rfl (by decide) rfl rfl (Nat.le_refl _) (by omega) (by unfold maxLen; omega) fun b23 w6 hn23 hb23 hE6 hs6 => ?_)
    have ne15_23 : b15 ≠ b23 := Nat.ne_of_lt (Nat.lt_of_lt_of_le hb15.lt hn23)
    have ne16_23 : b16 ≠ b23 := Nat.ne_of_lt (Nat.lt_of_lt_of_le hb16.lt hn23)
    have ne18_23 : b18 ≠ b23 := Nat.ne_of_lt (Nat.lt_of_lt_of_le hb18.lt hn23)
    have fr23 := Nat.le_trans hX.size hn23
    have hb15 := hb15.extNo hE6
    have hb16 := hb16.extNo hE6
    have hb18 := hb18.extNo hE6
    have h := h.extNo hE6
    have hX := hX.thenNo hE6
    have hb23 : Blk w6 b23 90 ((List.replicate (2 + 2 * a) zeros).flatMap bytesU) := by (rw [flat_reps]; exact hb23)
    rw [show Value.slice (some ⟨b23, 0, none⟩) (2 + 2 * a) (2 + 2 * a) = .slice (some ⟨b23, 0, none⟩) (List.replicate (2 + 2 * a) zeros).length (2 + 2 * a) from by rw [List.length_replicate]]
    have hX1 := hX.size
    have l18 := hb18.lt
    have l16 := hb16.lt
    have l15 := hb15.lt
    refine wl (st_call Tryd.call68 rfl rfl rfl rfl rfl rfl (lay_calls w6 h hok (by rw [List.length_replicate]; omega) 0 (by decide) (zeros_rep _) (by simp) ⟨by rw [List.length_replicate, flat_bytes_len (zeros_rep _), List.length_replicate], .inr ⟨b23, 0, rfl, hb23.seg⟩⟩ (fun y off e hF => by cases e; have := hFlt _ hF; omega)) fun v7 w7 hr7 => ?_)
    obtain ⟨rfl, F2, h2, hE7, hF2⟩ := hr7
    have nF : ∀ z, w.heap.size ≤ z → ¬ F z := fun z hz e => by have := hFlt z e; omega
    have hX := hX.then hE7
    have hb15 := hb15.ext hE7 (nF _ fr15)
    have hb16 := hb16.ext hE7 (nF _ fr16)
    have hb18 := hb18.ext hE7 (nF _ fr18)
    have hb23 := hb23.ext hE7 (nF _ fr23)
    rw [← hy] at h2 ⊢
    have n15 : ¬ F2 b15 := fun e => (hF2 _ e).elim (nF _ fr15) fun e => by omega
    have n16 : ¬ F2 b16 := fun e => (hF2 _ e).elim (nF _ fr16) fun e => by omega
    have n18 : ¬ F2 b18 := fun e => (hF2 _ e).elim (nF _ fr18) fun e => by omega
    have hF2 := grow_sub (fun x => .inl) hX1 hF2
    obtain ⟨H, hH⟩ : ∃ H : Nat → Prop, H = fun z => z = b15 ∨ z = b16 ∨ z = b18 := ⟨_, rfl⟩
    have ho15 := Own.blk (n := 0) (c := 0) hb15 1 rfl (Nat.le_refl _) (by decide)
    have hbk : BookAt w7 b18 d H (Wl.fresh D a) := ⟨⟨some ⟨b16, 0, none⟩, 1, [.slice (some ⟨b15, 0, none⟩) 0 0], hb18, Own.blk (n := 1) (c := 1) hb16 1 rfl (Nat.le_refl _) (by decide), PiecesAt.snoc (ps := []) (rows := []) ⟨rfl, fun i b v h => by cases h⟩ (PieceAt.ofOwn (b := []) ho15 fun z hz => by rw [hH]; exact .inl (own1 hz)), fun z hz => by rw [hH]; exact .inr (.inl (own1 hz))⟩, by rw [hH]; exact .inr (.inr rfl), fun z hz => by rw [hH] at hz; rcases hz with rfl | rfl | rfl; exact hb15.lt; exact hb16.lt; exact hb18.lt⟩
    have hHF2 : ∀ z, H z → ¬ F2 z := fun z hz => by rw [hH] at hz; rcases hz with rfl | rfl | rfl; exact n15; exact n16; exact n18
    have hHw : ∀ z, H z → w.heap.size ≤ z := fun z hz => by rw [hH] at hz; rcases hz with rfl | rfl | rfl; exact fr15; exact fr16; exact fr18
    refine wl_p I_ok rfl (wl_nil (f_then ?_))
    refine c_cutK (α := (Nat → Prop) × Dsk × Int) [6] rfl (fun z => [(7, .int .i64 z.2.2)]) (fun z u => ((z.2.1, z.2.2) = formatW D (a : Int) ∧ At u d z.1 z.2.1 ∧ (∀ x, z.1 x → F x ∨ w.heap.size ≤ x) ∧ BookAt u b18 d H (Wl.fresh D a) ∧ (∀ y, H y → ¬ z.1 y)) ∧ Ext F w u) ?_ ?_
    · refine c_seq ?_
      refine c_region (wl_p I_ok rfl (wl_nil (f_then (c_if rfl (fun hc => ?_) (fun hc => ?_)))))
      · refine c_region ?_
        refine wl_p I_ok rfl ?_
        have hX2 := hX.size
        have hbl := hbk.lt
        refine wl (st_call Tryd.call69 rfl rfl rfl rfl rfl rfl (bookBegin_calls w7 (t := 0) (b := []) (c := 0) (p := none) hbk h2 hyo (by omega) (by show a < 1000000; omega) (by decide) (Sl.nil _ _ _) (by decide) n18) fun v8 w8 hr8 => ?_)
        obtain ⟨rfl, F4, h4, hE8, hF4s⟩ := hr8
        have hX := hX.trans hE8 fun x hx e => (hF2 x e).resolve_right (by omega)
        have hbk := hbk.ext hE8 hHF2
        have hHF4 : ∀ z, H z → ¬ F4 z := fun z hz e => (hF4s z e).elim (hHF2 z hz) fun e => by have := hbl z hz; omega
        have hF4s := grow_sub hF2 hX2 hF4s
        refine wl_p I_ok rfl (wl_nil ?_)
        exact f_cut (F4, (beginD y.1 0 a []).1, (beginD y.1 0 a []).2) rfl ⟨⟨by rw [hW, if_neg (fun h => h hc)], h4, hF4s, hbk, hHF4⟩, hX⟩
      · refine c_skip ?_
        exact f_cut (F2, y.1, y.2) rfl ⟨⟨by rw [hW, if_pos hc], h2, hF2, hbk, hHF2⟩, hX⟩
    rintro ⟨G, D1, e⟩ w9 ⟨⟨hfw, hA, hG, hbk, hHG⟩, hX⟩
    refine c_seq (c_region (wl_p I_ok rfl (wl_nil (f_then (c_ret (f_ret [_, _] ⟨rfl, rfl, trivial⟩ ?_))))))
    rw [← hfw]
    exact ⟨_, G, rfl, hA, hX, hG, fun _ => ⟨b18, H, rfl, hbk.data rfl rfl rfl rfl rfl, fun y hy => ⟨hHw y hy, hHG y hy⟩⟩⟩
end Go.Proofs.YtlfdlodcjiaiiaaDoor
namespace Go.Proofs.YtlfdlodcjiaiiaaDoor
open Go.Vc
abbrev boolsT (l : List Bool) : List Value := l.map Value.bool
theorem tw_read {D : Dsk} (h1 : D.dead = false) (h2 : D.fault = -1) {i : Nat} (hi : i < D.secs.length) : D.read (i : Int) = ({ D with done := D.done + 1 }, D.now i, 0) := by
  have e : D.begin (i : Int) false = ({ D with done := D.done + 1 }, 0) := by
    unfold Dsk.begin
    rw [if_neg (by rw [h1]; decide), if_neg (by omega), if_neg (by rw [h2]; decide), if_neg (by simp)]
    have e1 : faultTo D.fault = D.fault := by rw [h2]; rfl
    have e2 : fuseTo false D.fuse = D.fuse := by simp [fuseTo]
    rw [e1, e2]
  unfold Dsk.read
  dsimp only
  rw [e, Int.toNat_natCast]
  rfl
theorem fill_step {K j : Nat} (h : j < K) : (boolsT (List.replicate j true ++ List.replicate (K - j) false)).set j (Value.bool true) = boolsT (List.replicate (j + 1) true ++ List.replicate (K - (j + 1)) false) := by
  unfold boolsT
  rw [List.map_append, List.map_append, List.map_replicate, List.map_replicate, List.map_replicate, List.map_replicate]
  apply List.ext_getElem
  · simp; omega
  · intro i h1 h2
    rw [List.getElem_set]
    by_cases e : j = i
    · subst e
      simp [List.getElem_replicate]
    · rw [if_neg e]
      simp only [List.getElem_append, List.length_replicate, List.getElem_replicate]
      by_cases h3 : i < j
      · rw [dif_pos h3, dif_pos (by omega)]
      · rw [dif_neg h3, dif_neg (by omega)]
theorem twins_calls (w : World) {d1 d2 m : Nat} {F1 F2 : Nat → Prop} {D : Dsk} (h1 : At w d1 F1 D) (h2 : At w d2 F2 D) (hok : D.Ok m) (hm : m + 5000 < 1000000000) :
    CallsV Tryd.prog 39 [.pointer (some ⟨d1, 0, none⟩), .pointer (some ⟨d2, 0, none⟩)] w fun v w' => v = .bool true ∧ Ext No w w' := by
  refine calls_enter Tryd.func39 rfl rfl rfl rfl ?_
  have hX := Ext.refl No w
  have hA1 := h1
  have hA2 := h2
  have hF1 := h1.lt
  have hF2 := h2.lt
  have hfew := hok.few
  have hsize := hok.size
  refine c_seq (c_region (wl_p I_ok rfl (wl_nil (f_then (c_seq (c_cutK (α := Bool) [0, 1] rfl (fun z => [(35, .bool z)]) (fun z u => (z = false ∧ At u d1 F1 D ∧ At u d2 F2 D) ∧ Ext No w u) ?_ ?_))))))
  · refine c_region ?_
    refine wl_p I_ok rfl (wl (st_call Tryd.call32 rfl rfl rfl rfl rfl rfl (dk_ops w hA1) fun v1 w1 hr1 => ?_))
    obtain ⟨rfl, rfl⟩ := hr1
    refine wl_p I_ok rfl (wl (st_call Tryd.call32 rfl rfl rfl rfl rfl rfl (dk_ops w1 hA2) fun v2 w2 hr2 => ?_))
    obtain ⟨rfl, rfl⟩ := hr2
    refine wl_p I_ok rfl (wl_caseD 20 rfl (fun hg => ?_) (fun hg => ?_))
    · exact absurd rfl hg
    · refine wl_pk I_ok 1 rfl ?_
      refine wl (st_call Tryd.call33 rfl rfl rfl rfl rfl rfl (dk_dead w2 hA1) fun v3 w3 hr3 => ?_)
      obtain ⟨rfl, rfl⟩ := hr3
      refine wl_pk I_ok 1 rfl (wl (st_call Tryd.call33 rfl rfl rfl rfl rfl rfl (dk_dead w3 hA2) fun v4 w4 hr4 => ?_))
      obtain ⟨rfl, rfl⟩ := hr4
      refine wl_pk I_ok 3 rfl (wl_case 27 rfl (fun hg => ?_) (fun hg => ?_))
      · simp at hg
      · refine wl_pk I_ok 1 rfl ?_
        refine wl (st_call Tryd.call24 rfl rfl rfl rfl rfl rfl (dk_pending w4 hA1 hok (by omega)) fun v5 w5 hr5 => ?_)
        obtain ⟨b1, rfl, _, _, hE5⟩ := hr5
        have hA1 := hA1.extNo hE5
        have hA2 := hA2.extNo hE5
        have hX := hX.thenNo hE5
        refine wl_pk I_ok 2 rfl (wl (st_call Tryd.call24 rfl rfl rfl rfl rfl rfl (dk_pending w5 hA2 hok (by omega)) fun v6 w6 hr6 => ?_))
        obtain ⟨b2, rfl, _, _, hE6⟩ := hr6
        have hA1 := hA1.extNo hE6
        have hA2 := hA2.extNo hE6
        have hX := hX.thenNo hE6
        refine wl_pk I_ok 3 rfl (wl_nil ?_)
        exact f_cut (decide ((D.order.length : Int) ≠ (D.order.length : Int))) rfl ⟨⟨by simp, hA1, hA2⟩, hX⟩
  rintro z w7 ⟨⟨rfl, hA1, hA2⟩, hX⟩
  refine c_condF rfl (c_skip (f_then (c_seq (c_seq (c_region (wl_p I_ok rfl (wl_nil (f_then (c_block ?_)))))))))
  refine c_loopK (α := Nat) [0, 1] rfl (fun z => [(36, .int .i64 (z : Int))]) (fun z u => (z ≤ 2 ∧ At u d1 F1 D ∧ At u d2 F2 D) ∧ Ext No w u) (fun z u => 2 - z) (0) rfl ⟨⟨by decide, hA1, hA2⟩, hX⟩ ?_
  rintro k w8 ⟨⟨hk2, hA1, hA2⟩, hX⟩
  refine c_seq (c_region (wl_p I_ok rfl (wl_nil (f_then (c_seq (c_if rfl (fun hc => ?_) (fun hc => ?_)))))))
  · have hkl : k < 2 := by omega
    refine c_skip (f_then (c_seq (c_block (c_seq (c_region (wl_p I_ok rfl (wl_nil (f_then (c_seq (c_region (wl_p I_ok rfl ?_)))))))))))
    have hX6 := hX.size
    obtain ⟨wa, hwa⟩ : ∃ u, u = w8 := ⟨_, rfl⟩
    refine wl (st_call Tryd.call70 rfl rfl rfl rfl rfl rfl (dk_copy w8 hA1 hok (by omega)) fun v9 w9 hr9 => ?_)
    obtain ⟨c1, rfl, hc1n, hcA, hE9⟩ := hr9
    have hA1 := hA1.extNo hE9
    have hA2 := hA2.extNo hE9
    have hX := hX.thenNo hE9
    have hwb := hE9.size
    generalize hFC1 : Grow _ _ _ = FC1 at hcA
    have hc1l : ∀ y, FC1 y → w.heap.size ≤ y ∧ y < w9.heap.size := fun y hy => by rw [← hFC1] at hy; exact hy.elim (fun e => e.elim) fun e => ⟨by omega, e.2⟩
    obtain ⟨nb1, hnb1⟩ : ∃ n, n = w9.heap.size := ⟨_, rfl⟩
    rw [← hnb1] at hc1l
    refine wl_p I_ok rfl ?_
    have hX7 := hX.size
    have hnb1s : nb1 = w9.heap.size := hnb1
    refine wl (st_call Tryd.call70 rfl rfl rfl rfl rfl rfl (dk_copy w9 hA2 hok (by omega)) fun v10 w10 hr10 => ?_)
    obtain ⟨c2, rfl, hc2n, hcB, hE10⟩ := hr10
    have hA1 := hA1.extNo hE10
    have hA2 := hA2.extNo hE10
    have hcA := hcA.extNo hE10
    have hX := hX.thenNo hE10
    generalize hFC2 : Grow _ _ _ = FC2 at hcB
    have hc2l : ∀ y, FC2 y → nb1 ≤ y := fun y hy => by rw [← hFC2] at hy; exact hy.elim (fun e => e.elim) fun e => by omega
    have hcl : ∀ y, FC1 y ∨ FC2 y → w.heap.size ≤ y := fun y hy => hy.elim (fun e => (hc1l y e).1) fun e => by have := hc2l y e; omega
    have hdj : ∀ y, FC1 y → ¬ FC2 y := fun y h1 h2 => by have := (hc1l y h1).2; have := hc2l y h2; omega
    refine wl_p I_ok rfl (wl_nil (f_then (c_seq (c_region (wl_p I_ok rfl (wl (st_call Tryd.call24 rfl rfl rfl rfl rfl rfl (dk_pending w10 hA1 hok (by omega)) fun v11 w11 hr11 => ?_)))))))
    obtain ⟨b3, rfl, _, _, hE11⟩ := hr11
    have hA1 := hA1.extNo hE11
    have hA2 := hA2.extNo hE11
    have hcA := hcA.extNo hE11
    have hcB := hcB.extNo hE11
    have hX := hX.thenNo hE11
    refine wl_p I_ok rfl ?_
    obtain ⟨K, hK⟩ : ∃ K, K = k * D.order.length := ⟨_, rfl⟩
    have hKm : K ≤ m := by rw [hK]; rcases (by omega : k = 0 ∨ k = 1) with rfl | rfl <;> omega
    rw [show IntKind.i64.wrap ((k : Int) * (D.order.length : Int)) = (K : Int) from by rw [show (k : Int) * (D.order.length : Int) = (K : Int) from by rw [hK]; exact (Int.natCast_mul k D.order.length).symm]; exact IntWalk.i64_in _ (by omega)]
    have hla := hcA.lt
    have hlb := hcB.lt
    refine wl (st_mk I_ok rfl K K 1 rfl rfl rfl (by decide) rfl rfl (Nat.le_refl _) (by omega) (by unfold maxLen; omega) fun b48 w12 hn48 hb48 hE12 hs12 => ?_)
    have fr48 := Nat.le_trans hX.size hn48
    have hA1 := hA1.extNo hE12
    have hA2 := hA2.extNo hE12
    have hcA := hcA.extNo hE12
    have hcB := hcB.extNo hE12
    have hX := hX.thenNo hE12
    have hb48 : Blk w12 b48 4 (boolsT (List.replicate 0 true ++ List.replicate (K - 0) false)) := by (have e : rep K (cellsOf ti4.zero) = boolsT (List.replicate 0 true ++ List.replicate (K - 0) false) := by rw [show cellsOf ti4.zero = [Value.bool false] from rfl, rep_one, boolsT]; simp); rw [← e]; exact hb48
    have nbA48 : ∀ y, FC1 y → y ≠ b48 := fun y hy e => by have := hla y hy; omega
    have nbB48 : ∀ y, FC2 y → y ≠ b48 := fun y hy e => by have := hlb y hy; omega
    refine wl_p I_ok rfl (wl_nil (f_then (c_seq (c_seq (c_region (wl_p I_ok rfl (wl_nil (f_then (c_block ?_)))))))))
    refine c_loopK (α := Nat) [0, 1, 6, 7, 8, 36, 50] rfl (fun z => [(51, .int .i64 (z : Int))]) (fun z u => (z ≤ K ∧ At u d1 F1 D ∧ At u d2 F2 D ∧ At u c1 FC1 D ∧ At u c2 FC2 D) ∧ Blk u b48 4 (boolsT (List.replicate z true ++ List.replicate (K - z) false)) ∧ Ext No w u) (fun z u => K - z) (0) rfl ⟨⟨Nat.zero_le _, hA1, hA2, hcA, hcB⟩, hb48, hX⟩ ?_
    rintro j w13 ⟨⟨hj, hA1, hA2, hcA, hcB⟩, hb48, hX⟩
    refine c_seq (c_region (wl_p I_ok rfl (wl_nil (f_then (c_seq (c_if rfl (fun hc => ?_) (fun hc => ?_)))))))
    · have hjK : j < K := by omega
      refine c_skip (f_then (c_seq (c_block (c_seq (c_region (wl_p I_ok rfl (wl_nil (f_then (c_region (wl_p I_ok rfl (wl (st_ix I_ok rfl 1 rfl j rfl hjK (0 + j * 1) rfl ?_))))))))))))
      refine wl (st_set I_ok hb48 rfl rfl (by simp [boolsT]; omega) fun w14 hb48 hE14 hs14 => ?_)
      have hA1 := hA1.ext hE14 fun y hy e => by have e : y = b48 := e; have := hF1 y hy; omega
      have hA2 := hA2.ext hE14 fun y hy e => by have e : y = b48 := e; have := hF2 y hy; omega
      have hcA := hcA.ext hE14 fun y hy e => by have e : y = b48 := e; exact nbA48 y hy e
      have hcB := hcB.ext hE14 fun y hy e => by have e : y = b48 := e; exact nbB48 y hy e
      have hX := hX.thenNew hE14 fr48
      have hb48 : Blk w14 b48 4 (boolsT (List.replicate (j + 1) true ++ List.replicate (K - (j + 1)) false)) := by (have e := hb48; rw [show 0 + j * 1 = j from by omega, fill_step hjK] at e; exact e)
      refine wl_nil (f_blockN (f_then (c_region (wl_p I_ok rfl ?_))))
      rw [IntWalk.i64_in _ (by omega)]
      refine wl_nil ?_
      exact f_round (j + 1) rfl ⟨⟨by omega, hA1, hA2, hcA, hcB⟩, hb48, hX⟩ (by first | omega | (dsimp only; omega))
    · have hjK : j = K := by omega
      rw [hjK, Nat.sub_self, List.replicate_zero, List.append_nil] at hb48
      refine c_exit (f_thenE (f_thenE (f_blockE (f_then (c_seq ?_)))))
      refine c_cutK (α := Bool) [0, 1, 6, 7, 36] rfl (fun z => [(67, .bool z)]) (fun z u => (z = false ∧ At u d1 F1 D ∧ At u d2 F2 D ∧ At u c1 FC1 (D.crash (List.replicate K true)) ∧ At u c2 FC2 (D.crash (List.replicate K true))) ∧ Ext No w u) ?_ ?_
      · refine c_region ?_
        refine wl_p I_ok rfl ?_
        refine wl (st_call Tryd.call21 rfl rfl rfl rfl rfl rfl (dk_crash w13 hcA hok (by omega) (keep := List.replicate K true) (by simp) ⟨by simp [], .inr ⟨b48, 0, rfl, hb48.seg⟩⟩ (fun b off e hF => by cases e; exact nbA48 _ hF rfl)) fun v15 w15 hr15 => ?_)
        obtain ⟨rfl, hcA2, hE15⟩ := hr15
        have hX := hX.trans hE15 fun y hy e => by have := hcl y (.inl e); omega
        have hb48 := hb48.ext hE15 fun e => nbA48 _ e rfl
        have hA1 := hA1.ext hE15 fun y hy e => by have := hF1 y hy; have := hcl y (.inl e); omega
        have hA2 := hA2.ext hE15 fun y hy e => by have := hF2 y hy; have := hcl y (.inl e); omega
        have hcB := hcB.ext hE15 fun y hy e => hdj y e hy
        have hcA := hcA2
        refine wl_p I_ok rfl (wl_case 62 rfl (fun hg => ?_) (fun hg => ?_))
        · cases hg
        · refine wl_pk I_ok 2 rfl ?_
          refine wl (st_call Tryd.call21 rfl rfl rfl rfl rfl rfl (dk_crash w15 hcB hok (by omega) (keep := List.replicate K true) (by simp) ⟨by simp [], .inr ⟨b48, 0, rfl, hb48.seg⟩⟩ (fun b off e hF => by cases e; exact nbB48 _ hF rfl)) fun v16 w16 hr16 => ?_)
          obtain ⟨rfl, hcB2, hE16⟩ := hr16
          have hX := hX.trans hE16 fun y hy e => by have := hcl y (.inr e); omega
          have hb48 := hb48.ext hE16 fun e => nbB48 _ e rfl
          have hA1 := hA1.ext hE16 fun y hy e => by have := hF1 y hy; have := hcl y (.inr e); omega
          have hA2 := hA2.ext hE16 fun y hy e => by have := hF2 y hy; have := hcl y (.inr e); omega
          have hcA := hcA.ext hE16 fun y hy e => hdj y hy e
          have hcB := hcB2
          refine wl_pk I_ok 2 rfl (wl_nil ?_)
          exact f_cut (decide ((0 : Int) ≠ 0)) rfl ⟨⟨by simp, hA1, hA2, hcA, hcB⟩, hX⟩
      rintro z w17 ⟨⟨rfl, hA1, hA2, hcA, hcB⟩, hX⟩
      refine c_condF rfl (c_skip (f_then (c_seq (c_region (wl_p I_ok rfl ?_)))))
      have hokc := hok.crash (List.replicate K true)
      have hdd : (D.crash (List.replicate K true)).dead = false := rfl
      have hdf : (D.crash (List.replicate K true)).fault = -1 := rfl
      generalize D.crash (List.replicate K true) = Dc at hcA hcB hokc hdd hdf ⊢
      have hszc := hokc.size
      refine wl (st_call Tryd.call67 rfl rfl rfl rfl rfl rfl (dk_len w17 hcA) fun v18 w18 hr18 => ?_)
      obtain ⟨rfl, rfl⟩ := hr18
      refine wl_p I_ok rfl (wl_nil (f_then (c_block ?_)))
      refine c_loopK (α := Nat × Dsk) [0, 1, 6, 7, 36, 69] rfl (fun z => [(70, .int .i64 (z.1 : Int))]) (fun z u => (z.1 ≤ Dc.secs.length ∧ At u d1 F1 D ∧ At u d2 F2 D ∧ At u c1 FC1 z.2 ∧ At u c2 FC2 z.2 ∧ z.2.dead = false ∧ z.2.fault = -1 ∧ z.2.secs.length = Dc.secs.length ∧ z.2.Ok (m + z.1)) ∧ Ext No w u) (fun z u => Dc.secs.length - z.1) (0, Dc) rfl ⟨⟨Nat.zero_le _, hA1, hA2, hcA, hcB, hdd, hdf, rfl, hokc⟩, hX⟩ ?_
      rintro ⟨i, E1⟩ w19 ⟨⟨hi, hA1, hA2, hcA, hcB, hd0, hf0, hs0, hokz⟩, hX⟩
      try dsimp only
      dsimp only at hi hA1 hA2 hcA hcB hd0 hf0 hs0 hokz
      refine c_seq (c_region (wl_p I_ok rfl (wl_nil (f_then (c_seq (c_if rfl (fun hc => ?_) (fun hc => ?_)))))))
      · have hil : i < Dc.secs.length := by omega
        have hrd := tw_read hd0 hf0 (i := i) (by omega)
        have hB64 := now_length hokz i
        obtain ⟨Bn, hBn⟩ : ∃ B, B = E1.now i := ⟨_, rfl⟩
        rw [← hBn] at hrd hB64
        refine c_skip (f_then (c_seq (c_block (c_seq (c_region (wl_p I_ok rfl (wl_nil (f_then (c_seq (c_region (wl_p I_ok rfl ?_)))))))))))
        refine wl (st_call Tryd.call48 rfl rfl rfl rfl rfl rfl (dkRead w19 hcA hokz (by omega) (i : Int)) fun v20 w20 hr20 => ?_)
        obtain ⟨rfl, hcA2, hE20⟩ := hr20
        rw [hrd] at hcA2
        rw [hrd]
        have hX := hX.trans hE20 fun y hy e => by have := hcl y (.inl e); omega
        have hA1 := hA1.ext hE20 fun y hy e => by have := hF1 y hy; have := hcl y (.inl e); omega
        have hA2 := hA2.ext hE20 fun y hy e => by have := hF2 y hy; have := hcl y (.inl e); omega
        have hcB := hcB.ext hE20 fun y hy e => hdj y e hy
        have hcA := hcA2
        refine wl_p I_ok rfl ?_
        have hla := hcA.lt
        have hlb := hcB.lt
        refine wl (st_al I_ok rfl fun b11 w21 hn11 hb11 hE21 => ?_)
        have fr11 := Nat.le_trans hX.size hn11
        have hA1 := hA1.extNo hE21
        have hA2 := hA2.extNo hE21
        have hcA := hcA.extNo hE21
        have hcB := hcB.extNo hE21
        have hX := hX.thenNo hE21
        have nbA11 : ∀ y, FC1 y → y ≠ b11 := fun y hy e => by have := hla y hy; omega
        have nbB11 : ∀ y, FC2 y → y ≠ b11 := fun y hy e => by have := hlb y hy; omega
        refine wl (st_stW (l' := bytesU Bn) I_ok hb11 rfl rfl (by rw [bytesU_len, hB64]) (by rw [bytesU_len, hB64]; rfl) OneC.h fun w22 hb11 hE22 hs22 => ?_)
        have hA1 := hA1.ext hE22 fun y hy e => by have e : y = b11 := e; have := hF1 y hy; omega
        have hA2 := hA2.ext hE22 fun y hy e => by have e : y = b11 := e; have := hF2 y hy; omega
        have hcA := hcA.ext hE22 fun y hy e => by have e : y = b11 := e; exact nbA11 y hy e
        have hcB := hcB.ext hE22 fun y hy e => by have e : y = b11 := e; exact nbB11 y hy e
        have hX := hX.thenNew hE22 fr11
        have hb11 : Blk w22 b11 90 (bytesU Bn) := hb11
        refine wl_p I_ok rfl (wl_nil (f_then (c_seq (c_region (wl_p I_ok rfl (wl (st_call Tryd.call48 rfl rfl rfl rfl rfl rfl (dkRead w22 hcB hokz (by omega) (i : Int)) fun v23 w23 hr23 => ?_)))))))
        obtain ⟨rfl, hcB2, hE23⟩ := hr23
        rw [hrd] at hcB2
        rw [hrd]
        have hX := hX.trans hE23 fun y hy e => by have := hcl y (.inr e); omega
        have hb11 := hb11.ext hE23 fun e => nbB11 _ e rfl
        have hA1 := hA1.ext hE23 fun y hy e => by have := hF1 y hy; have := hcl y (.inr e); omega
        have hA2 := hA2.ext hE23 fun y hy e => by have := hF2 y hy; have := hcl y (.inr e); omega
        have hcA := hcA.ext hE23 fun y hy e => hdj y hy e
        have hcB := hcB2
        refine wl_p I_ok rfl ?_
        have hla := hcA.lt
        have hlb := hcB.lt
        refine wl (st_al I_ok rfl fun b13 w24 hn13 hb13 hE24 => ?_)
        have ne11_13 : b11 ≠ b13 := Nat.ne_of_lt (Nat.lt_of_lt_of_le hb11.lt hn13)
        have fr13 := Nat.le_trans hX.size hn13
        have hb11 := hb11.extNo hE24
        have hA1 := hA1.extNo hE24
        have hA2 := hA2.extNo hE24
        have hcA := hcA.extNo hE24
        have hcB := hcB.extNo hE24
        have hX := hX.thenNo hE24
        have nbA13 : ∀ y, FC1 y → y ≠ b13 := fun y hy e => by have := hla y hy; omega
        have nbB13 : ∀ y, FC2 y → y ≠ b13 := fun y hy e => by have := hlb y hy; omega
        refine wl (st_stW (l' := bytesU Bn) I_ok hb13 rfl rfl (by rw [bytesU_len, hB64]) (by rw [bytesU_len, hB64]; rfl) OneC.h fun w25 hb13 hE25 hs25 => ?_)
        have hb11 := hb11.ext1 hE25 ne11_13
        have hA1 := hA1.ext hE25 fun y hy e => by have e : y = b13 := e; have := hF1 y hy; omega
        have hA2 := hA2.ext hE25 fun y hy e => by have e : y = b13 := e; have := hF2 y hy; omega
        have hcA := hcA.ext hE25 fun y hy e => by have e : y = b13 := e; exact nbA13 y hy e
        have hcB := hcB.ext hE25 fun y hy e => by have e : y = b13 := e; exact nbB13 y hy e
        have hX := hX.thenNew hE25 fr13
        have hb13 : Blk w25 b13 90 (bytesU Bn) := hb13
        refine wl_p I_ok rfl (wl_nil (f_then (c_cutK (α := Bool) [0, 1, 6, 7, 36, 69, 70] rfl (fun z => [(96, .bool z)]) (fun z u => u = w25 ∧ z = false) ?_ ?_)))
        · refine c_region ?_
          refine wl (st_ldB I_ok hb11 rfl (by rw [bytesU_len, hB64]) (wl (st_ldB I_ok hb13 rfl (by rw [bytesU_len, hB64]) ?_)))
          refine wl (st_eqA (xs := natsI Bn) (ys := natsI Bn) I_ok rfl (by kernel_rfl) (numB_eq _) (numB_eq _) (by rw [natsI_len, hB64]) (by rw [natsI_len, hB64]) (wl_p I_ok rfl (wl_caseD 88 rfl (fun hg => ?_) (fun hg => ?_))))
          · exact absurd rfl hg
          · refine wl_pk I_ok 5 rfl ?_
            refine wl_case 93 rfl (fun hg => ?_) (fun hg => ?_)
            · cases hg
            · refine wl_pk I_ok 3 rfl ?_
              refine wl_nil ?_
              exact f_cut (decide ((0 : Int) ≠ 0)) rfl ⟨rfl, by simp⟩
        rintro z w26 ⟨hu, rfl⟩
        have hu := hu.symm
        subst hu
        refine c_condF rfl (c_skip (f_blockN (f_then (c_region (wl_p I_ok rfl ?_)))))
        rw [IntWalk.i64_in _ (by omega)]
        refine wl_nil ?_
        exact f_round (i + 1, { E1 with done := E1.done + 1 }) rfl ⟨⟨by dsimp only; omega, hA1, hA2, hcA, hcB, hd0, hf0, hs0, by have e := hokz.read (i : Int); rw [hrd] at e; exact e⟩, hX⟩ (by first | omega | (dsimp only; omega))
      · refine c_exit ?_
        refine f_thenE (f_thenE (f_blockE (f_blockN (f_then (c_region (wl_p I_ok rfl ?_))))))
        rw [IntWalk.i64_in _ (by omega)]
        refine wl_nil ?_
        exact f_round (k + 1) rfl ⟨⟨by omega, hA1, hA2⟩, hX⟩ (by first | omega | (dsimp only; omega))
  · refine c_exit ?_
    refine f_thenE (f_thenE (f_blockE (f_then (c_seq (c_region (wl_p I_ok rfl (wl_nil (f_then (c_ret (f_ret1 rfl rfl ?_))))))))))
    exact ⟨rfl, hX⟩
end Go.Proofs.YtlfdlodcjiaiiaaDoor
namespace Go.Proofs.YtlfdlodcjiaiiaaDoor
open Go.Vc
theorem own_opened {w : World} {p : Option Addr} {n c T sz : Nat} {xs : List Value} (h : Own w p n c T sz xs) (hn : 0 < n) : ∃ b l, p = some ⟨b, 0, none⟩ ∧ Blk w b T l ∧ l.length = c * sz ∧ n ≤ c ∧ c ≤ maxLen ∧ l.take (n * sz) = xs := by
  rcases h with ⟨_, h, _, _⟩ | ⟨b, l, hp, hb, hl, hn', hc, hx⟩
  · omega
  · exact ⟨b, l, hp, hb, hl, hn', hc, hx⟩
/-- bytes that are turned -/
def MutB (u : World) (q : Option Addr) (n c : Nat) : Prop := ∃ cc : Bytes, cc.length = n ∧ Own u q n c 5 1 (bytesU cc)
theorem MutB.ext {S : Nat → Prop} {u u' : World} {q : Option Addr} {n c : Nat} (h : MutB u q n c) (hE : Ext S u u') (hS : ∀ y, OwnB q y → ¬ S y) : MutB u' q n c := by
  obtain ⟨cc, h1, h2⟩ := h
  exact ⟨cc, h1, h2.ext hE hS⟩
theorem MutB.at {u : World} {q : Option Addr} {n c i : Nat} (h : MutB u q n c) (hi : i < n) : ∃ b l x, q = some ⟨b, 0, none⟩ ∧ Blk u b 5 l ∧ l.length = c ∧ n ≤ c ∧ l[i]? = some (byteV x) ∧ ∀ u', Blk u' b 5 (l.set i (byteV (x + 1))) → MutB u' q n c := by
  obtain ⟨cc, h1, h2⟩ := h
  obtain ⟨b, l, rfl, hb, hl, hnc, hcm, hx⟩ := own_opened h2 (by omega)
  rw [Nat.mul_one] at hl hx
  have hg : (l.take n)[i]? = l[i]? := List.getElem?_take_of_lt hi
  refine ⟨b, l, cc[i]'(by omega), rfl, hb, hl, hnc, ?_, fun u' hb' => ⟨cc.set i (cc[i]'(by omega) + 1), by rw [List.length_set, h1], .inr ⟨b, _, rfl, hb', by rw [List.length_set, hl, Nat.mul_one], hnc, hcm, ?_⟩⟩⟩
  · rw [← hg, hx, bytesU, List.getElem?_map, List.getElem?_eq_getElem (by omega)]
    rfl
  · rw [Nat.mul_one, List.take_set, hx, bytesU, ← List.map_set, bytesU]
theorem byte_next (x : UInt8) : IntKind.u8.wrap ((x.toNat : Int) + 1) = ((x + 1).toNat : Int) := by
  rw [IntKind.wrap_u8]
  have e : (x + 1).toNat = (x.toNat + 1) % 256 := by rw [UInt8.toNat_add]; rfl
  rw [e]
  omega
/-- what an iterator of a log holds -/
def AllI (u : World) (bA cA n3 : Nat) (qA : Option Addr) (rowsA : List Value) (ps : List Bytes) (H : Nat → Prop) : Prop :=
  Blk u bA 27 [.slice qA ps.length cA] ∧ Sl u qA ps.length 1 rowsA ∧ PiecesAt u H ps rowsA ∧ n3 ≤ u.heap.size
theorem AllI.step {S : Nat → Prop} {u u' : World} {bA cA n3 : Nat} {qA : Option Addr} {rowsA : List Value} {ps : List Bytes} {H : Nat → Prop} (h : AllI u bA cA n3 qA rowsA ps H) (hb : bA < n3) (hq : ∀ y off, qA = some ⟨y, off, none⟩ → ps.length ≠ 0 → y < n3) (hH : ∀ y, H y → y < n3) (hE : Ext S u u') (hS : ∀ y, S y → n3 ≤ y) : AllI u' bA cA n3 qA rowsA ps H := by
  obtain ⟨h1, h2, h3, h4⟩ := h
  refine ⟨h1.ext hE fun e => by have := hS _ e; omega, ?_, h3.ext hE fun y hy _ e => by have := hS y e; have := hH y hy; omega, Nat.le_trans h4 hE.size⟩
  by_cases h0 : ps.length = 0
  · exact ⟨h2.1, .inl h0⟩
  · exact h2.ext hE fun y off e hs => by have := hS y hs; have := hq y off e h0; omega
def toldC (w : World) (b8 : Nat) : CoS Unit w where
  Fp := fun _ y => y = b8
  J := fun k _ u => Blk u b8 3 [.int .i64 (k : Int)]
  Jx := fun _ _ _ _ => False
  st := fun h1 hE hS => h1.ext hE fun e => (hS _ e).2 rfl
  stx := fun h _ _ => h.elim
  lt := fun h1 x e => by rw [show x = b8 from e]; exact h1.lt
  ltx := fun h => h.elim
def stopC (w : World) : CoS Unit w where
  Fp := fun _ _ => False
  J := fun k _ _ => k = 0
  Jx := fun k c _ _ => k = 0 ∧ c = .exit 8
  st := fun h1 _ _ => h1
  stx := fun h _ _ => h
  lt := fun _ _x e => e.elim
  ltx := fun _ _x e => e.elim
theorem told_calls (w : World) {xl dl xb db : Nat} {Hl Hb : Nat → Prop} {W9 : Wl} (hL : LogAt w xl dl Hl W9) (hB : BookAt w xb db Hb W9) (hW : Wl.Ok W9) :
    CallsV Tryd.prog 41 [.pointer (some ⟨xb, 0, none⟩), .pointer (some ⟨xl, 0, none⟩)] w fun v w' => v = .bool true ∧ Ext No w w' := by
  refine calls_enterM Tryd.func41 rfl rfl rfl rfl ?_
  have hX := Ext.refl No w
  have hlog := hL
  have hbook := hB
  have hHlt := hL.lt
  obtain ⟨⟨qk, ck, rowsk, hbk0, hrwk, hpsk, _⟩, hxbH, hBlt⟩ := id hB
  have hbk := hbk0
  obtain ⟨s0, r0, hp0⟩ : ∃ s0 r0, W9.pieces = s0 :: r0 := by
    cases hp : W9.pieces with
    | nil => exact absurd hp hW.some
    | cons a l => exact ⟨a, l, rfl⟩
  have hz2 := hW.size.2
  have hfew := hW.few
  have hroom := hW.room
  have hlen : W9.pieces.length = r0.length + 1 := by rw [hp0]; rfl
  have hne : 0 < W9.pieces.length := by omega
  have hs0 : W9.pieces[0] = s0 := by simp [hp0]
  have hsh : ∀ b ∈ W9.pieces, b.length < 1000000000 := fun b hb => by have := hW.short b hb; omega
  have hdr : W9.pieces.drop 1 = r0 := by rw [hp0]; rfl
  have hs0l : s0.length < 1000000000 := hsh s0 (by rw [hp0]; simp)
  obtain ⟨qb, rfl, hqs0⟩ : ∃ qb, qk = some ⟨qb, 0, none⟩ ∧ Seg w qb 0 rowsk := by
    rcases hrwk with ⟨_, h0, _⟩ | ⟨bq, lq, h1, h2, _, _, _, h3⟩
    · omega
    · refine ⟨bq, h1, ?_⟩
      have e := h2.seg.take (W9.pieces.length * 1)
      rw [h3] at e
      exact e
  refine c_seq (c_region (wl (st_al I_ok rfl fun b2 w1 hn2 hb2 hE1 => ?_)))
  have fr2 := Nat.le_trans hX.size hn2
  have hlog := hlog.extNo hE1
  have hbk := hbk.extNo hE1
  have hX := hX.thenNo hE1
  have hb2 : Blk w1 b2 67 ([.pointer (some ⟨xb, 0, none⟩)]) := hb2
  refine wl (st_al I_ok rfl fun b4 w2 hn4 hb4 hE2 => ?_)
  have ne2_4 : b2 ≠ b4 := Nat.ne_of_lt (Nat.lt_of_lt_of_le hb2.lt hn4)
  have fr4 := Nat.le_trans hX.size hn4
  have hb2 := hb2.extNo hE2
  have hlog := hlog.extNo hE2
  have hbk := hbk.extNo hE2
  have hX := hX.thenNo hE2
  have hb4 : Blk w2 b4 4 ([.bool false]) := hb4
  refine wl_nil (f_then (c_seq (c_cutK (α := Bool) [1, 2, 4] rfl (fun z => [(52, .bool z)]) (fun z u => (z = false) ∧ Blk u b2 67 ([.pointer (some ⟨xb, 0, none⟩)]) ∧ Blk u b4 4 ([.bool false]) ∧ Ext No w u) ?_ ?_)))
  · refine c_draw rfl 41 [(0, true), (2, true), (3, true), (4, true), (5, true), (6, true), (7, true), (1, false), (8, true), (9, true), (10, true), (12, true), (13, true), (14, true), (15, true), (16, true), (17, true), (18, true), (19, true), (20, true), (11, false), (21, true), (22, true), (23, true), (24, true), (26, true), (27, true), (28, true), (29, true), (25, false), (30, true), (31, true), (32, true), (33, true), (35, true), (36, true), (37, true), (38, true), (34, false), (39, true), (40, true)] [] (No) (by kernel_rfl) fun w3 hE3 hs3 => ?_
    have hd2 := hb2
    have hd4 := hb4
    have hlogd := hlog
    have hbkd := hbk
    have hXd := hX
    have hb2 := hb2.extNo hE3
    have hb4 := hb4.extNo hE3
    have hlog := hlog.extNo hE3
    have hbk := hbk.extNo hE3
    have hX := hX.thenNo hE3
    have hC : Ext (No) _ w3 := hE3.no
    refine wd_k I_ok 1 rfl (wd_ld I_ok rfl rfl (fun w' hw' => (hd2.extNo hw').cell rfl) ?_)
    refine wd_k I_ok 2 rfl (wd_ld I_ok rfl rfl (fun w' hw' => ((hbkd.extNo hw').cell rfl)) ?_)
    refine wd_k I_ok 2 rfl ?_
    rw [IntWalk.i64_in _ (by omega)]
    refine wd_l rfl (st_call Tryd.call30 rfl rfl rfl rfl rfl rfl (logLen_calls w3 hlog (by omega)) fun v4 w4 hr4 => ⟨(by obtain ⟨rfl, hE4⟩ := hr4; exact hC.thenNo hE4), ?_⟩)
    obtain ⟨rfl, hE4⟩ := hr4
    have hb2 := hb2.extNo hE4
    have hb4 := hb4.extNo hE4
    have hlog := hlog.extNo hE4
    have hbk := hbk.extNo hE4
    have hX := hX.thenNo hE4
    have hC := hC.thenNo hE4
    refine wd_k I_ok 2 rfl (wd_caseD 21 rfl (fun hg => ?_) (fun hg => ?_))
    · exact absurd rfl hg
    · refine wd_k I_ok 1 rfl ?_
      refine wd_ld I_ok rfl rfl (fun w' hw' => (hd2.extNo hw').cell rfl) ?_
      refine wd_k I_ok 2 rfl (wd_ld I_ok rfl rfl (fun w' hw' => ((hbkd.extNo hw').cell rfl)) ?_)
      refine wd_ld I_ok rfl rfl (fun w' hw' => (hd2.extNo hw').cell rfl) ?_
      refine wd_k I_ok 2 rfl (wd_ld I_ok rfl rfl (fun w' hw' => ((hbkd.extNo hw').cell rfl)) ?_)
      refine wd_k I_ok 1 rfl ?_
      rw [IntWalk.i64_in _ (by omega)]
      refine wd_l rfl (st_call Tryd.call10 rfl rfl rfl rfl rfl rfl (left_calls w4 hlog (by omega) (by omega)) fun v5 w5 hr5 => ⟨(by obtain ⟨rfl, hE5⟩ := hr5; exact hC.thenNo hE5), ?_⟩)
      obtain ⟨rfl, hE5⟩ := hr5
      have hb2 := hb2.extNo hE5
      have hb4 := hb4.extNo hE5
      have hlog := hlog.extNo hE5
      have hbk := hbk.extNo hE5
      have hX := hX.thenNo hE5
      have hC := hC.thenNo hE5
      refine wd_k I_ok 3 rfl (wd_caseD 35 rfl (fun hg => ?_) (fun hg => ?_))
      · exact absurd rfl hg
      · refine wd_k I_ok 1 rfl ?_
        refine wd_ld I_ok rfl rfl (fun w' hw' => (hd2.extNo hw').cell rfl) ?_
        refine wd_k I_ok 2 rfl (wd_ld I_ok rfl rfl (fun w' hw' => ((hbkd.extNo hw').cell rfl)) ?_)
        refine wd_l rfl (st_call Tryd.call18 rfl rfl rfl rfl rfl rfl (turn_calls w5 hlog) fun v6 w6 hr6 => ⟨(by obtain ⟨rfl, hE6⟩ := hr6; exact hC.thenNo hE6), ?_⟩)
        obtain ⟨rfl, hE6⟩ := hr6
        have hb2 := hb2.extNo hE6
        have hb4 := hb4.extNo hE6
        have hlog := hlog.extNo hE6
        have hbk := hbk.extNo hE6
        have hX := hX.thenNo hE6
        have hC := hC.thenNo hE6
        refine wd_k I_ok 3 rfl (wd_caseD 44 rfl (fun hg => ?_) (fun hg => ?_))
        · exact absurd rfl hg
        · refine wd_k I_ok 1 rfl ?_
          refine wd_ld I_ok rfl rfl (fun w' hw' => (hd2.extNo hw').cell rfl) ?_
          refine wd_k I_ok 2 rfl (wd_ld I_ok rfl rfl (fun w' hw' => ((hbkd.extNo hw').cell rfl)) ?_)
          refine wd_l rfl (st_call Tryd.call19 rfl rfl rfl rfl rfl rfl (broken_calls w6 hlog) fun v7 w7 hr7 => ⟨(by obtain ⟨rfl, hE7⟩ := hr7; exact hC.thenNo hE7), ?_⟩)
          obtain ⟨rfl, hE7⟩ := hr7
          have hb2 := hb2.extNo hE7
          have hb4 := hb4.extNo hE7
          have hlog := hlog.extNo hE7
          have hbk := hbk.extNo hE7
          have hX := hX.thenNo hE7
          have hC := hC.thenNo hE7
          refine wd_k I_ok 2 rfl (wd_sw (wb_nil ?_))
          exact f_cut (!(W9.broken == W9.broken)) rfl ⟨by simp, hb2, hb4, hX⟩
  rintro z w8 ⟨rfl, hb2, hb4, hX⟩
  refine c_condF rfl (c_skip (f_then (c_seq (c_region (wl_p I_ok rfl ?_)))))
  have l2 := hb2.lt
  have l4 := hb4.lt
  refine wl (st_call Tryd.call27 rfl rfl rfl rfl rfl rfl (all_calls w8 (hL.extNo hX) hne (by omega)) fun v9 w9 hr9 => ?_)
  obtain ⟨bA, qA, cA, rowsA, rfl, hbA, hsA, hpA, hAn, hqA, hE9⟩ := hr9
  have hb2 := hb2.extNo hE9
  have hb4 := hb4.extNo hE9
  have hX := hX.thenNo hE9
  rw [hdr] at hbA hsA hpA hqA
  obtain ⟨n3, hn3⟩ : ∃ n, n = w9.heap.size := ⟨_, rfl⟩
  have hwn3 : w.heap.size ≤ n3 := by rw [hn3]; exact hX.size
  have hs3 := hE9.size
  have h2n3 : b2 < n3 ∧ b4 < n3 := ⟨by omega, by omega⟩
  have hbn : bA < n3 := by rw [hn3]; exact hbA.lt
  have hqn : ∀ y off, qA = some ⟨y, off, none⟩ → r0.length ≠ 0 → y < n3 := fun y off e h0 => by rw [hn3]; exact (hqA y off e h0).2
  have hHn : ∀ y, Hl y → y < n3 := fun y hy => by have := hHlt y hy; omega
  have hT : AllI w9 bA cA n3 qA rowsA r0 Hl := ⟨hbA, hsA, hpA, by rw [hn3]; exact Nat.le_refl _⟩
  refine wl_p I_ok rfl (wl_nil (f_then (c_seq (c_seq (c_region (wl_p I_ok rfl (wl_nil (f_then (c_block (c_loopU (c_seq (c_region (wl_p I_ok rfl (wl_nil (f_then (c_seq (c_condT rfl (c_skip (f_then (c_seq (c_block (c_seq ?_))))))))))))))))))))))
  refine c_region (wl_p I_ok rfl ?_)
  have hnT := hT.2.2.2
  refine wl (st_call Tryd.call29 rfl rfl rfl rfl rfl rfl (snapshot_calls w9 (hL.extNo hX) hne (hsh _ (List.getElem_mem hne))) fun v10 w10 hr10 => ?_)
  obtain ⟨q1, k1, rfl, hq1, hnq1, hE10⟩ := hr10
  have hb2 := hb2.extNo hE10
  have hb4 := hb4.extNo hE10
  have hT := hT.step hbn hqn hHn hE10 fun y e => e.elim
  have hX := hX.thenNo hE10
  rw [hs0] at hq1 ⊢
  have hn1 : ∀ y, OwnB q1 y → n3 ≤ y := fun y hy => by have := hnq1 y hy; omega
  refine wl_p I_ok rfl (wl_nil (f_then (c_seq (c_seq (c_region (wl_p I_ok rfl (wl (st_ldb I_ok hb2 rfl rfl (wl_p I_ok rfl ?_)))))))))
  obtain ⟨pb0, pc0, hr0, _, hsl0, _⟩ := (hpsk.ext hX fun _ _ _ => id).get hne
  rw [hs0] at hr0 hsl0
  refine wl (st_ld I_ok rfl ((hbk0.extNo hX).cell rfl) (wl (st_ix I_ok rfl 1 rfl 0 rfl hne (0 + 0 * 1) rfl (wl (st_ld I_ok rfl ((Seg.ext hqs0 hX id) _ _ hr0) ?_)))))
  refine wl (st_call Tryd.call42 rfl rfl rfl rfl rfl rfl (bytesEqual_calls w10 hq1.sl hsl0) fun v11 w11 hr11 => ?_)
  obtain ⟨rfl, rfl⟩ := hr11
  rw [decide_eq_true rfl]
  refine wl_p I_ok rfl (wl_nil (f_then (c_condF rfl ?_)))
  have hmu : MutB w11 q1 s0.length k1 := ⟨s0, rfl, hq1⟩
  refine c_skip (f_then (c_seq (c_seq (c_region (wl_p I_ok rfl (wl_nil (f_then (c_block ?_))))))))
  refine c_loopK (α := Nat) [1, 2, 4, 5, 6, 55, 69] rfl (fun z => [(70, .int .i64 (z : Int))]) (fun z u => (z ≤ s0.length ∧ MutB u q1 s0.length k1 ∧ AllI u bA cA n3 qA rowsA r0 Hl) ∧ Blk u b2 67 ([.pointer (some ⟨xb, 0, none⟩)]) ∧ Blk u b4 4 ([.bool false]) ∧ Ext No w u) (fun z u => s0.length - z) (0) rfl ⟨⟨Nat.zero_le _, hmu, hT⟩, hb2, hb4, hX⟩ ?_
  rintro i w12 ⟨⟨hi, hmu, hT⟩, hb2, hb4, hX⟩
  refine c_seq (c_region (wl_p I_ok rfl (wl_nil (f_then (c_seq (c_if rfl (fun hc => ?_) (fun hc => ?_)))))))
  · have hil : i < s0.length := by omega
    obtain ⟨bl, Lq, xq, rfl, hbl, hLl, hLc, hLi, hset⟩ := hmu.at hil
    have hbln : n3 ≤ bl := hn1 bl rfl
    refine c_skip (f_then (c_seq (c_block (c_seq (c_region (wl_p I_ok rfl (wl_nil (f_then (c_region (wl_p I_ok rfl (wl (st_ix I_ok rfl 1 rfl i rfl hil (0 + i * 1) rfl ?_))))))))))))
    refine wl (st_ld I_ok rfl (hbl.cell (by rw [show 0 + i * 1 = i from by omega]; exact hLi)) (wl_p I_ok rfl ?_))
    rw [byte_next xq]
    refine wl (st_ix I_ok rfl 1 rfl i rfl hil (0 + i * 1) rfl ?_)
    have hblo := hbl
    refine wl (st_set I_ok hbl rfl rfl (by omega) fun w13 hbl hE13 hs13 => ?_)
    rw [show 0 + i * 1 = i from by omega] at hbl
    have hb2 := hb2.ext1 hE13 fun e => by omega
    have hb4 := hb4.ext1 hE13 fun e => by omega
    have hX := hX.trans hE13 fun y hy e => by have e : y = bl := e; omega
    have hT := hT.step hbn hqn hHn hE13 fun y e => by have e : y = bl := e; omega
    have hmu := hset _ hbl
    refine wl_nil (f_blockN (f_then (c_region (wl_p I_ok rfl ?_))))
    rw [IntWalk.i64_in _ (by omega)]
    refine wl_nil ?_
    exact f_round (i + 1) rfl ⟨⟨by omega, hmu, hT⟩, hb2, hb4, hX⟩ (by first | omega | (dsimp only; omega))
  · refine c_exit ?_
    refine f_thenE (f_thenE (f_blockE (f_then (c_seq (c_region ?_)))))
    have hnT := hT.2.2.2
    refine wl (st_al I_ok rfl fun b8 w14 hn8 hb8 hE14 => ?_)
    have ne2_8 : b2 ≠ b8 := Nat.ne_of_lt (Nat.lt_of_lt_of_le hb2.lt hn8)
    have ne4_8 : b4 ≠ b8 := Nat.ne_of_lt (Nat.lt_of_lt_of_le hb4.lt hn8)
    have fr8 := Nat.le_trans hX.size hn8
    have hb2 := hb2.extNo hE14
    have hb4 := hb4.extNo hE14
    have hT := hT.step hbn hqn hHn hE14 fun y e => e.elim
    have hX := hX.thenNo hE14
    have n3_8 : n3 ≤ b8 := by omega
    refine wl (st_st I_ok hb8 rfl rfl rfl fun w15 hb8 hE15 hs15 => ?_)
    have hb2 := hb2.ext1 hE15 ne2_8
    have hb4 := hb4.ext1 hE15 ne4_8
    have hT := hT.step hbn hqn hHn hE15 fun y e => by have e : y = b8 := e; rw [e]; exact n3_8
    have hX := hX.thenNew hE15 fr8
    have hb8 : Blk w15 b8 3 ([.int .i64 ((0 : Nat) : Int)]) := hb8
    refine wl_nil (f_then (c_seq (c_seq (c_region (wl_p I_ok rfl (wl_nil (f_then (c_block ?_))))))))
    have hXx := hX
    have hTx := hT
    have hb2x := hb2
    have hb4x := hb4
    have fr8x := fr8
    have l8x := hb8.lt
    refine c_iterV (toldC w15 b8) (()) rfl Tryd.call62 rfl AllA.size (fun w1 hE1 => all1_iter w1 (ps := r0) (hT.1.extNo hE1) (by by_cases h0 : r0.length = 0; exact ⟨hT.2.1.1, .inl h0⟩; exact hT.2.1.ext hE1 fun _ _ _ => id) (hT.2.2.1.ext hE1 fun _ _ _ => id) (fun y off e h0 => by have := hqn y off e h0; have := hT.2.2.2; have := hE1.size; omega) (fun y hy => by have := hHn y hy; have := hT.2.2.2; have := hE1.size; omega) (by omega) (fun b hb => hsh b (by rw [hp0]; exact List.mem_cons_of_mem _ hb))) (fun y hy => by
  have hsz := hT.2.2.2
  rcases hy with ⟨off, e, h⟩ | hy
  · have h1 := hqn y off e h
    exact ⟨by omega, fun e2 => by have e2 : y = b8 := e2; omega⟩
  · have h1 := hHn y hy
    exact ⟨by omega, fun e2 => by have e2 : y = b8 := e2; omega⟩) hb8 (fun l DD r k z W vs Xn hRd hNx hJ hk hA => ?_) (fun D1 z W hJ hE hsub hDn hmk hnd => ?_) (fun D1 k c z W hk hJ hE hsub hDn hmk hnd => ?_)
    · have hLr := hRd.l
      have hb8 : Blk W b8 3 [.int .i64 (k : Int)] := hJ
      obtain ⟨qx, cx, rfl, hown, rfl⟩ := hA
      have hkr : k < r0.length := hk
      obtain ⟨Bk, hBk⟩ : ∃ Bk, Bk = r0.getD k [] := ⟨_, rfl⟩
      have hBg : W9.pieces[k + 1]? = some Bk := by rw [hp0, hBk]; simp [hkr]
      have hk2 : k + 1 < W9.pieces.length := by omega
      have hBk2 : W9.pieces[k + 1] = Bk := by rw [List.getElem?_eq_getElem hk2] at hBg; exact Option.some.inj hBg
      rw [← hBk] at hown ⊢
      have hBl : Bk.length < 1000000000 := by rw [← hBk2]; exact hsh _ (List.getElem_mem hk2)
      have hXW : Ext No w W := hXx.trans hRd.X fun y hy e => by have e : y = b8 := e; omega
      have hb2 : Blk W b2 67 [.pointer (some ⟨xb, 0, none⟩)] := hb2x.ext hRd.X fun e => by have e : b2 = b8 := e; omega
      have hbkW := hbk0.extNo hXW
      obtain ⟨pk, pc, hrk, _, hslk, _⟩ := hpsk.get hk2
      rw [hBk2] at hrk hslk
      have hX0W := hXW.size
      have l8W := hb8.lt
      have hxn := fun y (hy : OwnB qx y) => hNx.ne y hy
      have nl2 := hb2.neL hLr
      have nl8 := hb8.neL hLr
      have hX : Ext (fun x => (x = b8 ∨ x = l) ∨ OwnB qx x) W W := Ext.refl _ _
      refine ci_seq (ci_region (wli_pR I_ok rfl (wli_nil (fi_then (ci_region (wli_pR I_ok rfl (wli_nil (fin_begin hRd hLr fun w16 hE16 hL16 => ?_))))))))
      have hb2 := hb2.extL hLr hE16
      have hb8 := hb8.extL hLr hE16
      have hown := hown.ext hE16 fun y hy e => (hxn y hy).2.1 e
      have hXW := hXW.trans hE16 fun y hy e => by have e : y = l := e; have := hRd.lo.1; have := hXx.size; omega
      have hLr := hL16
      have hX := hX.then (hE16.mono fun x _ e => .inl (.inr e))
      refine ci_block (ci_seq (ci_seq (ci_region (wli (.round _) rfl (st_ldb I_ok hb8 rfl rfl (wli_pR I_ok rfl ?_))))))
      rw [IntWalk.i64_in _ (by omega)]
      refine wli (.round _) rfl (st_st I_ok hb8 rfl rfl rfl fun w17 hb8 hE17 hs17 => ?_)
      have hb2 := hb2.ext1 hE17 ne2_8
      have hown := hown.ext hE17 fun y hy e => (hxn y hy).2.2.2 (show y = b8 from e)
      have hXW := hXW.trans hE17 fun y hy e => by have e : y = b8 := e; omega
      have hLr := hl_ext hLr hE17 nl8.symm
      have hX := hX.then (hE17.mono fun x _ e => by have e : x = b8 := e; subst e; exact (.inl (.inl rfl)))
      have hb8 : Blk w17 b8 3 ([.int .i64 ((k + 1 : Nat) : Int)]) := hb8
      refine wli_nil (fi_then ?_)
      refine ci_cutK (α := Bool) [4, 10] rfl (fun z => [(108, .bool z)]) (fun z u => (z = false ∧ Own u qx Bk.length cx 5 1 (bytesU Bk) ∧ u.heap[l]? = some (.loop (busy r)) ∧ Ext No w u) ∧ Blk u b2 67 ([.pointer (some ⟨xb, 0, none⟩)]) ∧ Blk u b8 3 ([.int .i64 ((k + 1 : Nat) : Int)]) ∧ Ext (fun x => (x = b8 ∨ x = l) ∨ OwnB qx x) W u) ?_ ?_
      · refine ci_draw (.round _) rfl rfl 24 [(0, true), (1, true), (2, true), (3, true), (4, true), (5, true), (6, true), (7, true), (8, true), (9, true), (10, true), (11, true), (12, true), (13, true), (14, true), (15, true), (16, true), (17, true), (18, true), (19, true), (20, true), (21, false), (22, true), (23, true)] [] (No) (by kernel_rfl) fun w18 hE18 hs18 => ?_
        have hd2 := hb2
        have hd8 := hb8
        have hownd := hown
        have hXWd := hXW
        have hLrd := hLr
        have hXd := hX
        have hb2 := hb2.extNo hE18
        have hb8 := hb8.extNo hE18
        have hown := hown.ext hE18 fun _ _ => id
        have hXW := hXW.thenNo hE18
        have hLr := hl_ext hLr hE18 id
        have hX := hX.thenNo hE18
        have hC : Ext (No) _ w18 := hE18.no
        refine wd_k I_ok 1 rfl (wd_ld I_ok rfl rfl (fun w' hw' => (hd8.extNo hw').cell rfl) ?_)
        refine wd_k I_ok 2 rfl (wd_caseD 88 rfl (fun hg => ?_) (fun hg => ?_))
        · exact absurd hg (by omega)
        · refine wd_ld I_ok rfl rfl (fun w' hw' => (hd8.extNo hw').cell rfl) ?_
          refine wd_ld I_ok rfl rfl (fun w' hw' => (hd2.extNo hw').cell rfl) ?_
          refine wd_k I_ok 2 rfl (wd_ld I_ok rfl rfl (fun w' hw' => ((hbk0.extNo (hXWd.thenNo hw')).cell rfl)) ?_)
          refine wd_k I_ok 4 rfl (wd_caseD 97 rfl (fun hg => ?_) (fun hg => ?_))
          · exact absurd hg (by omega)
          · refine wd_k I_ok 1 rfl ?_
            refine wd_ld I_ok rfl rfl (fun w' hw' => (hd2.extNo hw').cell rfl) ?_
            refine wd_k I_ok 2 rfl (wd_ld I_ok rfl rfl (fun w' hw' => ((hbk0.extNo (hXWd.thenNo hw')).cell rfl)) ?_)
            refine wd_ld I_ok rfl rfl (fun w' hw' => (hd8.extNo hw').cell rfl) ?_
            refine wd_ix I_ok rfl rfl 1 rfl (k + 1) rfl hk2 (0 + (k + 1) * 1) rfl (wd_ld I_ok rfl rfl (fun w' hw' => ((Seg.ext hqs0 (hXWd.thenNo hw') id) _ _ (by rw [Nat.mul_one]; exact hrk))) ?_)
            refine wd_l rfl (st_call Tryd.call42 rfl rfl rfl rfl rfl rfl (bytesEqual_calls w18 hown.sl (hslk.extNo hXW)) fun v19 w19 hr19 => ⟨(by obtain ⟨rfl, rfl⟩ := hr19; exact hC), ?_⟩)
            obtain ⟨rfl, rfl⟩ := hr19
            have hC := hC
            rw [decide_eq_true rfl]
            refine wd_k I_ok 2 rfl (wd_sw (wb_nil ?_))
            exact f_cut (false) rfl ⟨⟨rfl, hown, hLr, hXW⟩, hb2, hb8, hX⟩
      rintro z w20 ⟨⟨rfl, hown, hLr, hXW⟩, hb2, hb8, hX⟩
      refine ci_condF rfl ?_
      have hmu : MutB w20 qx Bk.length cx := ⟨Bk, rfl, hown⟩
      refine ci_skip (fi_then (ci_seq (ci_region (wli_pR I_ok rfl (wli_nil (fi_then (ci_block ?_)))))))
      refine ci_loopK (α := Nat) [10, 110] rfl (fun z => [(111, .int .i64 (z : Int))]) (fun z u => (z ≤ Bk.length ∧ MutB u qx Bk.length cx ∧ u.heap[l]? = some (.loop (busy r))) ∧ Blk u b2 67 ([.pointer (some ⟨xb, 0, none⟩)]) ∧ Blk u b8 3 ([.int .i64 ((k + 1 : Nat) : Int)]) ∧ Ext (fun x => (x = b8 ∨ x = l) ∨ OwnB qx x) W u) (fun z u => Bk.length - z) (0) rfl ⟨⟨Nat.zero_le _, hmu, hLr⟩, hb2, hb8, hX⟩ ?_
      rintro j w21 ⟨⟨hj, hmu, hLr⟩, hb2, hb8, hX⟩
      refine ci_seq (ci_region (wli_pR I_ok rfl (wli_nil (fi_then (ci_seq (ci_if rfl (fun hc => ?_) (fun hc => ?_)))))))
      · have hjl : j < Bk.length := by omega
        obtain ⟨bl, Lq, xq, rfl, hbl, hLl, hLc, hLi, hset⟩ := hmu.at hjl
        refine ci_skip (fi_then (ci_seq (ci_block (ci_seq (ci_region (wli_pR I_ok rfl (wli_nil (fi_then (ci_region (wli_pR I_ok rfl (wli (.round _) rfl (st_ix I_ok rfl 1 rfl j rfl hjl (0 + j * 1) rfl ?_))))))))))))
        refine wli (.round _) rfl (st_ld I_ok rfl (hbl.cell (by rw [show 0 + j * 1 = j from by omega]; exact hLi)) (wli_pR I_ok rfl ?_))
        rw [byte_next xq]
        refine wli (.round _) rfl (st_ix I_ok rfl 1 rfl j rfl hjl (0 + j * 1) rfl ?_)
        have hblo := hbl
        refine wli (.round _) rfl (st_set I_ok hbl rfl rfl (by omega) fun w22 hbl hE22 hs22 => ?_)
        rw [show 0 + j * 1 = j from by omega] at hbl
        have hb2 := hb2.ext1 hE22 (hb2.ne hblo (by decide))
        have hb8 := hb8.ext1 hE22 (hb8.ne hblo (by decide))
        have hX := hX.then (hE22.mono fun y _ e => .inr (by have e : y = bl := e; rw [e]))
        have hLr := hl_one hLr hE22 hblo
        have hmu := hset _ hbl
        refine wli_nil (f_blockN (fi_then (ci_region (wli_pR I_ok rfl ?_))))
        rw [IntWalk.i64_in _ (by omega)]
        refine wli_nil ?_
        exact f_round (j + 1) rfl ⟨⟨by omega, hmu, hLr⟩, hb2, hb8, hX⟩ (by first | omega | (dsimp only; omega))
      · refine ci_exit ?_
        exact f_thenE (f_thenE (f_blockE (f_blockN (fin_nextV (()) hRd hNx hLr hX (fun y hy => .inl hy) (hb8)))))
    · have hb8 : Blk W b8 3 [.int .i64 (r0.length : Int)] := hJ
      have hX : Ext No w W := hXx.trans hE fun y hy e => by have e : y = b8 := e; omega
      have hT := hTx.step hbn hqn hHn hE fun y e => by have e : y = b8 := e; omega
      have hb2 : Blk W b2 67 [.pointer (some ⟨xb, 0, none⟩)] := hb2x.ext hE fun e => by have e : b2 = b8 := e; omega
      have hb4 : Blk W b4 4 [.bool false] := hb4x.ext hE fun e => by have e : b4 = b8 := e; omega
      have hmk1 := hmk
      have hD1w : w.heap.size ≤ D1 := by have := hXx.size; omega
      refine f_blockN (f_then (c_seq (c_draw rfl 8 [(0, true), (1, true), (2, true), (3, true), (4, true), (5, true), (6, true), (7, true)] [] (No) (by kernel_rfl) fun w23 hE23 hs23 => ?_)))
      have hd2 := hb2
      have hd4 := hb4
      have hd8 := hb8
      have hTd := hT
      have hmk1d := hmk1
      have hXd := hX
      have hb2 := hb2.extNo hE23
      have hb4 := hb4.extNo hE23
      have hb8 := hb8.extNo hE23
      have hT := hT.step hbn hqn hHn hE23 fun y e => e.elim
      have hmk1 := hl_ext hmk1 hE23 id
      have hX := hX.thenNo hE23
      have hC : Ext (No) _ w23 := hE23.no
      refine wd_ld I_ok rfl rfl (fun w' hw' => (hd8.extNo hw').cell rfl) ?_
      refine wd_ld I_ok rfl rfl (fun w' hw' => (hd2.extNo hw').cell rfl) ?_
      refine wd_k I_ok 2 rfl (wd_ld I_ok rfl rfl (fun w' hw' => ((hbk0.extNo (hXd.thenNo hw')).cell rfl)) ?_)
      refine wd_k I_ok 3 rfl ?_
      rw [IntWalk.i64_in _ (by omega)]
      refine wd_sw (wb_nil (f_then (c_if rfl (fun hc => ?_) (fun hc => ?_))))
      · exact absurd hc (by omega)
      · refine c_skip ?_
        refine f_blockN (f_then (c_region (wl_p I_ok rfl ?_)))
        rw [IntWalk.i64_in _ (by omega)]
        refine wl_nil (f_again (c_seq (c_region (wl_p I_ok rfl (wl_nil (f_then (c_seq (c_condT rfl (c_skip (f_then (c_seq (c_block (c_seq (c_region (wl_p I_ok rfl ?_)))))))))))))))
        have hnT := hT.2.2.2
        have hDl := heap_lt hmk1
        refine wl (st_call Tryd.call29 rfl rfl rfl rfl rfl rfl (snapshot_calls w23 (hL.extNo hX) hne (hsh _ (List.getElem_mem hne))) fun v24 w24 hr24 => ?_)
        obtain ⟨q1, k1, rfl, hq1, hnq1, hE24⟩ := hr24
        have hb2 := hb2.extNo hE24
        have hb4 := hb4.extNo hE24
        have hb8 := hb8.extNo hE24
        have hT := hT.step hbn hqn hHn hE24 fun y e => e.elim
        have hmk1 := hl_ext hmk1 hE24 id
        have hX := hX.thenNo hE24
        rw [hs0] at hq1 ⊢
        have hn1 : ∀ y, OwnB q1 y → n3 ≤ y := fun y hy => by have := hnq1 y hy; omega
        have hqD : ∀ y, OwnB q1 y → y ≠ D1 := fun y hy e => by have := hnq1 y hy; omega
        refine wl_p I_ok rfl (wl_nil (f_then (c_seq (c_seq (c_region (wl_p I_ok rfl (wl (st_ldb I_ok hb2 rfl rfl (wl_p I_ok rfl ?_)))))))))
        obtain ⟨pb0, pc0, hr0, _, hsl0, _⟩ := (hpsk.ext hX fun _ _ _ => id).get hne
        rw [hs0] at hr0 hsl0
        refine wl (st_ld I_ok rfl ((hbk0.extNo hX).cell rfl) (wl (st_ix I_ok rfl 1 rfl 0 rfl hne (0 + 0 * 1) rfl (wl (st_ld I_ok rfl ((Seg.ext hqs0 hX id) _ _ hr0) ?_)))))
        refine wl (st_call Tryd.call42 rfl rfl rfl rfl rfl rfl (bytesEqual_calls w24 hq1.sl hsl0) fun v25 w25 hr25 => ?_)
        obtain ⟨rfl, rfl⟩ := hr25
        rw [decide_eq_true rfl]
        refine wl_p I_ok rfl (wl_nil (f_then (c_condF rfl ?_)))
        have hmu : MutB w25 q1 s0.length k1 := ⟨s0, rfl, hq1⟩
        refine c_skip (f_then (c_seq (c_seq (c_region (wl_p I_ok rfl (wl_nil (f_then (c_block ?_))))))))
        refine c_loopK (α := Nat) [1, 2, 4, 5, 6, 55, 69] rfl (fun z => [(70, .int .i64 (z : Int))]) (fun z u => (z ≤ s0.length ∧ MutB u q1 s0.length k1 ∧ AllI u bA cA n3 qA rowsA r0 Hl ∧ u.heap[D1]? = some mark0) ∧ Blk u b2 67 ([.pointer (some ⟨xb, 0, none⟩)]) ∧ Blk u b4 4 ([.bool false]) ∧ Ext No w u) (fun z u => s0.length - z) (0) rfl ⟨⟨Nat.zero_le _, hmu, hT, hmk1⟩, hb2, hb4, hX⟩ ?_
        rintro i w26 ⟨⟨hi, hmu, hT, hmk1⟩, hb2, hb4, hX⟩
        refine c_seq (c_region (wl_p I_ok rfl (wl_nil (f_then (c_seq (c_if rfl (fun hc => ?_) (fun hc => ?_)))))))
        · have hil : i < s0.length := by omega
          obtain ⟨bl, Lq, xq, rfl, hbl, hLl, hLc, hLi, hset⟩ := hmu.at hil
          have hbln : n3 ≤ bl := hn1 bl rfl
          refine c_skip (f_then (c_seq (c_block (c_seq (c_region (wl_p I_ok rfl (wl_nil (f_then (c_region (wl_p I_ok rfl (wl (st_ix I_ok rfl 1 rfl i rfl hil (0 + i * 1) rfl ?_))))))))))))
          refine wl (st_ld I_ok rfl (hbl.cell (by rw [show 0 + i * 1 = i from by omega]; exact hLi)) (wl_p I_ok rfl ?_))
          rw [byte_next xq]
          refine wl (st_ix I_ok rfl 1 rfl i rfl hil (0 + i * 1) rfl ?_)
          have hblo := hbl
          refine wl (st_set I_ok hbl rfl rfl (by omega) fun w27 hbl hE27 hs27 => ?_)
          rw [show 0 + i * 1 = i from by omega] at hbl
          have hb2 := hb2.ext1 hE27 fun e => by omega
          have hb4 := hb4.ext1 hE27 fun e => by omega
          have hX := hX.trans hE27 fun y hy e => by have e : y = bl := e; omega
          have hT := hT.step hbn hqn hHn hE27 fun y e => by have e : y = bl := e; omega
          have hmu := hset _ hbl
          have hmk1 := hl_ext hmk1 hE27 fun e => hqD bl rfl (show D1 = bl from e).symm
          refine wl_nil (f_blockN (f_then (c_region (wl_p I_ok rfl ?_))))
          rw [IntWalk.i64_in _ (by omega)]
          refine wl_nil ?_
          exact f_round (i + 1) rfl ⟨⟨by omega, hmu, hT, hmk1⟩, hb2, hb4, hX⟩ (by first | omega | (dsimp only; omega))
        · refine c_exit ?_
          refine f_thenE (f_thenE (f_blockE (f_then (c_seq (c_region ?_)))))
          have hnT := hT.2.2.2
          have hDl := heap_lt hmk1
          refine wl (st_al I_ok rfl fun b8 w28 hn8 hb8 hE28 => ?_)
          have ne2_8 : b2 ≠ b8 := Nat.ne_of_lt (Nat.lt_of_lt_of_le hb2.lt hn8)
          have ne4_8 : b4 ≠ b8 := Nat.ne_of_lt (Nat.lt_of_lt_of_le hb4.lt hn8)
          have fr8 := Nat.le_trans hX.size hn8
          have hb2 := hb2.extNo hE28
          have hb4 := hb4.extNo hE28
          have hT := hT.step hbn hqn hHn hE28 fun y e => e.elim
          have hmk1 := hl_ext hmk1 hE28 id
          have hX := hX.thenNo hE28
          have n3_8 : n3 ≤ b8 := by omega
          have nd1_8 : D1 ≠ b8 := by omega
          refine wl (st_st I_ok hb8 rfl rfl rfl fun w29 hb8 hE29 hs29 => ?_)
          have hb2 := hb2.ext1 hE29 ne2_8
          have hb4 := hb4.ext1 hE29 ne4_8
          have hT := hT.step hbn hqn hHn hE29 fun y e => by have e : y = b8 := e; rw [e]; exact n3_8
          have hmk1 := hl_ext hmk1 hE29 fun e => nd1_8 e
          have hX := hX.thenNew hE29 fr8
          have hb8 : Blk w29 b8 3 ([.int .i64 ((0 : Nat) : Int)]) := hb8
          refine wl_nil (f_then (c_seq (c_seq (c_region (wl_p I_ok rfl (wl_nil (f_then (c_block ?_))))))))
          have hXx := hX
          have hTx := hT
          have hb2x := hb2
          have hb4x := hb4
          have fr8x := fr8
          have l8x := hb8.lt
          have hmkx := hmk1
          refine c_iterV (toldC w29 b8) (()) rfl Tryd.call62 rfl AllA.size (fun w1 hE1 => all1_iter w1 (ps := r0) (hT.1.extNo hE1) (by by_cases h0 : r0.length = 0; exact ⟨hT.2.1.1, .inl h0⟩; exact hT.2.1.ext hE1 fun _ _ _ => id) (hT.2.2.1.ext hE1 fun _ _ _ => id) (fun y off e h0 => by have := hqn y off e h0; have := hT.2.2.2; have := hE1.size; omega) (fun y hy => by have := hHn y hy; have := hT.2.2.2; have := hE1.size; omega) (by omega) (fun b hb => hsh b (by rw [hp0]; exact List.mem_cons_of_mem _ hb))) (fun y hy => by
  have hsz := hT.2.2.2
  rcases hy with ⟨off, e, h⟩ | hy
  · have h1 := hqn y off e h
    exact ⟨by omega, fun e2 => by have e2 : y = b8 := e2; omega⟩
  · have h1 := hHn y hy
    exact ⟨by omega, fun e2 => by have e2 : y = b8 := e2; omega⟩) hb8 (fun l DD r k z W vs Xn hRd hNx hJ hk hA => ?_) (fun D2 z W hJ hE hsub hDn hmk hnd => ?_) (fun D2 k c z W hk hJ hE hsub hDn hmk hnd => ?_)
          · have hLr := hRd.l
            have hb8 : Blk W b8 3 [.int .i64 (k : Int)] := hJ
            obtain ⟨qx, cx, rfl, hown, rfl⟩ := hA
            have hkr : k < r0.length := hk
            obtain ⟨Bk, hBk⟩ : ∃ Bk, Bk = r0.getD k [] := ⟨_, rfl⟩
            have hBg : W9.pieces[k + 1]? = some Bk := by rw [hp0, hBk]; simp [hkr]
            have hk2 : k + 1 < W9.pieces.length := by omega
            have hBk2 : W9.pieces[k + 1] = Bk := by rw [List.getElem?_eq_getElem hk2] at hBg; exact Option.some.inj hBg
            rw [← hBk] at hown ⊢
            have hBl : Bk.length < 1000000000 := by rw [← hBk2]; exact hsh _ (List.getElem_mem hk2)
            have hXW : Ext No w W := hXx.trans hRd.X fun y hy e => by have e : y = b8 := e; omega
            have hb2 : Blk W b2 67 [.pointer (some ⟨xb, 0, none⟩)] := hb2x.ext hRd.X fun e => by have e : b2 = b8 := e; omega
            have hbkW := hbk0.extNo hXW
            obtain ⟨pk, pc, hrk, _, hslk, _⟩ := hpsk.get hk2
            rw [hBk2] at hrk hslk
            have hX0W := hXW.size
            have l8W := hb8.lt
            have hxn := fun y (hy : OwnB qx y) => hNx.ne y hy
            have nl2 := hb2.neL hLr
            have nl8 := hb8.neL hLr
            have hX : Ext (fun x => (x = b8 ∨ x = l) ∨ OwnB qx x) W W := Ext.refl _ _
            refine ci_seq (ci_region (wli_pR I_ok rfl (wli_nil (fi_then (ci_region (wli_pR I_ok rfl (wli_nil (fin_begin hRd hLr fun w30 hE30 hL30 => ?_))))))))
            have hb2 := hb2.extL hLr hE30
            have hb8 := hb8.extL hLr hE30
            have hown := hown.ext hE30 fun y hy e => (hxn y hy).2.1 e
            have hXW := hXW.trans hE30 fun y hy e => by have e : y = l := e; have := hRd.lo.1; have := hXx.size; omega
            have hLr := hL30
            have hX := hX.then (hE30.mono fun x _ e => .inl (.inr e))
            refine ci_block (ci_seq (ci_seq (ci_region (wli (.round _) rfl (st_ldb I_ok hb8 rfl rfl (wli_pR I_ok rfl ?_))))))
            rw [IntWalk.i64_in _ (by omega)]
            refine wli (.round _) rfl (st_st I_ok hb8 rfl rfl rfl fun w31 hb8 hE31 hs31 => ?_)
            have hb2 := hb2.ext1 hE31 ne2_8
            have hown := hown.ext hE31 fun y hy e => (hxn y hy).2.2.2 (show y = b8 from e)
            have hXW := hXW.trans hE31 fun y hy e => by have e : y = b8 := e; omega
            have hLr := hl_ext hLr hE31 nl8.symm
            have hX := hX.then (hE31.mono fun x _ e => by have e : x = b8 := e; subst e; exact (.inl (.inl rfl)))
            have hb8 : Blk w31 b8 3 ([.int .i64 ((k + 1 : Nat) : Int)]) := hb8
            refine wli_nil (fi_then ?_)
            refine ci_cutK (α := Bool) [4, 10] rfl (fun z => [(108, .bool z)]) (fun z u => (z = false ∧ Own u qx Bk.length cx 5 1 (bytesU Bk) ∧ u.heap[l]? = some (.loop (busy r)) ∧ Ext No w u) ∧ Blk u b2 67 ([.pointer (some ⟨xb, 0, none⟩)]) ∧ Blk u b8 3 ([.int .i64 ((k + 1 : Nat) : Int)]) ∧ Ext (fun x => (x = b8 ∨ x = l) ∨ OwnB qx x) W u) ?_ ?_
            · refine ci_draw (.round _) rfl rfl 24 [(0, true), (1, true), (2, true), (3, true), (4, true), (5, true), (6, true), (7, true), (8, true), (9, true), (10, true), (11, true), (12, true), (13, true), (14, true), (15, true), (16, true), (17, true), (18, true), (19, true), (20, true), (21, false), (22, true), (23, true)] [] (No) (by kernel_rfl) fun w32 hE32 hs32 => ?_
              have hd2 := hb2
              have hd8 := hb8
              have hownd := hown
              have hXWd := hXW
              have hLrd := hLr
              have hXd := hX
              have hb2 := hb2.extNo hE32
              have hb8 := hb8.extNo hE32
              have hown := hown.ext hE32 fun _ _ => id
              have hXW := hXW.thenNo hE32
              have hLr := hl_ext hLr hE32 id
              have hX := hX.thenNo hE32
              have hC : Ext (No) _ w32 := hE32.no
              refine wd_k I_ok 1 rfl (wd_ld I_ok rfl rfl (fun w' hw' => (hd8.extNo hw').cell rfl) ?_)
              refine wd_k I_ok 2 rfl (wd_caseD 88 rfl (fun hg => ?_) (fun hg => ?_))
              · exact absurd hg (by omega)
              · refine wd_ld I_ok rfl rfl (fun w' hw' => (hd8.extNo hw').cell rfl) ?_
                refine wd_ld I_ok rfl rfl (fun w' hw' => (hd2.extNo hw').cell rfl) ?_
                refine wd_k I_ok 2 rfl (wd_ld I_ok rfl rfl (fun w' hw' => ((hbk0.extNo (hXWd.thenNo hw')).cell rfl)) ?_)
                refine wd_k I_ok 4 rfl (wd_caseD 97 rfl (fun hg => ?_) (fun hg => ?_))
                · exact absurd hg (by omega)
                · refine wd_k I_ok 1 rfl ?_
                  refine wd_ld I_ok rfl rfl (fun w' hw' => (hd2.extNo hw').cell rfl) ?_
                  refine wd_k I_ok 2 rfl (wd_ld I_ok rfl rfl (fun w' hw' => ((hbk0.extNo (hXWd.thenNo hw')).cell rfl)) ?_)
                  refine wd_ld I_ok rfl rfl (fun w' hw' => (hd8.extNo hw').cell rfl) ?_
                  refine wd_ix I_ok rfl rfl 1 rfl (k + 1) rfl hk2 (0 + (k + 1) * 1) rfl (wd_ld I_ok rfl rfl (fun w' hw' => ((Seg.ext hqs0 (hXWd.thenNo hw') id) _ _ (by rw [Nat.mul_one]; exact hrk))) ?_)
                  refine wd_l rfl (st_call Tryd.call42 rfl rfl rfl rfl rfl rfl (bytesEqual_calls w32 hown.sl (hslk.extNo hXW)) fun v33 w33 hr33 => ⟨(by obtain ⟨rfl, rfl⟩ := hr33; exact hC), ?_⟩)
                  obtain ⟨rfl, rfl⟩ := hr33
                  have hC := hC
                  rw [decide_eq_true rfl]
                  refine wd_k I_ok 2 rfl (wd_sw (wb_nil ?_))
                  exact f_cut (false) rfl ⟨⟨rfl, hown, hLr, hXW⟩, hb2, hb8, hX⟩
            rintro z w34 ⟨⟨rfl, hown, hLr, hXW⟩, hb2, hb8, hX⟩
            refine ci_condF rfl ?_
            have hmu : MutB w34 qx Bk.length cx := ⟨Bk, rfl, hown⟩
            refine ci_skip (fi_then (ci_seq (ci_region (wli_pR I_ok rfl (wli_nil (fi_then (ci_block ?_)))))))
            refine ci_loopK (α := Nat) [10, 110] rfl (fun z => [(111, .int .i64 (z : Int))]) (fun z u => (z ≤ Bk.length ∧ MutB u qx Bk.length cx ∧ u.heap[l]? = some (.loop (busy r))) ∧ Blk u b2 67 ([.pointer (some ⟨xb, 0, none⟩)]) ∧ Blk u b8 3 ([.int .i64 ((k + 1 : Nat) : Int)]) ∧ Ext (fun x => (x = b8 ∨ x = l) ∨ OwnB qx x) W u) (fun z u => Bk.length - z) (0) rfl ⟨⟨Nat.zero_le _, hmu, hLr⟩, hb2, hb8, hX⟩ ?_
            rintro j w35 ⟨⟨hj, hmu, hLr⟩, hb2, hb8, hX⟩
            refine ci_seq (ci_region (wli_pR I_ok rfl (wli_nil (fi_then (ci_seq (ci_if rfl (fun hc => ?_) (fun hc => ?_)))))))
            · have hjl : j < Bk.length := by omega
              obtain ⟨bl, Lq, xq, rfl, hbl, hLl, hLc, hLi, hset⟩ := hmu.at hjl
              refine ci_skip (fi_then (ci_seq (ci_block (ci_seq (ci_region (wli_pR I_ok rfl (wli_nil (fi_then (ci_region (wli_pR I_ok rfl (wli (.round _) rfl (st_ix I_ok rfl 1 rfl j rfl hjl (0 + j * 1) rfl ?_))))))))))))
              refine wli (.round _) rfl (st_ld I_ok rfl (hbl.cell (by rw [show 0 + j * 1 = j from by omega]; exact hLi)) (wli_pR I_ok rfl ?_))
              rw [byte_next xq]
              refine wli (.round _) rfl (st_ix I_ok rfl 1 rfl j rfl hjl (0 + j * 1) rfl ?_)
              have hblo := hbl
              refine wli (.round _) rfl (st_set I_ok hbl rfl rfl (by omega) fun w36 hbl hE36 hs36 => ?_)
              rw [show 0 + j * 1 = j from by omega] at hbl
              have hb2 := hb2.ext1 hE36 (hb2.ne hblo (by decide))
              have hb8 := hb8.ext1 hE36 (hb8.ne hblo (by decide))
              have hX := hX.then (hE36.mono fun y _ e => .inr (by have e : y = bl := e; rw [e]))
              have hLr := hl_one hLr hE36 hblo
              have hmu := hset _ hbl
              refine wli_nil (f_blockN (fi_then (ci_region (wli_pR I_ok rfl ?_))))
              rw [IntWalk.i64_in _ (by omega)]
              refine wli_nil ?_
              exact f_round (j + 1) rfl ⟨⟨by omega, hmu, hLr⟩, hb2, hb8, hX⟩ (by first | omega | (dsimp only; omega))
            · refine ci_exit ?_
              exact f_thenE (f_thenE (f_blockE (f_blockN (fin_nextV (()) hRd hNx hLr hX (fun y hy => .inl hy) (hb8)))))
          · have hb8 : Blk W b8 3 [.int .i64 (r0.length : Int)] := hJ
            have hX : Ext No w W := hXx.trans hE fun y hy e => by have e : y = b8 := e; omega
            have hT := hTx.step hbn hqn hHn hE fun y e => by have e : y = b8 := e; omega
            have hb2 : Blk W b2 67 [.pointer (some ⟨xb, 0, none⟩)] := hb2x.ext hE fun e => by have e : b2 = b8 := e; omega
            have hb4 : Blk W b4 4 [.bool false] := hb4x.ext hE fun e => by have e : b4 = b8 := e; omega
            have hmk2 := hmk
            have hD2w : w.heap.size ≤ D2 := by have := hXx.size; omega
            have hmk1 := hl_ext hmkx hE fun e => nd1_8 e
            have hD12 : D1 ≠ D2 := by have := heap_lt hmkx; omega
            refine f_blockN (f_then (c_seq (c_draw rfl 8 [(0, true), (1, true), (2, true), (3, true), (4, true), (5, true), (6, true), (7, true)] [] (No) (by kernel_rfl) fun w37 hE37 hs37 => ?_)))
            have hd2 := hb2
            have hd4 := hb4
            have hd8 := hb8
            have hTd := hT
            have hmk1d := hmk1
            have hmk2d := hmk2
            have hXd := hX
            have hb2 := hb2.extNo hE37
            have hb4 := hb4.extNo hE37
            have hb8 := hb8.extNo hE37
            have hT := hT.step hbn hqn hHn hE37 fun y e => e.elim
            have hmk1 := hl_ext hmk1 hE37 id
            have hmk2 := hl_ext hmk2 hE37 id
            have hX := hX.thenNo hE37
            have hC : Ext (No) _ w37 := hE37.no
            refine wd_ld I_ok rfl rfl (fun w' hw' => (hd8.extNo hw').cell rfl) ?_
            refine wd_ld I_ok rfl rfl (fun w' hw' => (hd2.extNo hw').cell rfl) ?_
            refine wd_k I_ok 2 rfl (wd_ld I_ok rfl rfl (fun w' hw' => ((hbk0.extNo (hXd.thenNo hw')).cell rfl)) ?_)
            refine wd_k I_ok 3 rfl ?_
            rw [IntWalk.i64_in _ (by omega)]
            refine wd_sw (wb_nil (f_then (c_if rfl (fun hc => ?_) (fun hc => ?_))))
            · exact absurd hc (by omega)
            · refine c_skip ?_
              refine f_blockN (f_then (c_region (wl_p I_ok rfl ?_)))
              rw [IntWalk.i64_in _ (by omega)]
              refine wl_nil (f_again (c_seq (c_region (wl_p I_ok rfl (wl_nil (f_then (c_seq (c_condF rfl (c_exit (f_thenE (f_thenE (f_blockE (f_then (c_seq (c_seq (c_region (wl_p I_ok rfl (wl_nil (f_then (c_block ?_))))))))))))))))))))
              have hXx := hX
              have hb4x := hb4
              have hmkx := hmk1
              have hmky := hmk2
              have fr4x := fr4
              refine c_iterV (stopC w37) (()) rfl Tryd.call62 rfl AllA.size (fun w1 hE1 => all1_iter w1 (ps := r0) (hT.1.extNo hE1) (by by_cases h0 : r0.length = 0; exact ⟨hT.2.1.1, .inl h0⟩; exact hT.2.1.ext hE1 fun _ _ _ => id) (hT.2.2.1.ext hE1 fun _ _ _ => id) (fun y off e h0 => by have := hqn y off e h0; have := hT.2.2.2; have := hE1.size; omega) (fun y hy => by have := hHn y hy; have := hT.2.2.2; have := hE1.size; omega) (by omega) (fun b hb => hsh b (by rw [hp0]; exact List.mem_cons_of_mem _ hb))) (fun y hy => by
  have hsz := hT.2.2.2
  rcases hy with ⟨off, e, h⟩ | hy
  · have h1 := hqn y off e h
    exact ⟨by omega, fun e2 => e2⟩
  · have h1 := hHn y hy
    exact ⟨by omega, fun e2 => e2⟩) rfl (fun l DD r k z W vs Xn hRd hNx hJ hk hA => ?_) (fun D3 z W hJ hE hsub hDn hmk hnd => ?_) (fun D3 k c z W hk hJ hE hsub hDn hmk hnd => ?_)
              · have hLr := hRd.l
                obtain ⟨qx, cx, rfl, hown, rfl⟩ := hA
                have hX : Ext (fun x => (False ∨ x = l) ∨ OwnB qx x) W W := Ext.refl _ _
                refine ci_skip (fin_begin hRd hLr fun w38 hE38 hL38 => ?_)
                have hLr := hL38
                have hX := hX.then (hE38.mono fun x _ e => .inl (.inr e))
                refine ci_block (ci_exit ?_)
                exact f_blockE' rfl (fin_stopV (.inr ⟨8, rfl, rfl⟩) (()) hRd hNx hLr hX (fun y hy => .inl hy) (⟨hJ, rfl⟩))
              · have hX : Ext No w W := hXx.trans hE fun y hy e => e.elim
                have hb4 : Blk W b4 4 [.bool false] := hb4x.ext hE id
                have hmk3 := hmk
                have hmk1 := hl_ext hmkx hE id
                have hmk2 := hl_ext hmky hE id
                have hD13 : D1 ≠ D3 := by have := heap_lt hmkx; omega
                have hD23 : D2 ≠ D3 := by have := heap_lt hmky; omega
                have l4 := hb4.lt
                have nd41 : b4 ≠ D1 := fun e => by
                  rw [e] at hb4; unfold Blk at hb4; rw [hmk1] at hb4; cases hb4
                have nd42 : b4 ≠ D2 := fun e => by
                  rw [e] at hb4; unfold Blk at hb4; rw [hmk2] at hb4; cases hb4
                have nd43 : b4 ≠ D3 := fun e => by
                  rw [e] at hb4; unfold Blk at hb4; rw [hmk3] at hb4; cases hb4
                have hD3w : w.heap.size ≤ D3 := by have := hXx.size; omega
                have nd4 : b4 ≠ D1 ∧ b4 ≠ D2 ∧ b4 ≠ D3 := ⟨nd41, nd42, nd43⟩
                refine f_blockN (f_then (c_seq (c_region (wl (st_st I_ok hb4 rfl rfl rfl fun w39 hb4 hE39 hs39 => ?_)))))
                have hmk1 := hl_ext hmk1 hE39 fun e => nd4.1 (show D1 = b4 from e).symm
                have hmk2 := hl_ext hmk2 hE39 fun e => nd4.2.1 (show D2 = b4 from e).symm
                have hmk3 := hl_ext hmk3 hE39 fun e => nd4.2.2 (show D3 = b4 from e).symm
                have hX := hX.thenNew hE39 fr4
                refine wl_nil (f_then (c_ret ?_))
                refine f_retMs [D3, D2, D1] (by simp [hD13.symm, hD23.symm, hD12.symm]) (fun x hx => by simp only [List.mem_cons, List.not_mem_nil, or_false] at hx; rcases hx with rfl | rfl | rfl; exact hmk3; exact hmk2; exact hmk1) [.bool true] (fun w20 hE20 => ?_) (.inl rfl)
                have hb4 := hb4.ext hE20 fun e => by simp only [List.mem_cons, List.not_mem_nil, or_false] at e; rcases e with e | e | e; exact nd4.2.2 e; exact nd4.2.1 e; exact nd4.1 e
                refine ⟨⟨⟨b4, 0, rfl, ld_one I_ok rfl rfl (hb4.cell rfl)⟩, trivial⟩, rfl, hX.trans hE20 fun y hy e => ?_⟩
                simp only [List.mem_cons, List.not_mem_nil, or_false] at e
                rcases e with rfl | rfl | rfl <;> omega
              · have hX : Ext No w W := hXx.trans hE fun y hy e => e.elim
                have hb4 : Blk W b4 4 [.bool false] := hb4x.ext hE id
                have hmk3 := hmk
                have hmk1 := hl_ext hmkx hE id
                have hmk2 := hl_ext hmky hE id
                have hD13 : D1 ≠ D3 := by have := heap_lt hmkx; omega
                have hD23 : D2 ≠ D3 := by have := heap_lt hmky; omega
                have l4 := hb4.lt
                have nd41 : b4 ≠ D1 := fun e => by
                  rw [e] at hb4; unfold Blk at hb4; rw [hmk1] at hb4; cases hb4
                have nd42 : b4 ≠ D2 := fun e => by
                  rw [e] at hb4; unfold Blk at hb4; rw [hmk2] at hb4; cases hb4
                have nd43 : b4 ≠ D3 := fun e => by
                  rw [e] at hb4; unfold Blk at hb4; rw [hmk3] at hb4; cases hb4
                have hD3w : w.heap.size ≤ D3 := by have := hXx.size; omega
                have nd4 : b4 ≠ D1 ∧ b4 ≠ D2 ∧ b4 ≠ D3 := ⟨nd41, nd42, nd43⟩
                obtain ⟨rfl, rfl⟩ := hJ
                refine c_exit (f_blockE (f_then (c_seq (c_region (wl (st_st I_ok hb4 rfl rfl rfl fun w40 hb4 hE40 hs40 => ?_))))))
                have hmk1 := hl_ext hmk1 hE40 fun e => nd4.1 (show D1 = b4 from e).symm
                have hmk2 := hl_ext hmk2 hE40 fun e => nd4.2.1 (show D2 = b4 from e).symm
                have hmk3 := hl_ext hmk3 hE40 fun e => nd4.2.2 (show D3 = b4 from e).symm
                have hX := hX.thenNew hE40 fr4
                refine wl_nil (f_then (c_ret ?_))
                refine f_retMs [D3, D2, D1] (by simp [hD13.symm, hD23.symm, hD12.symm]) (fun x hx => by simp only [List.mem_cons, List.not_mem_nil, or_false] at hx; rcases hx with rfl | rfl | rfl; exact hmk3; exact hmk2; exact hmk1) [.bool true] (fun w20 hE20 => ?_) (.inl rfl)
                have hb4 := hb4.ext hE20 fun e => by simp only [List.mem_cons, List.not_mem_nil, or_false] at e; rcases e with e | e | e; exact nd4.2.2 e; exact nd4.2.1 e; exact nd4.1 e
                refine ⟨⟨⟨b4, 0, rfl, ld_one I_ok rfl rfl (hb4.cell rfl)⟩, trivial⟩, rfl, hX.trans hE20 fun y hy e => ?_⟩
                simp only [List.mem_cons, List.not_mem_nil, or_false] at e
                rcases e with rfl | rfl | rfl <;> omega
          · exact hJ.elim
    · exact hJ.elim
end Go.Proofs.YtlfdlodcjiaiiaaDoor
namespace Go.Proofs.YtlfdlodcjiaiiaaDoor
open Go.Vc
/-- the blocks: of the first disk, of the log, of the second disk, of the book -/
abbrev PZ := (Nat → Prop) × (Nat → Prop) × (Nat → Prop) × (Nat → Prop)
def PZ.any (z : PZ) : Nat → Prop := fun y => z.1 y ∨ z.2.1 y ∨ z.2.2.1 y ∨ z.2.2.2 y
structure PairAt (w u : World) (d1 d2 x xb : Nat) (z : PZ) (W1 W2 : Wl) : Prop where
  a1 : At u d1 z.1 W1.D
  l1 : LogAt u x d1 z.2.1 W1
  a2 : At u d2 z.2.2.1 W2.D
  b2 : BookAt u xb d2 z.2.2.2 W2
  lo : ∀ y, z.any y → w.heap.size ≤ y ∧ y < u.heap.size
  n1 : ∀ y, z.1 y → ¬ z.2.1 y ∧ ¬ z.2.2.1 y ∧ ¬ z.2.2.2 y
  n2 : ∀ y, z.2.1 y → ¬ z.2.2.1 y ∧ ¬ z.2.2.2 y
  n3 : ∀ y, z.2.2.1 y → ¬ z.2.2.2 y
  rt : Rt u
theorem PairAt.ext {S : Nat → Prop} {w u u' : World} {d1 d2 x xb : Nat} {z : PZ} {W1 W2 : Wl} (h : PairAt w u d1 d2 x xb z W1 W2) (hE : Ext S u u') (hS : ∀ y, z.any y → ¬ S y) (h0 : ¬ S 0) : PairAt w u' d1 d2 x xb z W1 W2 :=
  ⟨h.a1.ext hE fun y hy => hS y (.inl hy), h.l1.ext hE fun y hy => hS y (.inr (.inl hy)), h.a2.ext hE fun y hy => hS y (.inr (.inr (.inl hy))), h.b2.ext hE fun y hy => hS y (.inr (.inr (.inr hy))), fun y hy => ⟨(h.lo y hy).1, Nat.lt_of_lt_of_le (h.lo y hy).2 hE.size⟩, h.n1, h.n2, h.n3, Rt.ext h.rt hE h0⟩
theorem PairAt.extNo {w u u' : World} {d1 d2 x xb : Nat} {z : PZ} {W1 W2 : Wl} (h : PairAt w u d1 d2 x xb z W1 W2) (hE : Ext No u u') : PairAt w u' d1 d2 x xb z W1 W2 := h.ext hE (fun _ _ => id) id
theorem PairAt.ext1 {w u u' : World} {d1 d2 x xb b : Nat} {z : PZ} {W1 W2 : Wl} (h : PairAt w u d1 d2 x xb z W1 W2) (hE : Ext (One b) u u') (hb : ¬ z.any b) (h0 : b ≠ 0) : PairAt w u' d1 d2 x xb z W1 W2 := h.ext hE (fun y hy e => by have e : y = b := e; rw [e] at hy; exact hb hy) (fun e => h0 (show 0 = b from e).symm)
/-- what turns the first disk and the log alone -/
theorem PairAt.first {w u u' : World} {d1 d2 x xb : Nat} {z : PZ} {W1 W2 W1' : Wl} {F' H' : Nat → Prop} (h : PairAt w u d1 d2 x xb z W1 W2) (hw : 0 < w.heap.size) (hX : Ext No w u)
    (h1 : At u' d1 F' W1'.D) (h2 : LogAt u' x d1 H' W1') (h3 : ∀ y, F' y → z.1 y ∨ u.heap.size ≤ y) (h4 : ∀ y, H' y → z.2.1 y ∨ u.heap.size ≤ y) (h5 : ∀ y, H' y → ¬ F' y) (hE : Ext (fun y => z.1 y ∨ z.2.1 y) u u') :
    PairAt w u' d1 d2 x xb (F', H', z.2.2.1, z.2.2.2) W1' W2 ∧ Ext No w u' ∧ Ext z.any u u' ∧ ∀ y, PZ.any (F', H', z.2.2.1, z.2.2.2) y → z.any y ∨ u.heap.size ≤ y := by
  have hs := hX.size
  have hs2 := hE.size
  have hl := h1.lt
  have hl2 := h2.lt
  have hw1 : ∀ y, F' y → z.1 y ∨ u.heap.size ≤ y := h3
  have d3 : ∀ y, F' y ∨ H' y → ¬ z.2.2.1 y ∧ ¬ z.2.2.2 y := fun y hy => by
    have : (z.1 y ∨ z.2.1 y) ∨ u.heap.size ≤ y := hy.elim (fun e => (h3 y e).imp .inl id) fun e => (h4 y e).imp .inr id
    rcases this with (e | e) | e
    · exact (h.n1 y e).2
    · exact h.n2 y e
    · exact ⟨fun g => by have := (h.lo y (.inr (.inr (.inl g)))).2; omega, fun g => by have := (h.lo y (.inr (.inr (.inr g)))).2; omega⟩
  refine ⟨⟨h1, h2, h.a2.ext hE fun y hy e => ?_, h.b2.ext hE fun y hy e => ?_, fun y hy => ?_, fun y hy => ⟨fun e => h5 y e hy, d3 y (.inl hy)⟩, fun y hy => d3 y (.inr hy), h.n3, Rt.ext h.rt hE fun e => ?_⟩, hX.trans hE fun y hy e => ?_, hE.mono fun y _ e => e.imp id .inl, fun y hy => ?_⟩
  · exact e.elim (fun e => (h.n1 y e).2.1 hy) fun e => (h.n2 y e).1 hy
  · exact e.elim (fun e => (h.n1 y e).2.2 hy) fun e => (h.n2 y e).2 hy
  · rcases hy with hy | hy | hy | hy
    · exact ⟨(h3 y hy).elim (fun e => (h.lo y (.inl e)).1) fun e => by omega, hl y hy⟩
    · exact ⟨(h4 y hy).elim (fun e => (h.lo y (.inr (.inl e))).1) fun e => by omega, hl2 y hy⟩
    · have := h.lo y (.inr (.inr (.inl hy))); exact ⟨this.1, Nat.lt_of_lt_of_le this.2 hs2⟩
    · have := h.lo y (.inr (.inr (.inr hy))); exact ⟨this.1, Nat.lt_of_lt_of_le this.2 hs2⟩
  · have := (h.lo 0 (e.elim (fun e => .inl e) fun e => .inr (.inl e))).1; omega
  · have := (h.lo y (e.elim (fun e => .inl e) fun e => .inr (.inl e))).1; omega
  · rcases hy with hy | hy | hy | hy
    · exact (h3 y hy).imp (fun e => .inl e) id
    · exact (h4 y hy).imp (fun e => .inr (.inl e)) id
    · exact .inl (.inr (.inr (.inl hy)))
    · exact .inl (.inr (.inr (.inr hy)))
/-- what turns the second disk and the book alone -/
theorem PairAt.second {w u u' : World} {d1 d2 x xb : Nat} {z : PZ} {W1 W2 W2' : Wl} {F' H' K : Nat → Prop} (h : PairAt w u d1 d2 x xb z W1 W2) (hw : 0 < w.heap.size) (hX : Ext No w u) (hK : ∀ y, K y → (w.heap.size ≤ y ∧ y < u.heap.size) ∧ ¬ z.any y)
    (h1 : At u' d2 F' W2'.D) (h2 : BookAt u' xb d2 H' W2') (h3 : ∀ y, F' y → z.2.2.1 y ∨ u.heap.size ≤ y) (h4 : ∀ y, H' y → (z.2.2.2 y ∨ K y) ∨ u.heap.size ≤ y) (h5 : ∀ y, H' y → ¬ F' y) (hE : Ext (fun y => z.2.2.1 y ∨ z.2.2.2 y) u u') :
    PairAt w u' d1 d2 x xb (z.1, z.2.1, F', H') W1 W2' ∧ Ext No w u' ∧ Ext z.any u u' ∧ ∀ y, PZ.any (z.1, z.2.1, F', H') y → (z.any y ∨ K y) ∨ u.heap.size ≤ y := by
  have hs := hX.size
  have hs2 := hE.size
  have hl := h1.lt
  have hl2 := h2.lt
  have d3 : ∀ y, F' y ∨ H' y → ¬ z.1 y ∧ ¬ z.2.1 y := fun y hy => by
    have : (z.2.2.1 y ∨ z.2.2.2 y ∨ K y) ∨ u.heap.size ≤ y := hy.elim (fun e => (h3 y e).imp .inl id) fun e => (h4 y e).imp .inr id
    rcases this with (e | e | e) | e
    · exact ⟨fun g => (h.n1 y g).2.1 e, fun g => (h.n2 y g).1 e⟩
    · exact ⟨fun g => (h.n1 y g).2.2 e, fun g => (h.n2 y g).2 e⟩
    · exact ⟨fun g => (hK y e).2 (.inl g), fun g => (hK y e).2 (.inr (.inl g))⟩
    · exact ⟨fun g => by have := (h.lo y (.inl g)).2; omega, fun g => by have := (h.lo y (.inr (.inl g))).2; omega⟩
  refine ⟨⟨h.a1.ext hE fun y hy e => ?_, h.l1.ext hE fun y hy e => ?_, h1, h2, fun y hy => ?_, fun y hy => ⟨(h.n1 y hy).1, fun e => (d3 y (.inl e)).1 hy, fun e => (d3 y (.inr e)).1 hy⟩, fun y hy => ⟨fun e => (d3 y (.inl e)).2 hy, fun e => (d3 y (.inr e)).2 hy⟩, fun y hy e => h5 y e hy, Rt.ext h.rt hE fun e => ?_⟩, hX.trans hE fun y hy e => ?_, hE.mono fun y _ e => .inr (.inr e), fun y hy => ?_⟩
  · exact e.elim (fun e => (h.n1 y hy).2.1 e) fun e => (h.n1 y hy).2.2 e
  · exact e.elim (fun e => (h.n2 y hy).1 e) fun e => (h.n2 y hy).2 e
  · rcases hy with hy | hy | hy | hy
    · have := h.lo y (.inl hy); exact ⟨this.1, Nat.lt_of_lt_of_le this.2 hs2⟩
    · have := h.lo y (.inr (.inl hy)); exact ⟨this.1, Nat.lt_of_lt_of_le this.2 hs2⟩
    · exact ⟨(h3 y hy).elim (fun e => (h.lo y (.inr (.inr (.inl e)))).1) fun e => by omega, hl y hy⟩
    · exact ⟨(h4 y hy).elim (fun e => e.elim (fun e => (h.lo y (.inr (.inr (.inr e)))).1) fun e => (hK y e).1.1) fun e => by omega, hl2 y hy⟩
  · have := (h.lo 0 (.inr (.inr e))).1; omega
  · have := (h.lo y (.inr (.inr e))).1; omega
  · rcases hy with hy | hy | hy | hy
    · exact .inl (.inl (.inl hy))
    · exact .inl (.inl (.inr (.inl hy)))
    · exact (h3 y hy).imp (fun e => .inl (.inr (.inr (.inl e)))) id
    · exact (h4 y hy).imp (fun e => e.imp (fun e => .inr (.inr (.inr e))) id) id
theorem PairAt.disk1 {w u u' : World} {d1 d2 x xb : Nat} {z : PZ} {W1 W2 : Wl} {F' : Nat → Prop} {D' : Dsk} (h : PairAt w u d1 d2 x xb z W1 W2) (hw : 0 < w.heap.size) (hX : Ext No w u)
    (h1 : At u' d1 F' D') (h3 : ∀ y, F' y → z.1 y ∨ u.heap.size ≤ y) (hE : Ext z.1 u u') :
    PairAt w u' d1 d2 x xb (F', z.2.1, z.2.2.1, z.2.2.2) { W1 with D := D' } W2 ∧ Ext No w u' ∧ Ext z.any u u' ∧ ∀ y, PZ.any (F', z.2.1, z.2.2.1, z.2.2.2) y → z.any y ∨ u.heap.size ≤ y := by
  have hl := h.l1.lt
  exact h.first hw hX h1 ((h.l1.ext hE fun y hy e => (h.n1 y e).1 hy).data rfl rfl rfl rfl rfl) h3 (fun y hy => .inl hy) (fun y hy e => (h3 y e).elim (fun g => (h.n1 y g).1 hy) fun g => by have := hl y hy; omega) (hE.mono fun y _ e => .inl e)
theorem PairAt.disk2 {w u u' : World} {d1 d2 x xb : Nat} {z : PZ} {W1 W2 : Wl} {F' : Nat → Prop} {D' : Dsk} (h : PairAt w u d1 d2 x xb z W1 W2) (hw : 0 < w.heap.size) (hX : Ext No w u)
    (h1 : At u' d2 F' D') (h3 : ∀ y, F' y → z.2.2.1 y ∨ u.heap.size ≤ y) (hE : Ext z.2.2.1 u u') :
    PairAt w u' d1 d2 x xb (z.1, z.2.1, F', z.2.2.2) W1 { W2 with D := D' } ∧ Ext No w u' ∧ Ext z.any u u' ∧ ∀ y, PZ.any (z.1, z.2.1, F', z.2.2.2) y → z.any y ∨ u.heap.size ≤ y := by
  have hl := h.b2.lt
  obtain ⟨a, b, c, d⟩ := h.second (W2' := { W2 with D := D' }) (K := fun _ => False) hw hX (fun y e => e.elim) h1 ((h.b2.ext hE fun y hy e => h.n3 y e hy).data rfl rfl rfl rfl rfl) h3 (fun y hy => .inl (.inl hy)) (fun y hy e => (h3 y e).elim (fun g => h.n3 y g hy) fun g => by have := hl y hy; omega) (hE.mono fun y _ e => .inl e)
  exact ⟨a, b, c, fun y hy => (d y hy).imp (fun e => e.elim id fun e => e.elim) id⟩
/-- two disks -/
structure Dk2 (w u : World) (d1 d2 : Nat) (F1 F2 : Nat → Prop) (D1 D2 : Dsk) : Prop where
  a1 : At u d1 F1 D1
  a2 : At u d2 F2 D2
  lo : ∀ y, F1 y ∨ F2 y → w.heap.size ≤ y ∧ y < u.heap.size
  ne : ∀ y, F1 y → ¬ F2 y
  rt : Rt u
theorem Dk2.ext {S F1 F2 : Nat → Prop} {w u u' : World} {d1 d2 : Nat} {D1 D2 : Dsk} (h : Dk2 w u d1 d2 F1 F2 D1 D2) (hE : Ext S u u') (hS : ∀ y, F1 y ∨ F2 y → ¬ S y) (h0 : ¬ S 0) : Dk2 w u' d1 d2 F1 F2 D1 D2 :=
  ⟨h.a1.ext hE fun y hy => hS y (.inl hy), h.a2.ext hE fun y hy => hS y (.inr hy), fun y hy => ⟨(h.lo y hy).1, Nat.lt_of_lt_of_le (h.lo y hy).2 hE.size⟩, h.ne, Rt.ext h.rt hE h0⟩
theorem Dk2.extNo {F1 F2 : Nat → Prop} {w u u' : World} {d1 d2 : Nat} {D1 D2 : Dsk} (h : Dk2 w u d1 d2 F1 F2 D1 D2) (hE : Ext No u u') : Dk2 w u' d1 d2 F1 F2 D1 D2 := h.ext hE (fun _ _ => id) id
theorem Dk2.first {F1 F2 F' : Nat → Prop} {w u u' : World} {d1 d2 : Nat} {D1 D2 D1' : Dsk} (h : Dk2 w u d1 d2 F1 F2 D1 D2) (hw : 0 < w.heap.size) (hX : Ext No w u) (h1 : At u' d1 F' D1') (h3 : ∀ y, F' y → F1 y ∨ u.heap.size ≤ y) (hE : Ext F1 u u') : Dk2 w u' d1 d2 F' F2 D1' D2 ∧ Ext No w u' := by
  have hs := hX.size
  have hl := h1.lt
  refine ⟨⟨h1, h.a2.ext hE fun y hy e => h.ne y e hy, fun y hy => ?_, fun y hy e => ?_, Rt.ext h.rt hE fun e => ?_⟩, hX.trans hE fun y hy e => ?_⟩
  · rcases hy with hy | hy
    · exact ⟨(h3 y hy).elim (fun e => (h.lo y (.inl e)).1) fun e => by omega, hl y hy⟩
    · have := h.lo y (.inr hy); exact ⟨this.1, Nat.lt_of_lt_of_le this.2 hE.size⟩
  · exact (h3 y hy).elim (fun g => h.ne y g e) fun g => by have := (h.lo y (.inr e)).2; omega
  · have := (h.lo 0 (.inl e)).1; omega
  · have := (h.lo y (.inl e)).1; omega
theorem Dk2.second {F1 F2 F' : Nat → Prop} {w u u' : World} {d1 d2 : Nat} {D1 D2 D2' : Dsk} (h : Dk2 w u d1 d2 F1 F2 D1 D2) (hw : 0 < w.heap.size) (hX : Ext No w u) (h1 : At u' d2 F' D2') (h3 : ∀ y, F' y → F2 y ∨ u.heap.size ≤ y) (hE : Ext F2 u u') : Dk2 w u' d1 d2 F1 F' D1 D2' ∧ Ext No w u' := by
  have hs := hX.size
  have hl := h1.lt
  refine ⟨⟨h.a1.ext hE fun y hy e => h.ne y hy e, h1, fun y hy => ?_, fun y hy e => ?_, Rt.ext h.rt hE fun e => ?_⟩, hX.trans hE fun y hy e => ?_⟩
  · rcases hy with hy | hy
    · have := h.lo y (.inl hy); exact ⟨this.1, Nat.lt_of_lt_of_le this.2 hE.size⟩
    · exact ⟨(h3 y hy).elim (fun e => (h.lo y (.inr e)).1) fun e => by omega, hl y hy⟩
  · exact (h3 y e).elim (fun g => h.ne y hy g) fun g => by have := (h.lo y (.inl hy)).2; omega
  · have := (h.lo 0 (.inr e)).1; omega
  · have := (h.lo y (.inr e)).1; omega
theorem Dsk.Ok.fail {D : Dsk} {m : Nat} (h : D.Ok m) (n : Int) (hn : n < 9223372036854775808) : (D.fail n).1.Ok m ∧ (D.fail n).1.secs = D.secs := by
  unfold Dsk.fail
  split
  · exact ⟨h, rfl⟩
  · exact ⟨⟨h.size, h.safe, h.inside, h.count, h.few, h.fuse, setTo_ge n hn, h.done⟩, rfl⟩
theorem Dsk.Ok.arm {D : Dsk} {m : Nat} (h : D.Ok m) (n : Int) (hn : n < 9223372036854775808) : (D.arm n).1.Ok m ∧ (D.arm n).1.secs = D.secs := by
  unfold Dsk.arm
  split
  · exact ⟨h, rfl⟩
  · exact ⟨⟨h.size, h.safe, h.inside, h.count, h.few, setTo_ge n hn, h.fault, h.done⟩, rfl⟩
/-- the same log over another disk of as many sectors -/
theorem Wl.Ok.on {W : Wl} (h : Wl.Ok W) {D : Dsk} (hD : D.secs.length = W.D.secs.length) : Wl.Ok { W with D := D } := ⟨h.size, by show 2 + 2 * W.size ≤ D.secs.length; rw [hD]; exact h.secs, h.turn, h.some, h.short, h.few, h.used, h.room⟩
end Go.Proofs.YtlfdlodcjiaiiaaDoor
namespace Go.Proofs.YtlfdlodcjiaiiaaDoor
open Go.Vc
theorem append_long {W : Wl} {b : Bytes} (h : 40000 < b.length) : W.append b = (W, 3) := by
  have e : W.refuses b ((W.size : Int) - W.used) = 3 := if_pos h
  rw [append_no (by rw [e]; decide), e]
theorem ckp_long {W : Wl} {b : Bytes} (h : 40000 < b.length) : W.checkpoint b = (W, 3) := by
  have e : W.refuses b (if W.turn = 4294967295 then 0 else (W.size : Int)) = 3 := if_pos h
  rw [ckp_no (by rw [e]; decide), e]
theorem rep_byte (n : Nat) : rep n [Value.int .u8 0] = bytesU (List.replicate n (0 : UInt8)) := by
  rw [rep_one, bytesU, List.map_replicate]
  rfl
theorem walmakes_calls (w : World) (hr : Rt w) (sectors area fault n : Int) (har : -9223372036854775808 ≤ area ∧ area < 9223372036854775808) :
    CallsV Tryd.prog 7 [.int .i64 sectors, .int .i64 area, .int .i64 fault, .int .i64 n] w fun v w' => v = .bool true ∧ Ext No w w' := by
  refine calls_enter Tryd.func7 rfl rfl rfl rfl ?_
  have hX := Ext.refl No w
  have hr0 := hr.lt
  have hrt := hr
  have h20 := Nat.mod_lt (u64N sectors) (by decide : 0 < 2048)
  have h90 := Nat.mod_lt (u64N fault) (by decide : 0 < 90)
  refine c_seq (c_region (wl_p I_ok rfl (wl_nil (f_then (c_seq (c_seq (c_region (wl (st_call Tryd.call8 rfl rfl rfl rfl rfl rfl (wakes_calls w hrt) fun v1 w1 hr1 => ?_)))))))))
  obtain ⟨rfl, hE1⟩ := hr1
  have hrt := Rt.ext hrt hE1 id
  have hX := hX.thenNo hE1
  refine wl_p I_ok rfl (wl_nil (f_then (c_condF rfl (c_skip (f_then (c_seq (c_seq (c_region (wl_p I_ok rfl (wl (st_call Tryd.call34 rfl rfl rfl rfl rfl rfl (sectors_calls w1 n) fun v2 w2 hr2 => ?_)))))))))))
  obtain ⟨rfl, hE2⟩ := hr2
  have hrt := Rt.ext hrt hE2 id
  have hX := hX.thenNo hE2
  refine wl_p I_ok rfl (wl (st_call Tryd.call35 rfl rfl rfl rfl rfl rfl (refSectors_calls w2 n) fun v3 w3 hr3 => ?_))
  obtain ⟨rfl, hE3⟩ := hr3
  have hrt := Rt.ext hrt hE3 id
  have hX := hX.thenNo hE3
  refine wl_p I_ok rfl (wl_nil (f_then (c_if rfl (fun hc => ?_) (fun hc => ?_))))
  · exact absurd rfl hc
  · refine c_skip ?_
    refine f_then (c_seq (c_region (wl_p I_ok rfl ?_)))
    rw [show IntKind.i64.wrap ((IntKind.u64.wrap sectors).tmod 2048) = ((u64N sectors % 2048 : Nat) : Int) from u64_mod sectors 2048 (by decide) (by decide)]
    refine wl_p I_ok rfl ?_
    rw [IntWalk.i64_in _ (by omega)]
    obtain ⟨S, hS⟩ : ∃ S, S = 1 + u64N sectors % 2048 := ⟨_, rfl⟩
    have hS1 : 1 ≤ S ∧ S ≤ 2048 := by omega
    rw [show (1 : Int) + ((u64N sectors % 2048 : Nat) : Int) = (S : Int) from by omega]
    refine wl_p I_ok rfl (wl_nil (f_then (c_seq (c_region (wl_p I_ok rfl ?_)))))
    have hX1 := hX.size
    refine wl (st_call Tryd.call36 rfl rfl rfl rfl rfl rfl (new_calls w3 (n := S) (by omega)) fun v4 w4 hr4 => ?_)
    obtain ⟨d1, F1, rfl, hA1, hF1, hE4⟩ := hr4
    have hrt := Rt.ext hrt hE4 id
    have hX := hX.thenNo hE4
    have hA1l := hA1.lt
    refine wl_p I_ok rfl (wl_nil (f_then (c_seq (c_region (wl_p I_ok rfl ?_)))))
    have hX2 := hX.size
    refine wl (st_call Tryd.call36 rfl rfl rfl rfl rfl rfl (new_calls w4 (n := S) (by omega)) fun v5 w5 hr5 => ?_)
    obtain ⟨d2, F2, rfl, hA2, hF2, hE5⟩ := hr5
    have hrt := Rt.ext hrt hE5 id
    have hA1 := hA1.extNo hE5
    have hX := hX.thenNo hE5
    have hA2l := hA2.lt
    have hdk : Dk2 w w5 d1 d2 F1 F2 (Dsk.fresh S) (Dsk.fresh S) := ⟨hA1, hA2, fun y hy => hy.elim (fun e => ⟨by have := hF1 y e; omega, hA1.lt y e⟩) fun e => ⟨by have := hF2 y e; omega, hA2l y e⟩, fun y hy e => by have := hA1l y hy; have := hF2 y e; omega, hrt⟩
    have hok0 : (Dsk.fresh S).Ok 0 := Dsk.Ok.fresh hS1
    refine wl_p I_ok rfl (wl_nil (f_then (c_seq (c_cutK (α := Bool) [1, 2, 10, 12] rfl (fun z => [(45, .bool z)]) (fun z u => (z = false ∧ Dk2 w u d1 d2 F1 F2 (Dsk.fresh S) (Dsk.fresh S)) ∧ Ext No w u) ?_ ?_))))
    · refine c_region ?_
      refine wl_p I_ok rfl (wl_caseD 42 rfl (fun hg => ?_) (fun hg => ?_))
      · exact absurd rfl hg
      · refine wl_pk I_ok 3 rfl ?_
        refine wl_nil ?_
        exact f_cut (_) rfl ⟨⟨by simp, hdk⟩, hX⟩
    rintro z w6 ⟨⟨rfl, hdk⟩, hX⟩
    refine c_condF rfl (c_skip (f_then (c_seq (c_seq (c_region (wl_p I_ok rfl ?_))))))
    rw [show IntKind.i64.wrap ((IntKind.u64.wrap fault).tmod 90) = ((u64N fault % 90 : Nat) : Int) from u64_mod fault 90 (by decide) (by decide)]
    obtain ⟨k, hk⟩ : ∃ k, k = u64N fault % 90 := ⟨_, rfl⟩
    have hfz : ((Dsk.fresh S).fail (k : Int)).2 = 0 := by unfold Dsk.fail; rw [if_neg (by simp [Dsk.fresh])]
    rw [← hk]
    obtain ⟨D0, hD0⟩ : ∃ D0, D0 = ((Dsk.fresh S).fail (k : Int)).1 := ⟨_, rfl⟩
    have hokf := (Dsk.Ok.fail hok0 (k : Int) (by omega)).1
    have hsf := (Dsk.Ok.fail hok0 (k : Int) (by omega)).2
    rw [← hD0] at hokf hsf
    refine wl_p I_ok rfl (wl_nil (f_then (c_cutK (α := Bool) [1, 10, 12] rfl (fun z => [(59, .bool z)]) (fun z u => (z = false ∧ Dk2 w u d1 d2 F1 F2 D0 D0) ∧ Ext No w u) ?_ ?_)))
    · refine c_region ?_
      refine wl_p I_ok rfl (wl (st_call Tryd.call37 rfl rfl rfl rfl rfl rfl (dk_fail w6 hdk.a1 (k : Int)) fun v7 w7 hr7 => ?_))
      obtain ⟨rfl, hA11, hE7⟩ := hr7
      rw [hfz]
      rw [← hD0] at hA11
      obtain ⟨hdk, hX⟩ := hdk.first hr0 hX hA11 (fun y => .inl) hE7
      refine wl_p I_ok rfl (wl_caseD 54 rfl (fun hg => ?_) (fun hg => ?_))
      · exact absurd rfl hg
      · refine wl_pk I_ok 2 rfl ?_
        refine wl (st_call Tryd.call37 rfl rfl rfl rfl rfl rfl (dk_fail w7 hdk.a2 (k : Int)) fun v8 w8 hr8 => ?_)
        obtain ⟨rfl, hA12, hE8⟩ := hr8
        rw [hfz]
        rw [← hD0] at hA12
        obtain ⟨hdk, hX⟩ := hdk.second hr0 hX hA12 (fun y => .inl) hE8
        refine wl_pk I_ok 2 rfl (wl_nil ?_)
        exact f_cut (_) rfl ⟨⟨by simp, hdk⟩, hX⟩
    rintro z w9 ⟨⟨rfl, hdk⟩, hX⟩
    refine c_condF rfl (c_skip (f_then (c_seq (c_region (wl_p I_ok rfl ?_)))))
    have hX13 := hX.size
    have hlt13 := hdk.a2.lt
    refine wl (st_call Tryd.call26 rfl rfl rfl rfl rfl rfl (format_calls w9 hdk.a1 hokf (by decide) area har hdk.rt (fun e => by have := (hdk.lo 0 (.inl e)).1; omega)) fun v10 w10 hr10 => ?_)
    obtain ⟨xo, G1, rfl, hA13, hE10, hG1, hxn, hlo⟩ := hr10
    obtain ⟨hdk, hX⟩ := hdk.first hr0 hX hA13 hG1 hE10
    obtain ⟨Y, hY⟩ : ∃ Y, Y = formatW D0 area := ⟨_, rfl⟩
    have hYo := (formatW_ok hokf area).1
    have hYs := (formatW_ok hokf area).2
    rw [← hY] at hdk hxn hlo hYo hYs ⊢
    have hx13l := fun y (hy : G1 y) => hdk.lo y (.inl hy)
    refine wl_p I_ok rfl (wl_nil (f_then (c_seq (c_region (wl_p I_ok rfl ?_)))))
    have hX14 := hX.size
    refine wl (st_call Tryd.call38 rfl rfl rfl rfl rfl rfl (bookFormat_calls w10 hdk.a2 hokf (by decide) area har) fun v11 w11 hr11 => ?_)
    obtain ⟨xbo, G2, rfl, hA14, hE11, hG2, hlob⟩ := hr11
    rw [← hY] at hA14 hlob ⊢
    have hE14 := hE11
    have hdk0 := hdk
    obtain ⟨hdk, hX⟩ := hdk.second hr0 hX hA14 hG2 hE11
    have hpr : Y.2 = 0 → ∃ x xb H1 H2, xo = some ⟨x, 0, none⟩ ∧ xbo = some ⟨xb, 0, none⟩ ∧ PairAt w w11 d1 d2 x xb (G1, H1, G2, H2) (Wl.fresh Y.1 area.toNat) (Wl.fresh Y.1 area.toNat) := fun h0 => by
      obtain ⟨x, H1, e1, hlog, hH1⟩ := hlo h0
      obtain ⟨xb, H2, e2, hbk, hH2⟩ := hlob h0
      have hll := hlog.lt
      have hbl := hbk.lt
      have hs14 := hE14.size
      have h12 : ∀ y, H1 y → ¬ F2 y := fun y hy e => by have := (hH1 y hy).1; have := hlt13 y e; omega
      refine ⟨x, xb, H1, H2, e1, e2, hdk.a1, hlog.ext hE14 h12, hdk.a2, hbk, fun y hy => ?_, fun y hy => ⟨fun e => (hH1 y e).2 hy, hdk.ne y hy, fun e => ?_⟩, fun y hy => ⟨fun e => ?_, fun e => ?_⟩, fun y hy e => (hH2 y e).2 hy, hdk.rt⟩
      · rcases hy with hy | hy | hy | hy
        · exact hdk.lo y (.inl hy)
        · exact ⟨by have := (hH1 y hy).1; omega, by have := hll y hy; omega⟩
        · exact hdk.lo y (.inr hy)
        · exact ⟨by have := (hH2 y hy).1; omega, hbl y hy⟩
      · have := (hdk0.lo y (.inl hy)).2; have := (hH2 y e).1; omega
      · exact (hG2 y e).elim (h12 y hy) fun g => by have := hll y hy; omega
      · have := hll y hy; have := (hH2 y e).1; omega
    have hT := Ext.refl No w11
    refine wl_p I_ok rfl (wl_nil (f_then (c_seq (c_cutK (α := Bool) [10, 12, 13, 15, 16] rfl (fun z => [(80, .bool z)]) (fun z u => (z = false) ∧ Ext No w11 u ∧ Ext No w u) ?_ ?_))))
    · refine c_region ?_
      refine wl_p I_ok rfl (wl_caseD 75 rfl (fun hg => ?_) (fun hg => ?_))
      · exact absurd rfl hg
      · refine wl_pk I_ok 2 rfl ?_
        refine wl (st_call Tryd.call39 rfl rfl rfl rfl rfl rfl (twins_calls w11 hdk.a1 hdk.a2 hYo (by decide)) fun v12 w12 hr12 => ?_)
        obtain ⟨rfl, hE12⟩ := hr12
        have hdk := hdk.extNo hE12
        have hT := hT.thenNo hE12
        have hX := hX.thenNo hE12
        refine wl_pk I_ok 2 rfl (wl_nil ?_)
        exact f_cut (_) rfl ⟨by simp, hT, hX⟩
    rintro z w13 ⟨rfl, hT, hX⟩
    have hdk := hdk.extNo hT
    have hrt := hdk.rt
    refine c_condF rfl (c_skip (f_then (c_seq (c_seq (c_region (wl_p I_ok rfl (wl_nil (f_then (c_if rfl (fun hc => ?_) (fun hc => ?_))))))))))
    · obtain rfl := hxn hc
      refine c_seq (c_region (wl_p I_ok rfl (wl_nil (f_then (c_ret (f_thenR (f_ret1 rfl rfl ?_)))))))
      exact ⟨rfl, hX⟩
    · have h0 : Y.2 = 0 := Decidable.not_not.1 hc
      obtain ⟨x, xb, H1, H2, rfl, rfl, hp⟩ := hpr h0
      have hp := hp.extNo hT
      have hfit : ∃ a : Nat, area = (a : Int) := by
        rcases Int.le_total 0 area with h | h
        · exact ⟨area.toNat, by omega⟩
        · by_cases hz : area = 0
          · exact ⟨0, by omega⟩
          · rw [hY, formatW_no (fun g => by omega)] at h0
            cases h0
      obtain ⟨a, rfl⟩ := hfit
      have hWok := (format_fine (D := D0) (a := a) (by rw [← hY]; exact h0) hokf).1
      rw [← hY] at hWok
      rw [Int.toNat_natCast] at hp
      refine c_skip (f_then (c_seq (c_region (wl_p I_ok rfl (wl (st_call Tryd.call37 rfl rfl rfl rfl rfl rfl (dk_fail w13 hp.a1 (-1)) fun v14 w14 hr14 => ?_))))))
      obtain ⟨rfl, hA19, hE14⟩ := hr14
      obtain ⟨hp, hX, _, _⟩ := hp.disk1 hr0 hX hA19 (fun y => .inl) hE14
      refine wl_nil (f_then (c_seq (c_region (wl_p I_ok rfl (wl (st_call Tryd.call37 rfl rfl rfl rfl rfl rfl (dk_fail w14 hp.a2 (-1)) fun v15 w15 hr15 => ?_))))))
      obtain ⟨rfl, hA20, hE15⟩ := hr15
      obtain ⟨hp, hX, _, _⟩ := hp.disk2 hr0 hX hA20 (fun y => .inl) hE15
      obtain ⟨D2, hD2⟩ : ∃ D2, D2 = (Y.1.fail (-1)).1 := ⟨_, rfl⟩
      have hok2 := Dsk.Ok.fail hYo (-1) (by decide)
      have hWok2 : Wl.Ok { Wl.fresh Y.1 a with D := D2 } := hWok.on (by rw [hD2, hok2.2]; rfl)
      obtain ⟨W, hW⟩ : ∃ W : Wl, W = { Wl.fresh Y.1 a with D := D2 } := ⟨_, rfl⟩
      have hDW : W.D.Ok (0 + 6000) := by rw [hW]; show D2.Ok _; rw [hD2]; exact hok2.1
      have hp : PairAt w w15 d1 d2 x xb (G1, H1, G2, H2) W W := by
        rw [hW, hD2]; exact hp
      rw [← hW] at hWok2
      obtain ⟨z, hz⟩ : ∃ z : PZ, z = (G1, H1, G2, H2) := ⟨_, rfl⟩
      rw [← hz] at hp
      refine wl_nil (f_then (c_seq (c_region ?_)))
      have hp21 := hp
      refine wl (st_mk I_ok rfl 40001 40001 1 rfl rfl rfl (by decide) rfl rfl (by omega) (by omega) (by dsimp only [maxLen]; omega) fun b89 w16 hn89 hb89 hE16 hs16 => ?_)
      have fr89 := Nat.le_trans hX.size hn89
      have hp := hp.extNo hE16
      have hX := hX.thenNo hE16
      obtain ⟨L, hLl, hbL⟩ : ∃ L : Bytes, L.length = 40001 ∧ Blk w16 b89 5 (bytesU L) := ⟨List.replicate 40001 0, List.length_replicate, by rw [← rep_byte]; exact hb89⟩
      have hb89 := hbL
      have hl89 := hb89.lt
      have n89 : ¬ z.any b89 := fun e => by have := (hp21.lo _ e).2; omega
      have hL1 : (L.drop 1).length = 40000 := by rw [List.length_drop, hLl]
      have hsL : SlB w16 (some ⟨b89, 0, none⟩) L := ⟨by rw [bytesU_len, Nat.mul_one], .inr ⟨b89, 0, rfl, hb89.seg⟩⟩
      have hs1 : SlB w16 (some ⟨b89, 1, none⟩) (L.drop 1) := by
        have e := hsL.slice 1 L.length L.length (by omega) (Nat.le_refl _) (Nat.le_refl _)
        rw [slBase_eq (by omega), Nat.one_mul, Nat.mul_one, bytesU_drop, bytesU_take, List.take_of_length_le (by rw [List.length_drop]; exact Nat.le_refl _)] at e
        show Sl _ _ (L.drop 1).length 1 _
        rw [List.length_drop]
        exact e
      refine wl_p I_ok rfl (wl_nil (f_then (c_seq ?_)))
      refine c_cutK (α := Bool × PZ × Wl) [10, 12, 15, 16] rfl (fun z => [(110, .bool z.1)]) (fun z u => (z.1 = false ∧ PairAt w u d1 d2 x xb z.2.1 z.2.2 z.2.2 ∧ Wl.Ok z.2.2 ∧ z.2.2.D.Ok 9000) ∧ Ext No w u) ?_ ?_
      · refine c_draw rfl 21 [(0, true), (1, true), (2, false), (3, true), (4, true), (5, true), (6, true), (7, false), (8, true), (9, true), (10, true), (11, true), (12, true), (13, true), (15, true), (16, true), (17, true), (14, false), (18, false), (19, true), (20, true)] [] (fun y => z.any y) (by kernel_rfl) fun w17 hE17 hs17 => ?_
        have hd89 := hb89
        have hrtd := hrt
        have hA1d := hA1
        have hA2d := hA2
        have hdkd := hdk
        have hpd := hp
        have hsLd := hsL
        have hs1d := hs1
        have hXd := hX
        have hb89 := hb89.extNo hE17
        have hp := hp.extNo hE17
        have hsL := hsL.extNo hE17
        have hs1 := hs1.extNo hE17
        have hX := hX.thenNo hE17
        have hC : Ext (fun y => z.any y) _ w17 := hE17.no
        obtain ⟨N, hN⟩ : ∃ N, N = w16.heap.size := ⟨_, rfl⟩
        have hg0 : ∀ y, z.any y → z.any y ∨ N ≤ y := fun y => .inl
        refine wd_k I_ok 2 rfl ?_
        rw [show Value.slice (some ⟨b89, 0, none⟩) 40001 40001 = .slice (some ⟨b89, 0, none⟩) L.length 40001 from by rw [hLl]]
        have hCs := hC.size
        have hl89 := hb89.lt
        refine wd_l rfl (st_call Tryd.call25 rfl rfl rfl rfl rfl rfl (append_calls w17 (c := 40001) hp.l1 hp.a1 hDW (by omega) hWok2 hsL (by omega) hp.rt (fun e => by have := (hp.lo 0 (.inl e)).1; omega) (fun y hy e => (hp.n1 y e).1 hy) (fun y off e => by cases e; exact ⟨fun e => n89 (.inl e), fun e => n89 (.inr (.inl e))⟩)) fun v18 w18 hr18 => ⟨(by obtain ⟨rfl, F3, H3, q1, q2, q3, q4, q5, hE18⟩ := hr18; exact hC.trans hE18 fun y hy e => (hg0 y (e.elim .inl fun e => .inr (.inl e))).resolve_right (by omega)), ?_⟩)
        obtain ⟨rfl, F3, H3, q1, q2, q3, q4, q5, hE18⟩ := hr18
        have hC := hC.trans hE18 fun y hy e => (hg0 y (e.elim .inl fun e => .inr (.inl e))).resolve_right (by omega)
        obtain ⟨hp, hX, hEa, hg1⟩ := hp.first hr0 hX q1 q2 q3 q4 q5 hE18
        rw [append_long (by omega)] at hp ⊢
        dsimp only at hp ⊢
        have hsL := hsL.ext hEa fun y off e => by cases e; exact n89
        have hs1 := hs1.ext hEa fun y off e => by cases e; exact n89
        have hb89 := hb89.ext hEa n89
        obtain ⟨z1, hz1⟩ : ∃ z1 : PZ, z1 = (F3, H3, z.2.2.1, z.2.2.2) := ⟨_, rfl⟩
        rw [← hz1] at hp hg1
        have n89 : ¬ z1.any b89 := fun e => (hg1 _ e).elim n89 fun g => by omega
        have hg0 : ∀ y, z1.any y → z.any y ∨ N ≤ y := fun y hy => (hg1 y hy).elim (hg0 y) fun g => .inr (by omega)
        refine wd_k I_ok 2 rfl (wd_caseD 94 rfl (fun hg => ?_) (fun hg => ?_))
        · exact absurd rfl hg
        · refine wd_k I_ok 2 rfl ?_
          have hCs := hC.size
          have hl89 := hb89.lt
          refine wd_l rfl (st_call Tryd.call28 rfl rfl rfl rfl rfl rfl (checkpoint_calls w18 (c := 40001) hp.l1 hp.a1 hDW (by omega) hWok2 hsL (by omega) hp.rt (fun e => by have := (hp.lo 0 (.inl e)).1; omega) (fun y hy e => (hp.n1 y e).1 hy) (fun y off e => by cases e; exact ⟨fun e => n89 (.inl e), fun e => n89 (.inr (.inl e)), hl89⟩)) fun v19 w19 hr19 => ⟨(by obtain ⟨rfl, F3, H3, q1, q2, q3, q4, q5, hE19⟩ := hr19; exact hC.trans hE19 fun y hy e => (hg0 y (e.elim .inl fun e => .inr (.inl e))).resolve_right (by omega)), ?_⟩)
          obtain ⟨rfl, F3, H3, q1, q2, q3, q4, q5, hE19⟩ := hr19
          have hC := hC.trans hE19 fun y hy e => (hg0 y (e.elim .inl fun e => .inr (.inl e))).resolve_right (by omega)
          obtain ⟨hp, hX, hEa, hg1⟩ := hp.first hr0 hX q1 q2 q3 q4 q5 hE19
          rw [ckp_long (by omega)] at hp ⊢
          dsimp only at hp ⊢
          have hsL := hsL.ext hEa fun y off e => by cases e; exact n89
          have hs1 := hs1.ext hEa fun y off e => by cases e; exact n89
          have hb89 := hb89.ext hEa n89
          obtain ⟨z2, hz2⟩ : ∃ z2 : PZ, z2 = (F3, H3, z1.2.2.1, z1.2.2.2) := ⟨_, rfl⟩
          rw [← hz2] at hp hg1
          have n89 : ¬ z2.any b89 := fun e => (hg1 _ e).elim n89 fun g => by omega
          have hg0 : ∀ y, z2.any y → z.any y ∨ N ≤ y := fun y hy => (hg1 y hy).elim (hg0 y) fun g => .inr (by omega)
          refine wd_k I_ok 3 rfl (wd_caseD 100 rfl (fun hg => ?_) (fun hg => ?_))
          · exact absurd rfl hg
          · refine wd_k I_ok 2 rfl ?_
            refine wd_sl I_ok rfl rfl 1 L.length 40001 1 rfl (.inr ⟨rfl, rfl⟩) (.inr ⟨rfl, rfl⟩) (.inl rfl) (by omega) (by omega) (Nat.le_refl _) ?_
            rw [show Value.slice (slBase (some ⟨b89, 0, none⟩) 1 40001 1) (L.length - 1) (40001 - 1) = .slice (some ⟨b89, 1, none⟩) (L.drop 1).length 40000 from by rw [slBase_eq (by decide), List.length_drop]]
            refine wd_k I_ok 2 rfl (wd_sl I_ok rfl rfl 1 L.length 40001 1 rfl (.inr ⟨rfl, rfl⟩) (.inr ⟨rfl, rfl⟩) (.inl rfl) (by omega) (by omega) (Nat.le_refl _) ?_)
            rw [show Value.slice (slBase (some ⟨b89, 0, none⟩) 1 40001 1) (L.length - 1) (40001 - 1) = .slice (some ⟨b89, 1, none⟩) (L.drop 1).length 40000 from by rw [slBase_eq (by decide), List.length_drop]]
            have hCs := hC.size
            have hl89 := hb89.lt
            refine wd_l rfl (st_call Tryd.call25 rfl rfl rfl rfl rfl rfl (append_calls w19 (c := 40000) hp.l1 hp.a1 hDW (by omega) hWok2 hs1 (by omega) hp.rt (fun e => by have := (hp.lo 0 (.inl e)).1; omega) (fun y hy e => (hp.n1 y e).1 hy) (fun y off e => by cases e; exact ⟨fun e => n89 (.inl e), fun e => n89 (.inr (.inl e))⟩)) fun v20 w20 hr20 => ⟨(by obtain ⟨rfl, F3, H3, q1, q2, q3, q4, q5, hE20⟩ := hr20; exact hC.trans hE20 fun y hy e => (hg0 y (e.elim .inl fun e => .inr (.inl e))).resolve_right (by omega)), ?_⟩)
            obtain ⟨rfl, F3, H3, q1, q2, q3, q4, q5, hE20⟩ := hr20
            have hC := hC.trans hE20 fun y hy e => (hg0 y (e.elim .inl fun e => .inr (.inl e))).resolve_right (by omega)
            obtain ⟨hp, hX, hEa, hg1⟩ := hp.first hr0 hX q1 q2 q3 q4 q5 hE20
            have hfin := append_fine hDW hWok2 (L.drop 1)
            have hsL := hsL.ext hEa fun y off e => by cases e; exact n89
            have hs1 := hs1.ext hEa fun y off e => by cases e; exact n89
            have hb89 := hb89.ext hEa n89
            obtain ⟨z3, hz3⟩ : ∃ z3 : PZ, z3 = (F3, H3, z2.2.2.1, z2.2.2.2) := ⟨_, rfl⟩
            rw [← hz3] at hp hg1
            have n89 : ¬ z3.any b89 := fun e => (hg1 _ e).elim n89 fun g => by omega
            have hg0 : ∀ y, z3.any y → z.any y ∨ N ≤ y := fun y hy => (hg1 y hy).elim (hg0 y) fun g => .inr (by omega)
            have hCs := hC.size
            have hl89 := hb89.lt
            refine wd_l rfl (st_call Tryd.call40 rfl rfl rfl rfl rfl rfl (bookAppend_calls w20 (c := 40000) (K := fun y => y = b89) hp.b2 hp.a2 hDW (by omega) hWok2 hs1 ⟨_, _, rfl, by omega, hs1, fun y off e => by cases e; exact ⟨rfl, _, hb89⟩⟩ (fun y e => by have e : y = b89 := e; rw [e]; exact ⟨fun e => n89 (.inr (.inr (.inl e))), hb89.lt⟩) (fun y hy e => hp.n3 y e hy)) fun v21 w21 hr21 => ⟨(by obtain ⟨rfl, F4, H4, q1, q2, q3, q4, q5, hE21⟩ := hr21; exact hC.trans hE21 fun y hy e => (hg0 y (.inr (.inr e))).resolve_right (by omega)), ?_⟩)
            obtain ⟨rfl, F4, H4, q1, q2, q3, q4, q5, hE21⟩ := hr21
            have hC := hC.trans hE21 fun y hy e => (hg0 y (.inr (.inr e))).resolve_right (by omega)
            obtain ⟨hp, hX, _, _⟩ := hp.second hr0 hX (fun y e => by have e : y = b89 := e; rw [e]; exact ⟨⟨by omega, hl89⟩, n89⟩) q1 q2 q3 q4 q5 hE21
            obtain ⟨z4, hz4⟩ : ∃ z4 : PZ, z4 = (z3.1, z3.2.1, F4, H4) := ⟨_, rfl⟩
            rw [← hz4] at hp
            refine wd_k I_ok 2 rfl (wd_sw (wb_nil ?_))
            exact f_cut ((decide ((W.append (L.drop 1)).2 ≠ (W.append (L.drop 1)).2), z4, (W.append (L.drop 1)).1)) rfl ⟨⟨by simp, hp, hfin.2, hfin.1.mono (by decide)⟩, hX⟩
      rintro ⟨bz, z9, W9⟩ w22 ⟨⟨hbz, hp, hWok9, hDW9⟩, hX⟩
      try dsimp only
      dsimp only at hbz hp hWok9 hDW9
      subst hbz
      refine c_condF rfl (c_skip (f_then (c_cutK (α := Bool) [] rfl (fun z => [(8, .bool z)]) (fun z u => (z = true) ∧ Ext No w u) ?_ ?_)))
      · refine c_region ?_
        refine wl_p I_ok rfl (wl (st_call Tryd.call41 rfl rfl rfl rfl rfl rfl (told_calls w22 hp.l1 hp.b2 hWok9) fun v23 w23 hr23 => ?_))
        obtain ⟨rfl, hE23⟩ := hr23
        have hp := hp.extNo hE23
        have hX := hX.thenNo hE23
        refine wl_p I_ok rfl (wl_case 114 rfl (fun hg => ?_) (fun hg => ?_))
        · refine wl_pk I_ok 2 rfl ?_
          refine wl (st_call Tryd.call39 rfl rfl rfl rfl rfl rfl (twins_calls w23 hp.a1 hp.a2 hDW9 (by decide)) fun v24 w24 hr24 => ?_)
          obtain ⟨rfl, hE24⟩ := hr24
          have hp := hp.extNo hE24
          have hX := hX.thenNo hE24
          refine wl_p I_ok rfl (wl_nil ?_)
          exact f_cut (_) rfl ⟨rfl, hX⟩
        · cases hg
      rintro z w25 ⟨rfl, hX⟩
      refine c_ret (f_ret1 rfl rfl ?_)
      exact ⟨rfl, hX⟩
end Go.Proofs.YtlfdlodcjiaiiaaDoor
namespace Go.Proofs.YtlfdlodcjiaiiaaDoor
open Go.Vc Go.ChangeShapes Go.WideShapes Go.ChangeAt Go.RowKit Go

set_option maxRecDepth 100000 in
theorem makes_lifted (os : Os) (started : os.Started) (H : Type) (enc : TypeId × Value → H) :
    ReturnsInHanded {} Tryd.checked os 7 .any (fun w args => (Rows.walMakesSpec.pre enc Tryd.prog Tryd.f7 [] false w args ∧ laidMetH Tryd.prog laidR w) ∧ sizedMet enc Tryd.prog Tryd.f7 (OpenSpec.ofChange Rows.walMakesSpec) false w args)
      (Rows.walMakesSpec.post enc Tryd.prog Tryd.f7 false true false false) := by
  refine returnsInHanded_of_change_and (C := Tryd.checked) (X := fun w _ => laidMetH Tryd.prog laidR w) (fun _ _ _ hh h => h.of_heap hh) own started (by kernel_rfl) Tryd.func7
    (ChangeSpec.witness_shaped (enc := enc) (C := Tryd.checked) (os := os) (X := fun w _ => laidMetH Tryd.prog laidR w) false (World.doorLaid Tryd.prog 400 os) #[.int .i64 0, .int .i64 0, .int .i64 0, .int .i64 0] 40 rfl (World.shaped_of_RefB (by kernel_rfl) (by kernel_rfl)) (by kernel_rfl) (by kernel_rfl) (by kernel_rfl) (door_met os _)) ?_
  intro W base args ds gs before hval0 hW _ _ hL _
  have hval : ∀ (j : Nat) t v, Tryd.f7.params[j]? = some t → args[j]? = some v → Value.okWide Tryd.prog W .any base t v := hval0
  have hW' := hW
  obtain ⟨p, q, hA0, hV, rfl, hfz, hnd⟩ := hW
  have hA : DataW.TrodAll enc Tryd.prog W 0 (fun _ => true) true Tryd.f7.params.toList args.toList ds p := hA0
  rw [Tryd.params7] at hA hval
  obtain ⟨v0, vs0, d0, ds0, p0, q0, hargs, rfl, rfl, h0, r0⟩ := trodAll_cons hA
  obtain ⟨v1, vs1, d1, ds1, p1, q1, rfl, rfl, rfl, h1, r1⟩ := trodAll_cons r0
  obtain ⟨v2, vs2, d2, ds2, p2, q2, rfl, rfl, rfl, h2, r2⟩ := trodAll_cons r1
  obtain ⟨v3, vs3, d3, ds3, p3, q3, rfl, rfl, rfl, h3, r3⟩ := trodAll_cons r2
  obtain ⟨rfl, rfl, rfl⟩ := trodAll_nil r3
  obtain rfl : args = #[v0, v1, v2, v3] := by cases args; simp_all
  obtain ⟨rfl, rfl⟩ := trodVars_none hV
  have w0 := hval 0 3 v0 rfl rfl
  have w1 := hval 1 3 v1 rfl rfl
  have w2 := hval 2 3 v2 rfl rfl
  have w3 := hval 3 3 v3 rfl rfl
  obtain ⟨k0, h0⟩ := h0
  obtain ⟨k1, h1⟩ := h1
  obtain ⟨k2, h2⟩ := h2
  obtain ⟨k3, h3⟩ := h3
  obtain ⟨n0, rfl⟩ := okWide_int Tryd.underlying3 w0
  obtain ⟨n1, rfl⟩ := okWide_int Tryd.underlying3 w1
  obtain ⟨n9, e1, _, hw1⟩ := DataW.trod_int Tryd.underlying3 h1
  simp only [Value.cells, List.cons.injEq, and_true, Value.int.injEq, true_and] at e1
  subst e1
  have hw1 : -9223372036854775808 ≤ n1 ∧ n1 ≤ 9223372036854775807 := by simpa [Lit.wf, IntKind.min, IntKind.max, IntKind.signed, IntKind.bits] using hw1
  obtain ⟨n2, rfl⟩ := okWide_int Tryd.underlying3 w2
  obtain ⟨n3, rfl⟩ := okWide_int Tryd.underlying3 w3
  clear hA0 hval0
  simp only [List.append_nil] at hW'
  refine Calls.mono (walmakes_calls W (roots_of hL) n0 n1 n2 n3 ⟨hw1.1, by omega⟩) fun e W' he => ?_
  cases e with
  | returned v =>
    obtain ⟨rfl, hE⟩ : v = .bool true ∧ Ext No W W' := he
    refine ⟨_, rfl, post_true (by kernel_rfl) (by kernel_rfl) (by kernel_rfl) hW' rfl (by kernel_rfl) (by kernel_rfl) Tryd.underlying4 rfl rfl rfl hE⟩
  | panicked _ => exact he.elim
  | outgrown => exact he.elim
theorem makes_row : Rows.WalMakesSaid :=
  OpenClaim.holds_of_wide 7 Tryd.f7 rfl rfl rfl rfl rfl rfl rfl ⟨rfl, rfl, rfl, rfl, rfl⟩ rfl rfl rfl rfl rfl (by kernel_rfl) Tryd.func7 (by kernel_rfl)
    (of_decide_eq_true (by kernel_rfl)) (by unfold Func.isWrapper; first | (rw [if_pos (by decide +kernel)]; kernel_rfl) | (rw [if_neg (by decide +kernel)]; exact ⟨rfl, rfl⟩))
    (fun os started H enc _ => makes_lifted os started H enc)
theorem makes_holds : Rows.WalMakesCardSaid :=
  Claim7.holds_tied_plain_at .later [] [.data] true Rows.walMakesCard.stood.harness false
    makes_row (fun _ h => by cases h) (by kernel_rfl) (fun _ h => by cases h) walMakes_row_tie rfl ⟨rfl, rfl⟩ (by kernel_rfl) rfl
    (fun f fn hf hfn => by
      obtain rfl : f = 7 := Option.some.inj ((show Tryd.prog.funcNamed "confluence/confluencelaw04.WalMakes" = some 7 by kernel_rfl).symm.trans hf) |>.symm
      obtain rfl : fn = Tryd.f7 := (Option.some.inj (Tryd.func7.symm.trans hfn)).symm
      exact ⟨by kernel_rfl, fun j t ht => by
        rw [Tryd.params7] at ht
        have hm : t ∈ [3, 3, 3, 3] := by have := Array.mem_of_getElem? ht; simpa using this
        have hall : ([3, 3, 3, 3].all fun u => !Tryd.prog.wantsStandIn u) = true := by kernel_rfl
        exact (show Tryd.prog.wantsStandIn t = false by simpa using List.all_eq_true.1 hall t hm)⟩)
    (by kernel_rfl)

end Go.Proofs.YtlfdlodcjiaiiaaDoor
