/-
  deeds and lives of logs
-/
import Derived.Test.YtlfdlodcjiaiiaaDoorSamD
namespace Go.Proofs.YtlfdlodcjiaiiaaDoor
open Go.Vc
structure DeedD where
  kind : Int
  num : Int
  byte : UInt8
  p : Option Addr
  keep : List Bool
  c : Nat
def DeedD.cells (o : DeedD) : List Value := [.int .i64 o.kind, .int .i64 o.num, byteV o.byte, .slice o.p o.keep.length o.c]
abbrev DeedD.v (o : DeedD) : Value := .agg o.cells.toArray
def u64N (i : Int) : Nat := (IntKind.u64.wrap i).toNat
def whichD (o : DeedD) : Nat := u64N o.kind % 7 - 2
def lenD (o : DeedD) : Nat := u64N o.num % 400
def bytesD (o : DeedD) : Bytes := (List.range (lenD o)).map fun i => o.byte ^^^ UInt8.ofNat (i + i / 7)
theorem bytesD_len (o : DeedD) : (bytesD o).length = lenD o := by simp [bytesD]
theorem lenD_lt (o : DeedD) : lenD o < 400 := Nat.mod_lt _ (by decide)
theorem u64N_eq (i : Int) : IntKind.u64.wrap i = (u64N i : Int) := by
  have h : 0 ≤ IntKind.u64.wrap i := by rw [IntKind.wrap_u64]; omega
  unfold u64N
  omega
theorem u64_mod (i : Int) (k : Nat) (hk : 0 < k) (hk2 : k < 1000000) : IntKind.i64.wrap ((IntKind.u64.wrap i).tmod (k : Int)) = ((u64N i % k : Nat) : Int) := by
  rw [u64N_eq, Int.tmod_eq_emod_of_nonneg (Int.natCast_nonneg _), ← Int.natCast_emod]
  have := Nat.mod_lt (u64N i) hk
  exact IntWalk.i64_in _ (by omega)
def byteD (o : DeedD) (i : Nat) : UInt8 := o.byte ^^^ UInt8.ofNat (i + i / 7)
theorem byte_at (o : DeedD) (i : Nat) : bitI .xor .u8 (o.byte.toNat : Int) (IntKind.u8.wrap ((i + i / 7 : Nat) : Int)) = ((byteD o i).toNat : Int) := by
  have e1 : IntKind.u8.wrap ((i + i / 7 : Nat) : Int) = ((UInt8.ofNat (i + i / 7)).toNat : Int) := by
    rw [IntKind.wrap_u8, UInt8.toNat_ofNat']
    omega
  rw [e1]
  unfold byteD
  generalize UInt8.ofNat (i + i / 7) = y
  generalize o.byte = x
  show IntKind.u8.wrap ((BitVec.ofInt 8 (x.toNat : Int) ^^^ BitVec.ofInt 8 (y.toNat : Int)).toNat : Int) = _
  have e2 : ∀ z : UInt8, BitVec.ofInt 8 (z.toNat : Int) = z.toBitVec := fun z => by
    apply BitVec.eq_of_toNat_eq
    rw [BitVec.toNat_ofInt]
    have := z.toNat_lt
    show _ = z.toNat
    omega
  rw [e2, e2, ← UInt8.toBitVec_xor]
  have := (x ^^^ y).toNat_lt
  rw [IntKind.wrap_u8]
  show (((x ^^^ y).toNat : Int)) % 256 = _
  omega
def fillD (o : DeedD) (i : Nat) : Bytes := (List.range (lenD o)).map fun j => if j < i then byteD o j else 0
theorem fillD_len (o : DeedD) (i : Nat) : (fillD o i).length = lenD o := by simp [fillD]
theorem fillD_zero (o : DeedD) : fillD o 0 = List.replicate (lenD o) 0 := by
  apply List.ext_getElem
  · simp [fillD]
  · intro i h1 h2; simp [fillD]
theorem fillD_all (o : DeedD) : fillD o (lenD o) = bytesD o := by
  apply List.ext_getElem
  · simp [fillD, bytesD]
  · intro i h1 h2
    rw [fillD_len] at h1
    simp [fillD, bytesD, h1, byteD]
theorem fillD_set (o : DeedD) {i : Nat} (_hi : i < lenD o) : (bytesU (fillD o i)).set i (byteV (byteD o i)) = bytesU (fillD o (i + 1)) := by
  rw [bytesU, ← List.map_set, bytesU]
  congr 1
  apply List.ext_getElem
  · simp [fillD]
  · intro j h1 h2
    rw [List.getElem_set]
    simp only [fillD, List.getElem_map, List.getElem_range]
    by_cases h : i = j
    · subst h; simp
    · rw [if_neg h]
      by_cases h3 : j < i
      · rw [if_pos h3, if_pos (by omega)]
      · rw [if_neg h3, if_neg (by omega)]
theorem which_calls (w : World) (o : DeedD) :
    CallsV Tryd.prog 12 [o.v] w fun v w' => v = .int .i64 (whichD o : Int) ∧ Ext No w w' := by
  refine calls_enter Tryd.func12 rfl rfl rfl rfl ?_
  have hX := Ext.refl No w
  refine c_seq (c_region (wl (st_al I_ok rfl fun b1 w1 hn1 hb1 hE1 => ?_)))
  have fr1 := Nat.le_trans hX.size hn1
  have hX := hX.thenNo hE1
  have hb1 : Blk w1 b1 36 (o.cells) := hb1
  refine wl_p I_ok rfl (wl_nil (f_then (c_seq (c_region (wl_p I_ok rfl (wl (st_ld I_ok rfl (hb1.cell rfl) (wl_p I_ok rfl ?_))))))))
  have h7 := Nat.mod_lt (u64N o.kind) (by decide : 0 < 7)
  rw [show IntKind.i64.wrap ((IntKind.u64.wrap o.kind).tmod 7) = ((u64N o.kind % 7 : Nat) : Int) from u64_mod o.kind 7 (by decide) (by decide)]
  refine wl_p I_ok rfl ?_
  rw [IntWalk.i64_in _ (by omega)]
  refine wl_nil (f_then (c_ret (f_ret1 rfl rfl (⟨?_, hX⟩))))
  unfold whichD
  split
  · rw [show u64N o.kind % 7 - 2 = 0 from by omega]; rfl
  · rw [show ((u64N o.kind % 7 - 2 : Nat) : Int) = ((u64N o.kind % 7 : Nat) : Int) - 2 from by omega]

theorem dbytes_calls (w : World) (o : DeedD) :
    CallsV Tryd.prog 13 [o.v] w fun v w' => ∃ q c, v = .slice q (bytesD o).length c ∧ Own w' q (bytesD o).length c 5 1 (bytesU (bytesD o)) ∧ (∀ y, OwnB q y → w.heap.size ≤ y) ∧ Ext No w w' := by
  refine calls_enter Tryd.func13 rfl rfl rfl rfl ?_
  have hX := Ext.refl No w
  refine c_seq (c_region (wl (st_al I_ok rfl fun b1 w1 hn1 hb1 hE1 => ?_)))
  have fr1 := Nat.le_trans hX.size hn1
  have hX := hX.thenNo hE1
  have hb1 : Blk w1 b1 36 (o.cells) := hb1
  refine wl_p I_ok rfl (wl_nil (f_then (c_seq (c_region (wl_p I_ok rfl (wl (st_ld I_ok rfl (hb1.cell rfl) (wl_p I_ok rfl ?_))))))))
  have h4 := lenD_lt o
  rw [show (IntKind.u64.wrap o.num).tmod 400 = (lenD o : Int) from by rw [u64N_eq, Int.tmod_eq_emod_of_nonneg (Int.natCast_nonneg _)]; rfl]
  refine wl (st_mk I_ok rfl (lenD o) (lenD o) 1 rfl rfl rfl (by decide) rfl rfl (by omega) (by omega) (by dsimp only [maxLen]; omega) fun b9 w2 hn9 hb9 hE2 hs2 => ?_)
  have ne1_9 : b1 ≠ b9 := Nat.ne_of_lt (Nat.lt_of_lt_of_le hb1.lt hn9)
  have fr9 := Nat.le_trans hX.size hn9
  have hb1 := hb1.extNo hE2
  have hX := hX.thenNo hE2
  have hb9 : Blk w2 b9 5 (bytesU (fillD o 0)) := by (rw [fillD_zero, ← rep_bytes]; exact hb9)
  refine wl_p I_ok rfl (wl_nil (f_then (c_seq (c_seq (c_region (wl_p I_ok rfl (wl_nil (f_then (c_block ?_)))))))))
  refine c_loopK (α := Nat) [1, 3, 11] rfl (fun z => [(12, .int .i64 (z : Int))]) (fun z u => (z ≤ lenD o) ∧ Blk u b1 36 (o.cells) ∧ Blk u b9 5 (bytesU (fillD o z)) ∧ Ext No w u) (fun z u => lenD o - z) (0) rfl ⟨Nat.zero_le _, hb1, hb9, hX⟩ ?_
  rintro i w3 ⟨hi, hb1, hb9, hX⟩
  refine c_seq (c_region (wl_p I_ok rfl (wl_nil (f_then (c_seq (c_if rfl (fun hc => ?_) (fun hc => ?_)))))))
  · have hil : i < lenD o := by omega
    refine c_skip (f_then (c_seq (c_block (c_seq (c_region (wl_p I_ok rfl (wl_nil (f_then (c_region (wl_p I_ok rfl (wl (st_ld I_ok rfl (hb1.cell rfl) (wl_p I_ok rfl ?_)))))))))))))
    rw [show IntKind.i64.wrap ((i : Int).tdiv 7) = ((i / 7 : Nat) : Int) from by rw [Int.tdiv_eq_ediv_of_nonneg (Int.natCast_nonneg _), IntWalk.i64_in _ (by omega)]; omega]
    refine wl_p I_ok rfl ?_
    rw [show IntKind.i64.wrap ((i : Int) + ((i / 7 : Nat) : Int)) = ((i + i / 7 : Nat) : Int) from by rw [IntWalk.i64_in _ (by omega)]; omega]
    refine wl_p I_ok rfl ?_
    rw [byte_at o i]
    refine wl (st_ix I_ok rfl 1 rfl i rfl hil (0 + i * 1) rfl (wl (st_set I_ok hb9 rfl rfl (by rw [bytesU_len, fillD_len]; omega) fun w4 hb9 hE4 hs4 => ?_)))
    have hb1 := hb1.ext1 hE4 ne1_9
    have hX := hX.thenNew hE4 fr9
    have hb9 : Blk w4 b9 5 (bytesU (fillD o (i + 1))) := by (have e := hb9; rw [show 0 + i * 1 = i from by omega, fillD_set o hil] at e; exact e)
    refine wl_nil (f_blockN (f_then (c_region (wl_p I_ok rfl ?_))))
    rw [IntWalk.i64_in _ (by omega)]
    refine wl_nil ?_
    exact f_round (i + 1) rfl ⟨by omega, hb1, hb9, hX⟩ (by first | omega | (dsimp only; omega))
  · have hil : i = lenD o := by omega
    subst hil
    refine c_exit (f_thenE (f_thenE (f_blockE (f_then (c_seq (c_region (wl_p I_ok rfl (wl_nil (f_then (c_ret (f_ret1 rfl rfl (⟨_, (bytesD o).length, by rw [bytesD_len], ?_, fun y hy => by cases hy; exact fr9, hX⟩))))))))))))
    have e := Own.blk (n := lenD o) (c := lenD o) hb9 1 (by rw [bytesU_len, fillD_len, Nat.mul_one]) (Nat.le_refl _) (by dsimp only [maxLen]; omega)
    rw [List.take_of_length_le (by rw [bytesU_len, fillD_len]; omega), fillD_all, ← bytesD_len] at e
    exact e
end Go.Proofs.YtlfdlodcjiaiiaaDoor
namespace Go.Proofs.YtlfdlodcjiaiiaaDoor
open Go.Vc
theorem OwnB.of {w : World} {q : Option Addr} {n c T sz : Nat} {xs : List Value} (h : Own w q n c T sz xs) {y off : Nat} (e : q = some ⟨y, off, none⟩) : OwnB q y := by
  rcases h with ⟨h1, _⟩ | ⟨b, l, h1, _⟩
  · rw [h1] at e; cases e
  · rw [h1] at e; cases e; exact h1
def putD (W : Wl) (o : DeedD) : Wl × Int := if whichD o = 1 then W.checkpoint (bytesD o) else W.append (bytesD o)
theorem LogQ.base {w u : World} {x d : Nat} {F H : Nat → Prop} {r : Wl × Int} {v : Value} {w' : World} (hE : Ext No w u) (h : LogQ u x d F H r v w') : LogQ w x d F H r v w' := by
  obtain ⟨h1, F', H', h2, h3, h4, h5, h6, h7⟩ := h
  have hs := hE.size
  exact ⟨h1, F', H', h2, h3, fun y hy => (h4 y hy).imp id fun e => by omega, fun y hy => (h5 y hy).imp id fun e => by omega, h6, hE.no.then h7⟩
theorem lput_calls (w : World) {x d m : Nat} {H F : Nat → Prop} {W : Wl} (o : DeedD) (h : LogAt w x d H W) (hA : At w d F W.D) (hok : W.D.Ok m) (hm : m + 2000 < 1000000000) (hW : Wl.Ok W) (hr : Rt w) (hF0 : ¬ F 0) (hHF : ∀ y, H y → ¬ F y) :
    CallsV Tryd.prog 14 [.pointer (some ⟨x, 0, none⟩), o.v] w fun v w' => LogQ w x d F H (putD W o) v w' := by
  refine calls_enter Tryd.func14 rfl rfl rfl rfl ?_
  have hX := Ext.refl No w
  have hFlt := hA.lt
  have hHlt := h.lt
  have hlog := h
  have hat := hA
  have hrt := hr
  have h4 := lenD_lt o
  have hbl := bytesD_len o
  refine c_seq (c_region (wl (st_al I_ok rfl fun b3 w1 hn3 hb3 hE1 => ?_)))
  have fr3 := Nat.le_trans hX.size hn3
  have hlog := hlog.extNo hE1
  have hat := hat.extNo hE1
  have hrt := Rt.ext hrt hE1 id
  have hX := hX.thenNo hE1
  have hb3 : Blk w1 b3 36 (o.cells) := hb3
  refine wl_p I_ok rfl (wl_nil (f_then (c_seq (c_seq (c_region (wl (st_ldB I_ok hb3 rfl rfl (wl (st_call Tryd.call12 rfl rfl rfl rfl rfl rfl (which_calls w1 o) fun v2 w2 hr2 => ?_)))))))))
  obtain ⟨rfl, hE2⟩ := hr2
  have hb3 := hb3.extNo hE2
  have hlog := hlog.extNo hE2
  have hat := hat.extNo hE2
  have hrt := Rt.ext hrt hE2 id
  have hX := hX.thenNo hE2
  refine wl_p I_ok rfl (wl_nil (f_then (c_if rfl (fun hc => ?_) (fun hc => ?_))))
  · rw [show putD W o = W.checkpoint (bytesD o) from if_pos (by omega)]
    refine c_seq (c_region (wl_p I_ok rfl (wl (st_ldB I_ok hb3 rfl rfl ?_))))
    have hXb := hX.size
    refine wl (st_call Tryd.call13 rfl rfl rfl rfl rfl rfl (dbytes_calls w2 o) fun v3 w3 hr3 => ?_)
    obtain ⟨q, k, rfl, hq, hnq, hE3⟩ := hr3
    have hb3 := hb3.extNo hE3
    have hlog := hlog.extNo hE3
    have hat := hat.extNo hE3
    have hrt := Rt.ext hrt hE3 id
    have hX := hX.thenNo hE3
    refine wl (st_call Tryd.call28 rfl rfl rfl rfl rfl rfl (checkpoint_calls w3 hlog hat hok hm hW hq.sl (by omega) hrt hF0 hHF (fun y off e => by have e2 : OwnB q y := OwnB.of hq e; have hl := hq.lt e2; have hn := hnq y e2; exact ⟨fun e => by have := hFlt y e; omega, fun e => by have := hHlt y e; omega, hl⟩)) fun v4 w4 hr4 => ?_)
    obtain ⟨rfl, hq9⟩ := hr4
    refine wl_p I_ok rfl (wl_nil (f_then (c_ret (f_thenR (f_ret1 rfl rfl ?_)))))
    exact LogQ.base hX ⟨rfl, hq9⟩
  · rw [show putD W o = W.append (bytesD o) from if_neg (by omega)]
    refine c_skip (f_then (c_seq (c_region (wl_p I_ok rfl (wl (st_ldB I_ok hb3 rfl rfl ?_))))))
    have hXb := hX.size
    refine wl (st_call Tryd.call13 rfl rfl rfl rfl rfl rfl (dbytes_calls w2 o) fun v5 w5 hr5 => ?_)
    obtain ⟨q, k, rfl, hq, hnq, hE5⟩ := hr5
    have hb3 := hb3.extNo hE5
    have hlog := hlog.extNo hE5
    have hat := hat.extNo hE5
    have hrt := Rt.ext hrt hE5 id
    have hX := hX.thenNo hE5
    refine wl (st_call Tryd.call25 rfl rfl rfl rfl rfl rfl (append_calls w5 hlog hat hok hm hW hq.sl (by omega) hrt hF0 hHF (fun y off e => by have e2 : OwnB q y := OwnB.of hq e; have hl := hq.lt e2; have hn := hnq y e2; exact ⟨fun e => by have := hFlt y e; omega, fun e => by have := hHlt y e; omega⟩)) fun v6 w6 hr6 => ?_)
    obtain ⟨rfl, hq9⟩ := hr6
    refine wl_p I_ok rfl (wl_nil (f_then (c_ret (f_ret1 rfl rfl ?_))))
    exact LogQ.base hX ⟨rfl, hq9⟩
/-- a tale: what a log tells -/
def TaleAt (u : World) (G : Nat → Prop) (t : List Bytes) (v : Value) : Prop := ∃ q c rows, v = .slice q t.length c ∧ t.length ≤ c ∧ Sl u q t.length 1 rows ∧ PiecesAt u G t rows ∧ (∀ y off, q = some ⟨y, off, none⟩ → t.length ≠ 0 → G y)
theorem TaleAt.ext {S G : Nat → Prop} {u u' : World} {t : List Bytes} {v : Value} (h : TaleAt u G t v) (hE : Ext S u u') (hS : ∀ y, G y → ¬ S y) : TaleAt u' G t v := by
  obtain ⟨q, c, rows, h1, h2, h3, h4, h5⟩ := h
  refine ⟨q, c, rows, h1, h2, ?_, h4.ext hE fun y hy _ => hS y hy, h5⟩
  by_cases h0 : t.length = 0
  · exact ⟨h3.1, .inl h0⟩
  · exact h3.ext hE fun y off e => hS y (h5 y off e h0)
theorem TaleAt.extNo {G : Nat → Prop} {u u' : World} {t : List Bytes} {v : Value} (h : TaleAt u G t v) (hE : Ext No u u') : TaleAt u' G t v := h.ext hE fun _ _ => id
def thenD (t : List Bytes) (o : DeedD) : List Bytes := if whichD o = 1 then [bytesD o] else t ++ [bytesD o]
theorem is_calls (w : World) {G G' : Nat → Prop} {t t' : List Bytes} {v v' : Value} (h : TaleAt w G t v) (h' : TaleAt w G' t' v') (hl : t.length < 1000000000) :
    CallsV Tryd.prog 17 [v, v'] w fun r w' => r = .bool (decide (t = t')) ∧ Ext No w w' := by
  obtain ⟨q, c, rows, rfl, hc, hs, hps, _⟩ := h
  obtain ⟨q', c', rows', rfl, hc', hs', hps', _⟩ := h'
  refine calls_enter Tryd.func17 rfl rfl rfl rfl ?_
  have hX := Ext.refl No w
  refine c_seq (c_region (wl_p I_ok rfl (wl_nil (f_then (c_seq (c_seq (c_region (wl_p I_ok rfl (wl_nil (f_then (c_if rfl (fun hc => ?_) (fun hc => ?_))))))))))))
  · refine c_seq ?_
    refine c_region (wl_p I_ok rfl (wl_nil (f_then (c_ret (f_thenR (f_ret1 rfl rfl ?_))))))
    exact ⟨congrArg Value.bool (decide_eq_false fun e => hc (by rw [e])).symm, hX⟩
  · have hll : t.length = t'.length := by omega
    refine c_skip (f_then (c_seq (c_seq (c_region (wl_p I_ok rfl (wl_nil (f_then (c_block ?_))))))))
    refine c_loopK (α := Nat) [0, 1, 12] rfl (fun z => [(13, .int .i64 (z : Int))]) (fun z u => (z ≤ t.length ∧ t.take z = t'.take z ∧ Sl u q t.length 1 rows ∧ Sl u q' t'.length 1 rows' ∧ PiecesAt u G t rows ∧ PiecesAt u G' t' rows') ∧ Ext No w u) (fun z u => t.length - z) (0) rfl ⟨⟨Nat.zero_le _, by simp, hs, hs', hps, hps'⟩, hX⟩ ?_
    rintro i w1 ⟨⟨hi, htk, hs, hs', hps, hps'⟩, hX⟩
    refine c_seq (c_region (wl_p I_ok rfl (wl_nil (f_then (c_seq (c_if rfl (fun hc => ?_) (fun hc => ?_)))))))
    · have hit : i < t.length := by omega
      have hjt : i < t'.length := by omega
      obtain ⟨qb, qo, rfl, hqs⟩ := hs.2.resolve_left (by omega)
      obtain ⟨qb', qo', rfl, hqs'⟩ := hs'.2.resolve_left (by omega)
      obtain ⟨p1, c1, hr1, hl1, hv1, _⟩ := hps.get hit
      obtain ⟨p2, c2, hr2, hl2, hv2, _⟩ := hps'.get hjt
      refine c_skip (f_then (c_seq (c_block (c_seq (c_region (wl_p I_ok rfl (wl_nil (f_then (c_seq ?_)))))))))
      refine c_draw rfl 10 [(0, true), (1, true), (2, true), (3, true), (4, true), (5, true), (6, true), (7, true), (8, false), (9, true)] [] (No) (by kernel_rfl) fun w2 hE2 hs2 => ?_
      have hsd := hs
      have hs'd := hs'
      have hpsd := hps
      have hps'd := hps'
      have hXd := hX
      have hs := hs.extNo hE2
      have hs' := hs'.extNo hE2
      have hps := hps.ext hE2 fun _ _ _ => id
      have hps' := hps'.ext hE2 fun _ _ _ => id
      have hX := hX.thenNo hE2
      have hC : Ext (No) _ w2 := hE2.no
      refine wd_k I_ok 2 rfl (wd_ix I_ok rfl rfl 1 rfl i rfl hit (qo + i * 1) rfl (wd_ld I_ok rfl rfl (fun w' hw' => ((hqs.extNo hw') _ _ (by rw [Nat.mul_one]; exact hr1))) ?_))
      refine wd_k I_ok 2 rfl (wd_ix I_ok rfl rfl 1 rfl i rfl hjt (qo' + i * 1) rfl (wd_ld I_ok rfl rfl (fun w' hw' => ((hqs'.extNo hw') _ _ (by rw [Nat.mul_one]; exact hr2))) ?_))
      refine wd_l rfl (st_call Tryd.call42 rfl rfl rfl rfl rfl rfl (bytesEqual_calls w2 (hv1.extNo hC) (hv2.extNo hC)) fun v3 w3 hr3 => ⟨(by obtain ⟨rfl, rfl⟩ := hr3; exact hC), ?_⟩)
      obtain ⟨rfl, rfl⟩ := hr3
      have hC := hC
      refine wd_k I_ok 1 rfl (wd_sw (wb_nil (f_then (c_cond rfl (fun hc => ?_) (fun hc => ?_)))))
      · have hne : t[i] ≠ t'[i] := by simpa using hc
        refine c_seq (c_region (wl_p I_ok rfl (wl_nil (f_then (c_ret (f_blockR (f_thenR (f_thenR (f_blockR (f_thenR (f_ret1 rfl rfl ?_)))))))))))
        exact ⟨congrArg Value.bool (decide_eq_false fun e => hne (by subst e; rfl)).symm, hX⟩
      · have heq : t[i] = t'[i] := by simpa using hc
        refine c_skip (f_blockN (f_then (c_region (wl_p I_ok rfl ?_))))
        rw [IntWalk.i64_in _ (by omega)]
        refine wl_nil ?_
        exact f_round (i + 1) rfl ⟨⟨by omega, by rw [List.take_succ_eq_append_getElem hit, List.take_succ_eq_append_getElem hjt, htk, heq], hs, hs', hps, hps'⟩, hX⟩ (by first | omega | (dsimp only; omega))
    · have hit : i = t.length := by omega
      subst hit
      rw [List.take_length, hll, List.take_length] at htk
      refine c_exit (f_thenE (f_thenE (f_blockE (f_then (c_seq (c_region (wl_p I_ok rfl (wl_nil (f_then (c_ret (f_ret1 rfl rfl ?_)))))))))))
      exact ⟨congrArg Value.bool (decide_eq_true htk).symm, hX⟩

theorem then_calls (w : World) {G : Nat → Prop} {t : List Bytes} {v : Value} (o : DeedD) (h : TaleAt w G t v) (hG : ∀ y, G y → y < w.heap.size) (hl : t.length < 1000000) :
    CallsV Tryd.prog 15 [v, o.v] w fun r w' => ∃ G' : Nat → Prop, TaleAt w' G' (thenD t o) r ∧ (∀ y, G' y → G y ∨ w.heap.size ≤ y) ∧ (∀ y, G' y → y < w'.heap.size) ∧ Ext No w w' := by
  obtain ⟨q, c, rows, rfl, hc, hs, hps, hqG⟩ := h
  refine calls_enter Tryd.func15 rfl rfl rfl rfl ?_
  have hX := Ext.refl No w
  refine c_seq (c_region (wl (st_al I_ok rfl fun b3 w1 hn3 hb3 hE1 => ?_)))
  have fr3 := Nat.le_trans hX.size hn3
  have hs := hs.extNo hE1
  have hps := hps.ext hE1 fun _ _ _ => id
  have hX := hX.thenNo hE1
  have hb3 : Blk w1 b3 36 (o.cells) := hb3
  refine wl_p I_ok rfl (wl_nil (f_then (c_seq (c_seq (c_region (wl (st_ldB I_ok hb3 rfl rfl (wl (st_call Tryd.call12 rfl rfl rfl rfl rfl rfl (which_calls w1 o) fun v2 w2 hr2 => ?_)))))))))
  obtain ⟨rfl, hE2⟩ := hr2
  have hb3 := hb3.extNo hE2
  have hs := hs.extNo hE2
  have hps := hps.ext hE2 fun _ _ _ => id
  have hX := hX.thenNo hE2
  refine wl_p I_ok rfl (wl_nil (f_then (c_if rfl (fun hc => ?_) (fun hc => ?_))))
  · rw [show thenD t o = [bytesD o] from if_pos (by omega)]
    refine c_seq (c_region (wl (st_ldB I_ok hb3 rfl rfl ?_)))
    have hXb := hX.size
    refine wl (st_call Tryd.call13 rfl rfl rfl rfl rfl rfl (dbytes_calls w2 o) fun v3 w3 hr3 => ?_)
    obtain ⟨q1, k1, rfl, hq1, hnq1, hE3⟩ := hr3
    have hb3 := hb3.extNo hE3
    have hs := hs.extNo hE3
    have hps := hps.ext hE3 fun _ _ _ => id
    have hX := hX.thenNo hE3
    refine wl (st_bs I_ok rfl 1 rfl rfl rfl (by decide) (by decide) (by simp [partsOk]) (l' := [.slice q1 (bytesD o).length k1]) rfl fun b10 w4 hn10 hb10 hE4 hs4 => ?_)
    have ne3_10 : b3 ≠ b10 := Nat.ne_of_lt (Nat.lt_of_lt_of_le hb3.lt hn10)
    have fr10 := Nat.le_trans hX.size hn10
    have hb3 := hb3.extNo hE4
    have hs := hs.extNo hE4
    have hps := hps.ext hE4 fun _ _ _ => id
    have hq1 := hq1.ext hE4 fun _ _ => id
    have hX := hX.thenNo hE4
    refine wl_p I_ok rfl (wl_nil (f_then (c_ret (f_thenR (f_ret1 rfl rfl ?_)))))
    exact ⟨fun y => y = b10 ∨ OwnB q1 y, ⟨some ⟨b10, 0, none⟩, 1, [.slice q1 (bytesD o).length k1], rfl, Nat.le_refl _, ⟨rfl, .inr ⟨b10, 0, rfl, hb10.seg⟩⟩, PiecesAt.snoc (ps := []) (rows := []) ⟨rfl, fun i b v h => by cases h⟩ (PieceAt.ofOwn hq1 fun z hz => .inr hz), fun y off e _ => by cases e; exact .inl rfl⟩, fun y hy => .inr (by rcases hy with rfl | hy; exact fr10; have := hnq1 y hy; omega), fun y hy => by rcases hy with rfl | hy; exact hb10.lt; exact hq1.lt hy, hX⟩
  · rw [show thenD t o = t ++ [bytesD o] from if_neg (by omega)]
    refine c_skip (f_then (c_seq (c_draw rfl 8 [(1, true), (3, true), (0, false), (2, false), (4, false), (5, false), (6, false), (7, true)] [] (No) (by kernel_rfl) fun w5 hE5 hs5 => ?_)))
    have hd3 := hb3
    have hsd := hs
    have hpsd := hps
    have hXd := hX
    have hb3 := hb3.extNo hE5
    have hs := hs.extNo hE5
    have hps := hps.ext hE5 fun _ _ _ => id
    have hX := hX.thenNo hE5
    have hC : Ext (No) _ w5 := hE5.no
    refine wd_k I_ok 1 rfl (wd_ldN I_ok rfl rfl (fun w' hw' => (hd3.extNo hw').seg) rfl ?_)
    obtain ⟨hdw, hhdw⟩ : ∃ n, n = w5.heap.size := ⟨_, rfl⟩
    refine wd_l rfl (st_bs I_ok rfl 1 rfl rfl rfl (by decide) (by decide) (by simp [partsOk]) (l' := []) rfl fun b11 w6 hn11 hb11 hE6 hs6 => ⟨hC.thenNo hE6, ?_⟩)
    have ne3_11 : b3 ≠ b11 := Nat.ne_of_lt (Nat.lt_of_lt_of_le hb3.lt hn11)
    have fr11 := Nat.le_trans hX.size hn11
    have hb3 := hb3.extNo hE6
    have hs := hs.extNo hE6
    have hps := hps.ext hE6 fun _ _ _ => id
    have hX := hX.thenNo hE6
    have hC := hC.thenNo hE6
    have hXa := hX.size
    have hCa := hC.size
    have hXw := hXd.size
    refine wd_l rfl (st_app I_ok rfl 1 24 rfl rfl rfl (by decide) (Own.blk (n := 0) (c := 0) hb11 1 rfl (Nat.le_refl _) (by decide)) (Src.slice hs hps.one) (by dsimp only [maxLen]; omega) (by dsimp only; omega) fun p7 c7 w7 ho7 hE7 hB7 => ⟨(hC.trans hE7 fun y hy e => by cases e; omega), ?_⟩)
    have hC := (hC.trans hE7 fun y hy e => by cases e; omega)
    have hX := hX.trans hE7 fun y hy e => by cases e; omega
    have hb3 := hb3.ext hE7 fun e => by cases e; omega
    have hps := hps.ext hE7 fun y hy _ e => by cases e; have := hG _ hy; omega
    have hn1 : ∀ x, OwnB p7 x → w.heap.size ≤ x := fun x hx => (hB7 x hx).elim (fun hF => by cases hF; omega) fun h => by omega
    have hnd : ∀ x, OwnB p7 x → hdw ≤ x := fun x hx => (hB7 x hx).elim (fun hF => by cases hF; omega) fun h => by omega
    have ho1 : Own w7 p7 (0 + t.length) c7 37 1 rows := ho7
    rw [Nat.zero_add] at ho1
    obtain ⟨pa, hpa⟩ : ∃ pa, pa = p7 := ⟨_, rfl⟩
    obtain ⟨ca, hca⟩ : ∃ ca, ca = c7 := ⟨_, rfl⟩
    rw [← hpa] at ho1 hn1 hnd ⊢
    rw [← hca] at ho1 ⊢
    dsimp only
    rw [Nat.zero_add]
    have hXb := hX.size
    refine wd_l rfl (st_call Tryd.call13 rfl rfl rfl rfl rfl rfl (dbytes_calls w7 o) fun v8 w8 hr8 => ⟨(by obtain ⟨q1, k1, rfl, hq1, hnq1, hE8⟩ := hr8; exact hC.thenNo hE8), ?_⟩)
    obtain ⟨q1, k1, rfl, hq1, hnq1, hE8⟩ := hr8
    have hb3 := hb3.extNo hE8
    have hps := hps.ext hE8 fun _ _ _ => id
    have ho1 := ho1.ext hE8 fun _ _ => id
    have hX := hX.thenNo hE8
    have hC := hC.thenNo hE8
    refine wd_l rfl (st_bs I_ok rfl 1 rfl rfl rfl (by decide) (by decide) (by simp [partsOk]) (l' := [.slice q1 (bytesD o).length k1]) rfl fun b16 w9 hn16 hb16 hE9 hs9 => ⟨hC.thenNo hE9, ?_⟩)
    have ne3_16 : b3 ≠ b16 := Nat.ne_of_lt (Nat.lt_of_lt_of_le hb3.lt hn16)
    have fr16 := Nat.le_trans hX.size hn16
    have hb3 := hb3.extNo hE9
    have hps := hps.ext hE9 fun _ _ _ => id
    have ho1 := ho1.ext hE9 fun _ _ => id
    have hq1 := hq1.ext hE9 fun _ _ => id
    have hX := hX.thenNo hE9
    have hC := hC.thenNo hE9
    have hXc := hX.size
    refine wd_l rfl (st_app I_ok rfl 1 24 rfl rfl rfl (by decide) ho1 (Src.slice (m := 1) ⟨rfl, .inr ⟨b16, 0, rfl, hb16.seg⟩⟩ OneC.h) (by dsimp only [maxLen]; omega) (by dsimp only; omega) fun p10 c10 w10 ho10 hE10 hB10 => ⟨(hC.trans hE10 fun y hy e => by have := hnd y e; omega), ?_⟩)
    have hC := (hC.trans hE10 fun y hy e => by have := hnd y e; omega)
    have hX := hX.trans hE10 fun y hy e => by have := hn1 y e; omega
    have hps := hps.ext hE10 fun y hy _ e => by have := hn1 y e; have := hG _ hy; omega
    have hq1 := hq1.ext hE10 fun y hy e => by obtain ⟨l, hl⟩ := Own.ty ho1 e; exact (Own.ty hq1 hy).ne hl (by decide) rfl
    have hn2 : ∀ x, OwnB p10 x → w.heap.size ≤ x := fun x hx => (hB10 x hx).elim (hn1 x) fun h => by omega
    have ho2 : Own w10 p10 (t ++ [bytesD o]).length c10 37 1 (rows ++ [.slice q1 (bytesD o).length k1]) := by rw [List.length_append]; exact ho10
    refine wd_k I_ok 1 rfl (wd_sw (wb_nil (f_then (c_ret (f_ret1 rfl rfl ?_)))))
    exact ⟨fun y => G y ∨ OwnB p10 y ∨ OwnB q1 y, ⟨p10, c10, _, by rw [List.length_append]; rfl, ho2.cap, ho2.sl, PiecesAt.snoc (PiecesAt.mono hps fun z hz => .inl hz) (PieceAt.ofOwn hq1 fun z hz => .inr (.inr hz)), fun y off e _ => .inr (.inl (OwnB.of ho2 e))⟩, fun y hy => by rcases hy with hy | hy | hy; exact .inl hy; exact .inr (hn2 y hy); exact .inr (by have := hnq1 y hy; omega), fun y hy => by rcases hy with hy | hy | hy; have := hG y hy; have := hX.size; omega; exact ho2.lt hy; exact hq1.lt hy, hX⟩
abbrev TelZ := Option Addr × Nat × List Value × (Nat → Prop)
def telC (w : World) (b2 b3 b4 : Nat) (ps : List Bytes) : CoS TelZ w where
  Fp := fun z y => y = b2 ∨ y = b3 ∨ y = b4 ∨ OwnB z.1 y ∨ z.2.2.2 y
  J := fun k z u => Blk u b2 28 [.slice none 0 0] ∧ Blk u b3 4 [.bool false] ∧ Blk u b4 28 [.slice z.1 (k + 1) z.2.1] ∧ Own u z.1 (k + 1) z.2.1 37 1 z.2.2.1 ∧ PiecesAt u z.2.2.2 (ps.take (k + 1)) z.2.2.1 ∧ ∀ y, z.2.2.2 y → w.heap.size ≤ y + w.heap.size ∧ y < u.heap.size
  Jx := fun _ _ _ _ => False
  st := fun ⟨h1, h2, h3, h4, h5, h6⟩ hE hS => ⟨h1.ext hE fun e => (hS _ e).2 (.inl rfl), h2.ext hE fun e => (hS _ e).2 (.inr (.inl rfl)), h3.ext hE fun e => (hS _ e).2 (.inr (.inr (.inl rfl))), h4.ext hE fun y hy e => (hS _ e).2 (.inr (.inr (.inr (.inl hy)))), h5.ext hE fun y hy _ e => (hS _ e).2 (.inr (.inr (.inr (.inr hy)))), fun y hy => ⟨(h6 y hy).1, Nat.lt_of_lt_of_le (h6 y hy).2 hE.size⟩⟩
  stx := fun h _ _ => h.elim
  lt := fun ⟨h1, h2, h3, h4, h5, h6⟩ x e => by
    rcases e with rfl | rfl | rfl | e | e
    · exact h1.lt
    · exact h2.lt
    · exact h3.lt
    · exact h4.lt e
    · exact (h6 x e).2
  ltx := fun h => h.elim
end Go.Proofs.YtlfdlodcjiaiiaaDoor
namespace Go.Proofs.YtlfdlodcjiaiiaaDoor
open Go.Vc
theorem getD_drop1 (l : List Bytes) (k : Nat) : (l.drop 1).getD k [] = l.getD (k + 1) [] := by
  rw [List.getD_eq_getElem?_getD, List.getD_eq_getElem?_getD, List.getElem?_drop, Nat.add_comm]
theorem tells_calls (w : World) {x d : Nat} {H : Nat → Prop} {W0 : Wl} (h : LogAt w x d H W0) (hW : Wl.Ok W0) :
    CallsV Tryd.prog 16 [.pointer (some ⟨x, 0, none⟩)] w fun v w' => ∃ (t : Value) (G : Nat → Prop), v = .tuple #[t, .bool true] ∧ TaleAt w' G W0.pieces t ∧ (∀ y, G y → w.heap.size ≤ y ∧ y < w'.heap.size) ∧ Ext No w w' := by
  refine calls_enterM Tryd.func16 rfl rfl rfl rfl ?_
  have hX := Ext.refl No w
  have hHlt := h.lt
  have hlog := h
  obtain ⟨s0, r0, hp0⟩ : ∃ s0 r0, W0.pieces = s0 :: r0 := by
    cases hp : W0.pieces with
    | nil => exact absurd hp hW.some
    | cons a l => exact ⟨a, l, rfl⟩
  have hz2 := hW.size.2
  have hfew := hW.few
  have hlen : W0.pieces.length = r0.length + 1 := by rw [hp0]; rfl
  have hne : 0 < W0.pieces.length := by omega
  have hs0 : W0.pieces[0] = s0 := by simp [hp0]
  have hsh : ∀ b ∈ W0.pieces, b.length < 1000000000 := fun b hb => by have := hW.short b hb; omega
  have hdr : W0.pieces.drop 1 = r0 := by rw [hp0]; rfl
  refine c_seq (c_region (wl (st_al I_ok rfl fun b2 w1 hn2 hb2 hE1 => ?_)))
  have fr2 := Nat.le_trans hX.size hn2
  have hlog := hlog.extNo hE1
  have hX := hX.thenNo hE1
  have hb2 : Blk w1 b2 28 ([.slice none 0 0]) := hb2
  refine wl (st_al I_ok rfl fun b3 w2 hn3 hb3 hE2 => ?_)
  have ne2_3 : b2 ≠ b3 := Nat.ne_of_lt (Nat.lt_of_lt_of_le hb2.lt hn3)
  have fr3 := Nat.le_trans hX.size hn3
  have hb2 := hb2.extNo hE2
  have hlog := hlog.extNo hE2
  have hX := hX.thenNo hE2
  have hb3 : Blk w2 b3 4 ([.bool false]) := hb3
  refine wl_nil (f_then (c_seq (c_region (wl_p I_ok rfl ?_))))
  have hX1 := hX.size
  refine wl (st_call Tryd.call29 rfl rfl rfl rfl rfl rfl (snapshot_calls w2 hlog hne (hsh _ (List.getElem_mem hne))) fun v3 w3 hr3 => ?_)
  obtain ⟨q1, k1, rfl, hq1, hnq1, hE3⟩ := hr3
  have hb2 := hb2.extNo hE3
  have hb3 := hb3.extNo hE3
  have hlog := hlog.extNo hE3
  have hX := hX.thenNo hE3
  rw [hs0] at hq1 ⊢
  refine wl (st_bs I_ok rfl 1 rfl rfl rfl (by decide) (by decide) (by simp [partsOk]) (l' := [.slice q1 s0.length k1]) rfl fun b9 w4 hn9 hb9 hE4 hs4 => ?_)
  have ne2_9 : b2 ≠ b9 := Nat.ne_of_lt (Nat.lt_of_lt_of_le hb2.lt hn9)
  have ne3_9 : b3 ≠ b9 := Nat.ne_of_lt (Nat.lt_of_lt_of_le hb3.lt hn9)
  have fr9 := Nat.le_trans hX.size hn9
  have hb2 := hb2.extNo hE4
  have hb3 := hb3.extNo hE4
  have hlog := hlog.extNo hE4
  have hq1 := hq1.ext hE4 fun _ _ => id
  have hX := hX.thenNo hE4
  refine wl (st_al I_ok rfl fun b4 w5 hn4 hb4 hE5 => ?_)
  have ne2_4 : b2 ≠ b4 := Nat.ne_of_lt (Nat.lt_of_lt_of_le hb2.lt hn4)
  have ne3_4 : b3 ≠ b4 := Nat.ne_of_lt (Nat.lt_of_lt_of_le hb3.lt hn4)
  have ne9_4 : b9 ≠ b4 := Nat.ne_of_lt (Nat.lt_of_lt_of_le hb9.lt hn4)
  have fr4 := Nat.le_trans hX.size hn4
  have hb2 := hb2.extNo hE5
  have hb3 := hb3.extNo hE5
  have hb9 := hb9.extNo hE5
  have hlog := hlog.extNo hE5
  have hq1 := hq1.ext hE5 fun _ _ => id
  have hX := hX.thenNo hE5
  have hb4z := hb4
  refine wl (st_st I_ok hb4 rfl rfl rfl fun w6 hb4 hE6 hs6 => ?_)
  have hb2 := hb2.ext1 hE6 ne2_4
  have hb3 := hb3.ext1 hE6 ne3_4
  have hb9 := hb9.ext1 hE6 ne9_4
  have hlog := hlog.ext hE6 fun y hy e => by have e : y = b4 := e; have := hHlt y hy; omega
  have hq1 := hq1.extTy hE6 hb4z (by decide)
  have hX := hX.thenNew hE6 fr4
  have hb4 : Blk w6 b4 28 ([.slice (some ⟨b9, 0, none⟩) 1 1]) := hb4
  refine wl_nil (f_then (c_seq (c_seq (c_region (wl_p I_ok rfl ?_)))))
  have l2 := hb2.lt
  have l3 := hb3.lt
  have l4 := hb4.lt
  have l9 := hb9.lt
  have lq := fun y (hy : OwnB q1 y) => hq1.lt hy
  refine wl (st_call Tryd.call27 rfl rfl rfl rfl rfl rfl (all_calls w6 hlog hne (by omega)) fun v7 w7 hr7 => ?_)
  obtain ⟨bA, qA, cA, rowsA, rfl, hbA, hsA, hpA, hAn, hqA, hE7⟩ := hr7
  have hb2 := hb2.extNo hE7
  have hb3 := hb3.extNo hE7
  have hb9 := hb9.extNo hE7
  have hb4 := hb4.extNo hE7
  have hlog := hlog.extNo hE7
  have hq1 := hq1.ext hE7 fun _ _ => id
  have hX := hX.thenNo hE7
  rw [hdr] at hbA hsA hpA hqA
  have hlw := hX.size
  have hEA := hE7.size
  have hn1 : ∀ y, OwnB q1 y → w.heap.size ≤ y := fun y hy => by have := hnq1 y hy; omega
  refine wl_nil (f_then (c_block ?_))
  refine c_iterV (telC w7 b2 b3 b4 W0.pieces) ((some ⟨b9, 0, none⟩, 1, [.slice q1 s0.length k1], OwnB q1)) rfl Tryd.call62 rfl AllA.size (fun w1 hE1 => all1_iter w1 (ps := r0) (hbA.extNo hE1) (by by_cases h0 : r0.length = 0; exact ⟨hsA.1, .inl h0⟩; exact hsA.ext hE1 fun _ _ _ => id) (hpA.ext hE1 fun _ _ _ => id) (fun y off e h0 => Nat.lt_of_lt_of_le (hqA y off e h0).2 hE1.size) (fun y hy => by have := hHlt y hy; have := hE1.size; omega) (by omega) (fun b hb => hsh b (by rw [hp0]; exact List.mem_cons_of_mem _ hb))) (fun y hy => by
  rcases hy with ⟨off, e, h⟩ | hy
  · have h1 := hqA y off e h
    refine ⟨h1.2, fun e2 => ?_⟩
    rcases e2 with e2 | e2 | e2 | e2 | e2
    · omega
    · omega
    · omega
    · cases e2; omega
    · have := lq y e2; omega
  · have h1 := hHlt y hy
    refine ⟨by omega, fun e2 => ?_⟩
    rcases e2 with e2 | e2 | e2 | e2 | e2
    · omega
    · omega
    · omega
    · cases e2; omega
    · have := hn1 y e2; omega) ⟨hb2, hb3, hb4, Own.blk (n := 1) (c := 1) hb9 1 rfl (Nat.le_refl _) (by decide), (by rw [hp0]; exact PiecesAt.snoc (ps := []) (rows := []) ⟨rfl, fun i b v h => by cases h⟩ (PieceAt.ofOwn hq1 fun z hz => hz)), fun y hy => ⟨Nat.le_add_left _ _, hq1.lt hy⟩⟩ (fun l DD r k z W vs Xn hRd hNx hJ hk hA => ?_) (fun DD z W hJ hE hsub hDn hmk hnd => ?_) (fun DD k c z W hk hJ hE hsub hDn hmk hnd => ?_)
  · have hLr := hRd.l
    obtain ⟨q, cq, R, G⟩ := z
    obtain ⟨hb2, hb3, hb4, hrw, hps, hGl⟩ := hJ
    dsimp only at hb4 hrw hps hGl
    obtain ⟨qb, cb, rfl, hown, rfl⟩ := hA
    have hkr : k < r0.length := hk
    obtain ⟨Bk, hBk⟩ : ∃ Bk, Bk = r0.getD k [] := ⟨_, rfl⟩
    rw [← hBk] at hown ⊢
    have hb4o := hb4
    have hql : ¬ OwnB q l := fun e => (hRd.fp _ (.inr (.inr (.inr (.inl e))))).1 rfl
    have hwl := hRd.X.size
    have l2W := hb2.lt
    have l3W := hb3.lt
    have l4W := hb4.lt
    have hGW := hGl
    have hqW := fun y (hy : OwnB q y) => hrw.lt hy
    have nl2 := hb2.neL hLr
    have nl3 := hb3.neL hLr
    have nl4 := hb4.neL hLr
    have hX : Ext (fun x => ((x = b2 ∨ x = b3 ∨ x = b4 ∨ OwnB q x ∨ G x) ∨ x = l) ∨ OwnB qb x) W W := Ext.refl _ _
    refine ci_seq (ci_region (wli_pR I_ok rfl (wli_nil (fi_then (ci_region (wli_pR I_ok rfl (wli_nil (fin_begin hRd hLr fun w8 hE8 hL8 => ?_))))))))
    have hb2 := hb2.extL hLr hE8
    have hb3 := hb3.extL hLr hE8
    have hb4 := hb4.extL hLr hE8
    have hrw := hrw.ext hE8 fun y hy e => (hRd.fp _ (.inr (.inr (.inr (.inl hy))))).1 e
    have hps := hps.ext hE8 fun y hy _ e => (hRd.fp _ (.inr (.inr (.inr (.inr hy))))).1 e
    have hown := hown.ext hE8 fun y hy e => (hNx.ne y hy).2.1 e
    have hLr := hL8
    have hX := hX.then (hE8.mono fun x _ e => .inl (.inr e))
    refine ci_block (ci_seq (ci_seq (ci_region (wli_pR I_ok rfl (wli (.round _) rfl (st_ldb I_ok hb4 rfl rfl (wli_pR I_ok rfl (wli_nil (fi_then (ci_if rfl (fun hc => ?_) (fun hc => ?_)))))))))))
    · exact absurd hc (by omega)
    · refine ci_skip ?_
      refine fi_then (ci_region (wli (.round _) rfl (st_ldb I_ok hb4 rfl rfl (wli_pR I_ok rfl ?_))))
      refine wli (.round _) rfl (st_bs I_ok rfl 1 rfl rfl rfl (by decide) (by decide) (by simp [partsOk]) (l' := [.slice qb Bk.length cb]) rfl fun b20 w9 hn20 hb20 hE9 hs9 => ?_)
      have ne2_20 : b2 ≠ b20 := Nat.ne_of_lt (Nat.lt_of_lt_of_le hb2.lt hn20)
      have ne3_20 : b3 ≠ b20 := Nat.ne_of_lt (Nat.lt_of_lt_of_le hb3.lt hn20)
      have ne4_20 : b4 ≠ b20 := Nat.ne_of_lt (Nat.lt_of_lt_of_le hb4.lt hn20)
      have fr20 := Nat.le_trans hX.size hn20
      have hb2 := hb2.extNo hE9
      have hb3 := hb3.extNo hE9
      have hb4 := hb4.extNo hE9
      have hrw := hrw.ext hE9 fun _ _ => id
      have hps := hps.ext hE9 fun _ _ _ => id
      have hown := hown.ext hE9 fun _ _ => id
      have hLr := hl_ext hLr hE9 id
      have hX := hX.thenNo hE9
      have nl20 := hb20.neL hLr
      have hXq := hX.size
      refine wli (.round _) rfl (st_app I_ok rfl 1 24 rfl rfl rfl (by decide) hrw (Src.slice (m := 1) ⟨rfl, .inr ⟨b20, 0, rfl, hb20.seg⟩⟩ OneC.h) (by dsimp only [maxLen]; omega) (by dsimp only; omega) fun p10 c10 w10 ho10 hE10 hB10 => ?_)
      have hb2 := hb2.ext hE10 fun e => (Own.ty hrw e).ne hb2 (by decide) rfl
      have hb3 := hb3.ext hE10 fun e => (Own.ty hrw e).ne hb3 (by decide) rfl
      have hb4 := hb4.ext hE10 fun e => (Own.ty hrw e).ne hb4 (by decide) rfl
      have hb20 := hb20.ext hE10 fun e => by have := hqW _ e; omega
      have hps := hps.ext hE10 fun y hy ht e => by obtain ⟨l, hl⟩ := Own.ty hrw e; exact ht.ne hl (by decide) rfl
      have hown := hown.ext hE10 fun y hy e => by obtain ⟨l, hl⟩ := Own.ty hrw e; exact (Own.ty hown hy).ne hl (by decide) rfl
      have hLr := hl_ext hLr hE10 hql
      have hX := hX.then (hE10.mono fun y _ e => .inl (.inl (.inr (.inr (.inr (.inl e))))))
      have hqn : ∀ y, OwnB p10 y → OwnB q y ∨ W.heap.size ≤ y := fun y hy => (hB10 y hy).imp id fun e => by omega
      have hb4o := hb4
      have hrw : Own w10 p10 (k + 1 + 1) c10 37 1 (R ++ [.slice qb Bk.length cb]) := ho10
      obtain ⟨pn, hpn0⟩ : ∃ pn, pn = p10 := ⟨_, rfl⟩
      obtain ⟨cn, hcn0⟩ : ∃ cn, cn = c10 := ⟨_, rfl⟩
      rw [← hpn0] at hrw hqn ⊢
      rw [← hcn0] at hrw ⊢
      dsimp only
      refine wli (.round _) rfl (st_st I_ok hb4 rfl rfl rfl fun w11 hb4 hE11 hs11 => ?_)
      have hb2 := hb2.ext1 hE11 ne2_4
      have hb3 := hb3.ext1 hE11 ne3_4
      have hb20 := hb20.ext1 hE11 ne4_20.symm
      have hrw := hrw.extTy hE11 hb4o (by decide)
      have hps := hps.ext hE11 fun y _ ht e => by have e : y = b4 := e; subst e; exact ht.ne hb4o (by decide) rfl
      have hown := hown.extTy hE11 hb4o (by decide)
      have hLr := hl_ext hLr hE11 nl4.symm
      have hX := hX.then (hE11.mono fun x _ e => by have e : x = b4 := e; subst e; exact (.inl (.inl (.inr (.inr (.inl rfl))))))
      have hb4 : Blk w11 b4 28 ([.slice pn (k + 1 + 1) cn]) := hb4
      have hzw := hX.size
      have hol := fun y (hy : OwnB qb y) => hown.lt hy
      have htk : W0.pieces.take (k + 1 + 1) = W0.pieces.take (k + 1) ++ [Bk] := by
        have hk2 : k + 1 < W0.pieces.length := by omega
        rw [List.take_succ_eq_append_getElem hk2, hBk]
        congr 2
        simp [hp0, hkr]
      refine wli_nil ?_
      exact f_blockN (fin_nextV ((pn, cn, R ++ [.slice qb Bk.length cb], fun y => G y ∨ OwnB qb y)) hRd hNx hLr hX (fun y hy => by
  rcases hy with hy | hy | hy | hy | hy | hy
  · exact .inl (.inl hy)
  · exact .inl (.inr (.inl hy))
  · exact .inl (.inr (.inr (.inl hy)))
  · exact (hqn y hy).elim (fun e => .inl (.inr (.inr (.inr (.inl e))))) fun e => .inr (.inr e)
  · exact .inl (.inr (.inr (.inr (.inr hy))))
  · exact .inr (.inl hy)) (⟨hb2, hb3, hb4, hrw, (by rw [htk]; exact PiecesAt.snoc (PiecesAt.mono hps fun z hz => .inl hz) (PieceAt.ofOwn hown fun z hz => .inr hz)), fun y hy => ⟨Nat.le_add_left _ _, hy.elim (fun e => Nat.lt_of_lt_of_le (hGW y e).2 hzw) (hol y)⟩⟩))
  · obtain ⟨q, cq, R, G⟩ := z
    obtain ⟨hb2, hb3, hb4, hrw, hps, hGl⟩ := hJ
    dsimp only at hb4 hrw hps hGl
    rw [← hlen, List.take_length] at hps
    rw [← hlen] at hb4 hrw
    have hbig : ∀ y, (y = b2 ∨ y = b3 ∨ y = b4 ∨ OwnB (some ⟨b9, 0, none⟩) y ∨ OwnB q1 y) → w.heap.size ≤ y := fun y e => by
      rcases e with e | e | e | e | e
      · omega
      · omega
      · omega
      · cases e; omega
      · exact hn1 y e
    have hlog := hlog.ext hE fun y hy e => by have := hbig y e; have := hHlt y hy; omega
    have hEW := hE.size
    have hX : Ext No w W := hX.trans hE fun y hy e => by have := hbig y e; omega
    have hXW := hX.size
    have hnG : ∀ y, G y → w.heap.size ≤ y := fun y hy => (hsub y (.inr (.inr (.inr (.inr hy))))).elim (hbig y) fun e => by omega
    have hnq : ∀ y, OwnB q y → w.heap.size ≤ y := fun y hy => (hsub y (.inr (.inr (.inr (.inl hy))))).elim (hbig y) fun e => by omega
    have nd2 : b2 ≠ DD := hnd _ (.inl rfl)
    have nd3 : b3 ≠ DD := hnd _ (.inr (.inl rfl))
    have ndq : ∀ y, OwnB q y → y ≠ DD := fun y hy => hnd _ (.inr (.inr (.inr (.inl hy))))
    have ndG : ∀ y, G y → y ≠ DD := fun y hy => hnd _ (.inr (.inr (.inr (.inr hy))))
    refine f_blockN (f_then (c_seq (c_draw rfl 8 [(0, true), (1, true), (3, true), (4, true), (5, true), (2, false), (6, true), (7, false)] [8] (fun y => y = b2 ∨ y = b3) (by kernel_rfl) fun w12 hE12 hs12 => ?_)))
    have hd2 := hb2
    have hd3 := hb3
    have hd4 := hb4
    have hGld := hGl
    have hmkd := hmk
    have hlogd := hlog
    have hrwd := hrw
    have hpsd := hps
    have hXd := hX
    have hb2 := hb2.extNo hE12
    have hb3 := hb3.extNo hE12
    have hb4 := hb4.extNo hE12
    have hGl := fun y (hy : G y) => And.intro (hGl y hy).1 (Nat.lt_of_lt_of_le (hGl y hy).2 hE12.size)
    have hmk := hl_ext hmk hE12 id
    have hlog := hlog.extNo hE12
    have hrw := hrw.ext hE12 fun _ _ => id
    have hps := hps.ext hE12 fun _ _ _ => id
    have hX := hX.thenNo hE12
    have hC : Ext (fun y => y = b2 ∨ y = b3) _ w12 := hE12.no
    refine wd_ld I_ok rfl rfl (fun w' hw' => (hd4.ext (show Ext (fun y => y = b2 ∨ y = b3) _ w' from hw') fun e => by have e : _ = _ ∨ _ = _ := e; omega).cell rfl) ?_
    refine wd_k I_ok 1 rfl (wd_ld I_ok rfl rfl (fun w' hw' => (hd4.ext (show Ext (fun y => y = b2 ∨ y = b3) _ w' from hw') fun e => by have e : _ = _ ∨ _ = _ := e; omega).cell rfl) ?_)
    refine wd_k I_ok 2 rfl ?_
    rw [IntWalk.i64_in _ (by omega)]
    have hbo2 := hb2
    have hbo3 := hb3
    refine wd_l rfl (st_call Tryd.call30 rfl rfl rfl rfl rfl rfl (logLen_calls w12 hlog (by omega)) fun v13 w13 hr13 => ⟨(by obtain ⟨rfl, hE13⟩ := hr13; exact hC.thenNo hE13), ?_⟩)
    obtain ⟨rfl, hE13⟩ := hr13
    have hb2 := hb2.extNo hE13
    have hb3 := hb3.extNo hE13
    have hb4 := hb4.extNo hE13
    have hGl := fun y (hy : G y) => And.intro (hGl y hy).1 (Nat.lt_of_lt_of_le (hGl y hy).2 hE13.size)
    have hmk := hl_ext hmk hE13 id
    have hlog := hlog.extNo hE13
    have hrw := hrw.ext hE13 fun _ _ => id
    have hps := hps.ext hE13 fun _ _ _ => id
    have hX := hX.thenNo hE13
    have hC := hC.thenNo hE13
    refine wd_k I_ok 1 rfl ?_
    have hbo2 := hb2
    have hbo3 := hb3
    refine wd_l rfl (st_st I_ok hb2 rfl rfl rfl fun w14 hb2 hE14 hs14 => ⟨hC.then (hE14.mono fun _ _ e => by have e : _ = _ := e; show _ = _ ∨ _ = _; omega), ?_⟩)
    have hC := hC.then (hE14.mono fun _ _ e => by have e : _ = _ := e; show _ = _ ∨ _ = _; omega)
    have hb3 := hb3.ext1 hE14 ne2_3.symm
    have hb4 := hb4.ext1 hE14 ne2_4.symm
    have hGl := fun y (hy : G y) => And.intro (hGl y hy).1 (Nat.lt_of_lt_of_le (hGl y hy).2 hE14.size)
    have hmk := hl_ext hmk hE14 nd2.symm
    have hlog := hlog.ext hE14 fun y hy e => by have e : y = b2 := e; have := hHlt y hy; omega
    have hrw := hrw.extTy hE14 hbo2 (by decide)
    have hps := hps.ext hE14 fun y _ ht e => by have e : y = b2 := e; subst e; exact ht.ne hbo2 (by decide) rfl
    have hX := hX.thenNew hE14 fr2
    have hb2 : Blk w14 b2 28 ([.slice q W0.pieces.length cq]) := hb2
    refine wd_sw ?_
    have hbo3 := hb3
    refine wb rfl (st_st I_ok hb3 rfl rfl rfl fun w15 hb3 hE15 hs15 => ?_)
    have hb2 := hb2.ext1 hE15 ne2_3
    have hb4 := hb4.ext1 hE15 ne3_4.symm
    have hGl := fun y (hy : G y) => And.intro (hGl y hy).1 (Nat.lt_of_lt_of_le (hGl y hy).2 hE15.size)
    have hmk := hl_ext hmk hE15 nd3.symm
    have hlog := hlog.ext hE15 fun y hy e => by have e : y = b3 := e; have := hHlt y hy; omega
    have hrw := hrw.extTy hE15 hbo3 (by decide)
    have hps := hps.ext hE15 fun y _ ht e => by have e : y = b3 := e; subst e; exact ht.ne hbo3 (by decide) rfl
    have hX := hX.thenNew hE15 fr3
    have hb3 : Blk w15 b3 4 ([.bool true]) := by (have e := hb3; rw [decide_eq_true rfl] at e; exact e)
    refine wb_nil (f_then (c_ret (f_retMs [DD] (by simp) (fun x hx => by rw [List.mem_singleton.1 hx]; exact hmk) [.slice q W0.pieces.length cq, .bool true] (fun w20 hE20 => ?_) (.inl rfl))))
    refine ⟨⟨⟨b2, 0, rfl, ld_one I_ok rfl rfl ((hb2.ext hE20 (fun e => nd2 (List.mem_singleton.1 e))).cell rfl)⟩, ⟨b3, 0, rfl, ld_one I_ok rfl rfl ((hb3.ext hE20 (fun e => nd3 (List.mem_singleton.1 e))).cell rfl)⟩, trivial⟩, ?_⟩
    have hrw := hrw.ext hE20 fun y hy e => ndq y hy (List.mem_singleton.1 e)
    have hps := hps.ext hE20 fun y hy _ e => ndG y hy (List.mem_singleton.1 e)
    have hXf := hX.trans hE20 fun x hx e => by rw [List.mem_singleton.1 e] at hx; omega
    have hWf := hX.size
    exact ⟨_, fun y => G y ∨ OwnB q y, rfl, ⟨q, cq, R, rfl, hrw.cap, hrw.sl, PiecesAt.mono hps fun z hz => .inl hz, fun y off e _ => .inr (OwnB.of hrw e)⟩, fun y hy => hy.elim (fun e => ⟨hnG y e, Nat.lt_of_lt_of_le (hGl y e).2 hE20.size⟩) fun e => ⟨hnq y e, hrw.lt e⟩, hXf⟩
  · exact hJ.elim
end Go.Proofs.YtlfdlodcjiaiiaaDoor
namespace Go.Proofs.YtlfdlodcjiaiiaaDoor
open Go.Vc
def Calm (D : Dsk) : Prop := D.dead = false ∧ D.fuse = -1 ∧ D.fault = -1
theorem begin_calm {D : Dsk} (h : Calm D) {i : Int} (hi : 0 ≤ i ∧ i < D.secs.length) (b : Bool) : (D.begin i b).2 = 0 ∧ Calm (D.begin i b).1 := by
  obtain ⟨h1, h2, h3⟩ := h
  unfold Dsk.begin
  rw [if_neg (by rw [h1]; decide), if_neg (by simpa using hi), if_neg (by rw [h3]; decide), if_neg (by rw [h2]; simp)]
  refine ⟨rfl, h1, ?_, ?_⟩
  · simp [fuseTo, h2]
  · simp [faultTo, h3]
theorem write_calm {D : Dsk} (h : Calm D) {i : Int} (hi : 0 ≤ i ∧ i < D.secs.length) (b : Bytes) : (D.write i b).2 = 0 ∧ Calm (D.write i b).1 := by
  obtain ⟨h1, h2⟩ := begin_calm h hi true
  unfold Dsk.write
  dsimp only
  rw [if_pos h1]
  exact ⟨h1, h2⟩
theorem sync_calm {D : Dsk} (h : Calm D) (hs : 0 < D.secs.length) : D.sync.2 = 0 ∧ Calm D.sync.1 := by
  obtain ⟨h1, h2⟩ := begin_calm h (i := 0) (by omega) true
  unfold Dsk.sync
  dsimp only
  rw [if_pos h1]
  exact ⟨h1, h2⟩
theorem layD_calm : ∀ (l : List Bytes) {D : Dsk} {at_ : Int}, Calm D → 0 ≤ at_ → at_ + l.length ≤ D.secs.length → 0 < D.secs.length → (layD D at_ l).2 = 0 ∧ Calm (layD D at_ l).1
  | [], D, at_, h, _, _, hs => sync_calm h hs
  | b :: r, D, at_, h, h0, h1, hs => by
    rw [List.length_cons] at h1
    obtain ⟨a1, a2⟩ := write_calm h (i := at_) (by omega) b
    unfold layD
    rw [if_neg (by rw [a1]; decide)]
    exact layD_calm r a2 (by omega) (by rw [D.write_secs]; omega) (by rw [D.write_secs]; exact hs)
theorem beginD_calm {D : Dsk} (h : Calm D) {t n : Nat} {x : Bytes} (hx : sectN x.length ≤ n) (hs : 2 + 2 * n ≤ D.secs.length) : (beginD D t n x).2 = 0 ∧ Calm (beginD D t n x).1 := by
  have ha : areaB t n ≤ 2 + n := by unfold areaB; split <;> omega
  obtain ⟨a1, a2⟩ := layD_calm (pieceB t 0 x) h (Int.natCast_nonneg (areaB t n)) (by rw [pieceB_length]; omega) (by omega)
  unfold beginD
  dsimp only
  rw [if_neg (by rw [a1]; decide)]
  exact layD_calm _ a2 (Int.natCast_nonneg _) (by rw [layD_secs]; simp; omega) (by rw [layD_secs]; omega)
theorem formatW_calm {D : Dsk} (h : Calm D) {a : Nat} (ha : 4 ≤ a ∧ a ≤ 1000) (hs : 2 + 2 * a ≤ D.secs.length) : (formatW D (a : Int)).2 = 0 ∧ Calm (formatW D (a : Int)).1 := by
  rw [formatW_yes ⟨ha.1, ha.2, hs⟩]
  obtain ⟨a1, a2⟩ := layD_calm (List.replicate (2 + 2 * a) zeros) h (at_ := 0) (by omega) (by rw [List.length_replicate]; omega) (by omega)
  rw [if_neg (by rw [a1]; decide)]
  exact beginD_calm a2 (by show 1 ≤ a; omega) (by rw [layD_secs]; exact hs)
theorem append_calm {W : Wl} (h : Calm W.D) (hW : Wl.Ok W) (b : Bytes) : (W.append b).2 = W.refuses b ((W.size : Int) - W.used) ∧ Calm (W.append b).1.D ∧ (W.append b).1.size = W.size ∧ (W.append b).1.turn = W.turn ∧ (W.refuses b ((W.size : Int) - W.used) = 0 → (W.append b).1 = { W with D := (W.append b).1.D, broken := false, pieces := W.pieces ++ [b], used := W.used + sectN b.length }) ∧ (W.refuses b ((W.size : Int) - W.used) ≠ 0 → (W.append b).1 = W) := by
  by_cases hr : W.refuses b ((W.size : Int) - W.used) = 0
  · obtain ⟨y, hy⟩ : ∃ y, y = layD W.D ((areaB W.turn W.size + W.used : Nat) : Int) (pieceB W.turn W.pieces.length b) := ⟨_, rfl⟩
    have hrm : W.used + sectN b.length ≤ W.size := by
      have h0 := hr
      unfold Wl.refuses at h0
      split at h0
      · cases h0
      · split at h0
        · cases h0
        · split at h0
          · cases h0
          · omega
    have ha : areaB W.turn W.size ≤ 2 + W.size := by unfold areaB; split <;> omega
    have hss := hW.secs
    obtain ⟨a1, a2⟩ := layD_calm (pieceB W.turn W.pieces.length b) h (Int.natCast_nonneg (areaB W.turn W.size + W.used)) (by rw [pieceB_length]; omega) (by omega)
    rw [← hy] at a1 a2
    rw [append_ok hr hy a1, hr]
    exact ⟨rfl, a2, rfl, rfl, fun _ => rfl, fun e => absurd rfl e⟩
  · rw [append_no hr]
    exact ⟨rfl, h, rfl, rfl, fun e => absurd e hr, fun _ => rfl⟩
theorem ckp_calm {W : Wl} (h : Calm W.D) (hW : Wl.Ok W) (b : Bytes) (r : Int) (hr0 : r = W.refuses b (if W.turn = 4294967295 then 0 else (W.size : Int))) : (W.checkpoint b).2 = r ∧ Calm (W.checkpoint b).1.D ∧ (W.checkpoint b).1.size = W.size ∧ (r = 0 → (W.checkpoint b).1 = { W with D := (W.checkpoint b).1.D, broken := false, turn := W.turn + 1, pieces := [b], used := sectN b.length }) ∧ (r ≠ 0 → (W.checkpoint b).1 = W) := by
  subst hr0
  by_cases hr : W.refuses b (if W.turn = 4294967295 then 0 else (W.size : Int)) = 0
  · obtain ⟨y, hy⟩ : ∃ y, y = beginD W.D (W.turn + 1) W.size b := ⟨_, rfl⟩
    have hrm : sectN b.length ≤ W.size := by
      have h0 := hr
      unfold Wl.refuses at h0
      split at h0
      · cases h0
      · split at h0
        · cases h0
        · by_cases ht : W.turn = 4294967295
          · rw [if_pos ht] at h0
            by_cases h6 : (0 : Int) < sectN b.length
            · rw [if_pos h6] at h0; cases h0
            · omega
          · rw [if_neg ht] at h0
            by_cases h6 : (W.size : Int) < sectN b.length
            · rw [if_pos h6] at h0; cases h0
            · omega
    obtain ⟨a1, a2⟩ := beginD_calm h (t := W.turn + 1) hrm hW.secs
    rw [← hy] at a1 a2
    rw [ckp_ok hr hy a1, hr]
    exact ⟨rfl, a2, rfl, fun _ => rfl, fun e => absurd rfl e⟩
  · rw [ckp_no hr]
    exact ⟨rfl, h, rfl, fun e => absurd e hr, fun _ => rfl⟩
theorem put_fine {W : Wl} {m : Nat} (hok : W.D.Ok m) (hW : Wl.Ok W) (o : DeedD) : (putD W o).1.D.Ok (m + 2000) ∧ Wl.Ok (putD W o).1 := by
  unfold putD
  split
  · exact ckp_fine hok hW _
  · exact append_fine hok hW _
theorem put_calm {W : Wl} (h : Calm W.D) (hW : Wl.Ok W) (o : DeedD) : Calm (putD W o).1.D ∧ (putD W o).1.size = W.size ∧ (putD W o).1.pieces = (if (putD W o).2 = 0 then thenD W.pieces o else W.pieces) ∧ (W.broken = false → (putD W o).1.broken = false) := by
  unfold putD thenD
  by_cases hw : whichD o = 1
  · rw [if_pos hw, if_pos hw]
    obtain ⟨r, hr⟩ : ∃ r, r = W.refuses (bytesD o) (if W.turn = 4294967295 then 0 else (W.size : Int)) := ⟨_, rfl⟩
    obtain ⟨a1, a2, a3, a4, a5⟩ := ckp_calm h hW (bytesD o) r hr
    refine ⟨a2, a3, ?_, fun hb => ?_⟩
    · rw [a1]
      split
      · rename_i h0; rw [a4 h0]
      · rename_i h0; rw [a5 h0]
    · by_cases h0 : r = 0
      · rw [a4 h0]
      · rw [a5 h0]; exact hb
  · rw [if_neg hw, if_neg hw]
    obtain ⟨a1, a2, a3, a3', a4, a5⟩ := append_calm h hW (bytesD o)
    refine ⟨a2, a3, ?_, fun hb => ?_⟩
    · rw [a1]
      split
      · rename_i h0; rw [a4 h0]
      · rename_i h0; rw [a5 h0]
    · by_cases h0 : W.refuses (bytesD o) ((W.size : Int) - W.used) = 0
      · rw [a4 h0]
      · rw [a5 h0]; exact hb
theorem fresh_calm (n : Nat) : Calm (Dsk.fresh n) := ⟨rfl, rfl, rfl⟩
/-- a log to which deeds were done -/
def stepD (W : Wl) (o : DeedD) : Wl := if 1 < whichD o then W else (putD W o).1
def livedD (a : Nat) (l : List DeedD) : Wl := l.foldl stepD (Wl.fresh (formatW (Dsk.fresh (2 + 2 * a)) (a : Int)).1 a)
structure LiveOk (a m : Nat) (W : Wl) : Prop where
  ok : Wl.Ok W
  dk : W.D.Ok m
  calm : Calm W.D
  size : W.size = a
  well : W.broken = false
theorem step_live {a m : Nat} {W : Wl} (h : LiveOk a m W) (o : DeedD) : LiveOk a (m + 2000) (stepD W o) := by
  unfold stepD
  split
  · exact ⟨h.ok, h.dk.mono (by omega), h.calm, h.size, h.well⟩
  · obtain ⟨h1, h2⟩ := put_fine h.dk h.ok o
    obtain ⟨h3, h4, h5, h6⟩ := put_calm h.calm h.ok o
    exact ⟨h2, h1, h3, h4.trans h.size, h6 h.well⟩
theorem start_live {a : Nat} (ha : 4 ≤ a ∧ a ≤ 1000) : (formatW (Dsk.fresh (2 + 2 * a)) (a : Int)).2 = 0 ∧ LiveOk a 6000 (Wl.fresh (formatW (Dsk.fresh (2 + 2 * a)) (a : Int)).1 a) := by
  have hok : (Dsk.fresh (2 + 2 * a)).Ok 0 := Dsk.Ok.fresh (by omega)
  obtain ⟨h1, h2⟩ := formatW_calm (fresh_calm (2 + 2 * a)) ha (by simp [Dsk.fresh])
  have h3 := (formatW_ok hok (a : Int)).1
  exact ⟨h1, (format_fine h1 hok).1, h3.mono (by omega), h2, rfl, rfl⟩
end Go.Proofs.YtlfdlodcjiaiiaaDoor
namespace Go.Proofs.YtlfdlodcjiaiiaaDoor
open Go.Vc
abbrev LvZ := (Nat → Prop) × (Nat → Prop) × Value × (Nat → Prop)
structure LvI (w u : World) (d x : Nat) (W : Wl) (T : List Bytes) (z : LvZ) : Prop where
  at_ : At u d z.1 W.D
  log : LogAt u x d z.2.1 W
  tale : TaleAt u z.2.2.2 T z.2.2.1
  lo : ∀ y, z.1 y ∨ z.2.1 y ∨ z.2.2.2 y → w.heap.size ≤ y ∧ y < u.heap.size
  hf : ∀ y, z.2.1 y → ¬ z.1 y
  gf : ∀ y, z.2.2.2 y → ¬ z.1 y ∧ ¬ z.2.1 y
  rt : Rt u
theorem LvI.ext {S : Nat → Prop} {w u u' : World} {d x : Nat} {W : Wl} {T : List Bytes} {z : LvZ} (h : LvI w u d x W T z) (hE : Ext S u u') (hS : ∀ y, z.1 y ∨ z.2.1 y ∨ z.2.2.2 y → ¬ S y) (h0 : ¬ S 0) : LvI w u' d x W T z :=
  ⟨h.at_.ext hE fun y hy => hS y (.inl hy), h.log.ext hE fun y hy => hS y (.inr (.inl hy)), h.tale.ext hE fun y hy => hS y (.inr (.inr hy)), fun y hy => ⟨(h.lo y hy).1, Nat.lt_of_lt_of_le (h.lo y hy).2 hE.size⟩, h.hf, h.gf, Rt.ext h.rt hE h0⟩
theorem LvI.extNo {w u u' : World} {d x : Nat} {W : Wl} {T : List Bytes} {z : LvZ} (h : LvI w u d x W T z) (hE : Ext No u u') : LvI w u' d x W T z := h.ext hE (fun _ _ => id) id
theorem LvI.put {w u u' : World} {d x : Nat} {W : Wl} {T : List Bytes} {z : LvZ} {r : Wl × Int} {v : Value} (h : LvI w u d x W T z) (hw : 0 < w.heap.size) (hX : Ext No w u) (hq : LogQ u x d z.1 z.2.1 r v u') :
    v = .int .i64 r.2 ∧ Ext No w u' ∧ Ext (fun y => z.1 y ∨ z.2.1 y) u u' ∧ ∃ F2 H2 : Nat → Prop, LvI w u' d x r.1 T (F2, H2, z.2.2.1, z.2.2.2) := by
  obtain ⟨rfl, F2, H2, h1, h2, h3, h4, h5, hE⟩ := hq
  have hs := hX.size
  have hs2 := hE.size
  have hl := h1.lt
  have hl2 := h2.lt
  refine ⟨rfl, hX.trans hE fun y hy e => ?_, hE, F2, H2, h1, h2, h.tale.ext hE fun y hy e => ?_, fun y hy => ?_, h5, fun y hy => ⟨fun e => ?_, fun e => ?_⟩, Rt.ext h.rt hE fun e => ?_⟩
  · rcases e with e | e
    · have := (h.lo y (.inl e)).1; omega
    · have := (h.lo y (.inr (.inl e))).1; omega
  · exact e.elim (h.gf y hy).1 (h.gf y hy).2
  · rcases hy with hy | hy | hy
    · refine ⟨(h3 y hy).elim (fun e => (h.lo y (.inl e)).1) fun e => by omega, hl y hy⟩
    · refine ⟨(h4 y hy).elim (fun e => (h.lo y (.inr (.inl e))).1) fun e => by omega, hl2 y hy⟩
    · have := h.lo y (.inr (.inr hy)); exact ⟨this.1, Nat.lt_of_lt_of_le this.2 hs2⟩
  · exact (h3 y e).elim (h.gf y hy).1 fun e => by have := (h.lo y (.inr (.inr hy))).2; omega
  · exact (h4 y e).elim (h.gf y hy).2 fun e => by have := (h.lo y (.inr (.inr hy))).2; omega
  · rcases e with e | e
    · have := (h.lo 0 (.inl e)).1; omega
    · have := (h.lo 0 (.inr (.inl e))).1; omega
theorem LvI.then {w u u' : World} {d x : Nat} {W : Wl} {T T' : List Bytes} {z : LvZ} {G' : Nat → Prop} {r : Value} (h : LvI w u d x W T z) (hX : Ext No w u) (hE : Ext No u u') (ht : TaleAt u' G' T' r) (h1 : ∀ y, G' y → z.2.2.2 y ∨ u.heap.size ≤ y) (h2 : ∀ y, G' y → y < u'.heap.size) : LvI w u' d x W T' (z.1, z.2.1, r, G') := by
  have hs := hX.size
  have h' := h.extNo hE
  refine ⟨h'.at_, h'.log, ht, fun y hy => ?_, h.hf, fun y hy => ⟨fun e => ?_, fun e => ?_⟩, h'.rt⟩
  · rcases hy with hy | hy | hy
    · exact h'.lo y (.inl hy)
    · exact h'.lo y (.inr (.inl hy))
    · exact ⟨(h1 y hy).elim (fun e => (h.lo y (.inr (.inr e))).1) fun e => by omega, h2 y hy⟩
  · exact (h1 y hy).elim (fun g => (h.gf y g).1 e) fun g => by have := (h.lo y (.inl e)).2; omega
  · exact (h1 y hy).elim (fun g => (h.gf y g).2 e) fun g => by have := (h.lo y (.inr (.inl e))).2; omega
theorem deed_len (o : DeedD) : o.cells.length = 4 := rfl
theorem deed_one (o : DeedD) : ∀ v ∈ o.cells, v.oneCell' = true := fun v hv => by
  simp only [DeedD.cells, List.mem_cons, List.not_mem_nil, or_false] at hv
  rcases hv with rfl | rfl | rfl | rfl <;> rfl
theorem livedD_step (a : Nat) (L : List DeedD) {i : Nat} (hi : i < L.length) : livedD a (L.take (i + 1)) = stepD (livedD a (L.take i)) L[i] := by
  unfold livedD
  rw [List.take_succ_eq_append_getElem hi, List.foldl_append]
  rfl
theorem live_take {a : Nat} (ha : 4 ≤ a ∧ a ≤ 1000) (L : List DeedD) : ∀ i, i ≤ L.length → LiveOk a (6000 + 2000 * i) (livedD a (L.take i))
  | 0, _ => (start_live ha).2
  | i + 1, h => by
    rw [livedD_step a L (show i < L.length by omega)]
    have := step_live (live_take ha L i (by omega)) L[i]
    rwa [show 6000 + 2000 * (i + 1) = 6000 + 2000 * i + 2000 from by omega]
theorem some_calls (w : World) {p : Option Addr} {n c : Nat} (hn : n ≤ c) :
    CallsV Tryd.prog 11 [.slice p n c] w fun v w' => v = .slice p (min n 36) c ∧ w' = w := by
  refine calls_enter Tryd.func11 rfl rfl rfl rfl ?_
  have hX := Ext.refl No w
  refine c_seq (c_region (wl_p I_ok rfl (wl_nil (f_then (c_seq (c_region (wl_p I_ok rfl ?_)))))))
  refine wl (st_sl I_ok rfl 0 (min n 36) c 4 rfl (.inr ⟨rfl, rfl⟩) (.inl (congrArg some (minI _ _))) (.inr ⟨rfl, rfl⟩) (Nat.zero_le _) (by omega) (Nat.le_refl _) ?_)
  rw [slBase_zero, Nat.sub_zero, Nat.sub_zero]
  refine wl_p I_ok rfl (wl_nil (f_then (c_ret (f_ret1 rfl rfl ?_))))
  exact ⟨rfl, rfl⟩

theorem lived_calls (w : World) (hr : Rt w) {a : Nat} (ha : 4 ≤ a ∧ a ≤ 1000) {p : Option Addr} {c : Nat} {l : List DeedD} (hs : Sl w p l.length 4 (l.flatMap DeedD.cells)) (hc : l.length ≤ c) :
    CallsV Tryd.prog 9 [.int .i64 (a : Int), .slice p l.length c] w fun v w' => ∃ (d x : Nat) (z : LvZ), v = .tuple #[.pointer (some ⟨d, 0, none⟩), .pointer (some ⟨x, 0, none⟩), z.2.2.1, .bool true] ∧ LvI w w' d x (livedD a (l.take 36)) (livedD a (l.take 36)).pieces z ∧ Ext No w w' := by
  refine calls_enter Tryd.func9 rfl rfl rfl rfl ?_
  have hX := Ext.refl No w
  have hr0 := hr.lt
  have hrt := hr
  have hsl := hs
  have hn36 : (l.take 36).length = min l.length 36 := by rw [List.length_take, Nat.min_comm]
  obtain ⟨hf0, hlive0⟩ := start_live ha
  refine c_seq (c_region (wl_p I_ok rfl (wl_nil (f_then (c_seq (c_region (wl_p I_ok rfl ?_)))))))
  rw [IntWalk.i64_in (2 * (a : Int)) (by omega)]
  refine wl_p I_ok rfl ?_
  rw [IntWalk.i64_in _ (by omega)]
  rw [show (2 : Int) + 2 * (a : Int) = ((2 + 2 * a : Nat) : Int) from by omega]
  refine wl (st_call Tryd.call36 rfl rfl rfl rfl rfl rfl (new_calls w (n := 2 + 2 * a) (by omega)) fun v1 w1 hr1 => ?_)
  obtain ⟨d, F1, rfl, hA, hFn, hE1⟩ := hr1
  have hrt := Rt.ext hrt hE1 id
  have hX := hX.thenNo hE1
  have hX1 := hX.size
  refine wl_p I_ok rfl (wl_nil (f_then (c_seq (c_seq (c_region (wl_p I_ok rfl (wl_nil (f_then (c_condF rfl (c_skip (f_then (c_seq (c_region (wl_p I_ok rfl ?_))))))))))))))
  refine wl (st_call Tryd.call26 rfl rfl rfl rfl rfl rfl (format_calls w1 hA (Dsk.Ok.fresh (by omega)) (by decide) (a : Int) (by omega) hrt (fun e => by have := hFn 0 e; omega)) fun v2 w2 hr2 => ?_)
  obtain ⟨xo, F2, rfl, hA2, hE2, hFs2, hno, hlo⟩ := hr2
  have hX := hX.trans hE2 fun y hy e => by have := hFn y e; omega
  have hrt := Rt.ext hrt hE2 fun e => by have := hFn 0 e; omega
  obtain ⟨x, H, rfl, hlog, hH⟩ := hlo hf0
  rw [Int.toNat_natCast] at hlog
  have hA2l := hA2.lt
  have hlogl := hlog.lt
  rw [hf0]
  have hlv : LvI w w2 d x (livedD a (l.take 0)) [] (F2, H, .slice none 0 0, fun _ => False) := ⟨hA2, hlog, ⟨none, 0, [], rfl, Nat.le_refl _, Sl.nil _ _ _, ⟨rfl, fun i b v h => by cases h⟩, fun y off e => by cases e⟩, fun y hy => by
    rcases hy with hy | hy | hy
    · exact ⟨(hFs2 y hy).elim (hFn y) fun e => by omega, hA2l y hy⟩
    · exact ⟨by have := (hH y hy).1; omega, hlogl y hy⟩
    · exact hy.elim, fun y hy => (hH y hy).2, fun y hy => hy.elim, hrt⟩
  refine wl_p I_ok rfl (wl_nil (f_then (c_seq (c_seq (c_region (wl_p I_ok rfl (wl_nil (f_then (c_condF rfl (c_skip (f_then (c_seq (c_region ?_)))))))))))))
  have hlvo := hlv
  have hXo := hX
  refine wl (st_bs I_ok rfl 1 rfl rfl rfl (by decide) (by decide) (by simp [partsOk]) (l' := [.slice none 0 0]) rfl fun b33 w3 hn33 hb33 hE3 hs3 => ?_)
  have fr33 := Nat.le_trans hX.size hn33
  have hlv := hlv.extNo hE3
  have hX := hX.thenNo hE3
  have hlv : LvI w w3 d x (livedD a ((l.take 36).take 0)) (livedD a ((l.take 36).take 0)).pieces (F2, H, .slice (some ⟨b33, 0, none⟩) 1 1, fun y => y = b33) := by
    have h33 := hb33.lt
    exact hlvo.then hXo hE3 ⟨some ⟨b33, 0, none⟩, 1, [.slice none 0 0], rfl, Nat.le_refl _, ⟨rfl, .inr ⟨b33, 0, rfl, hb33.seg⟩⟩, PiecesAt.snoc (ps := []) (rows := []) ⟨rfl, fun i b v h => by cases h⟩ (nil_piece _ _), fun y off e _ => by cases e; rfl⟩ (fun y hy => .inr (by rw [show y = b33 from hy]; exact hn33)) fun y hy => by rw [show y = b33 from hy]; exact h33
  refine wl_p I_ok rfl (wl_nil (f_then (c_seq (c_seq (c_region (wl_p I_ok rfl (wl (st_call Tryd.call11 rfl rfl rfl rfl rfl rfl (some_calls w3 hc) fun v4 w4 hr4 => ?_))))))))
  obtain ⟨rfl, rfl⟩ := hr4
  refine wl_p I_ok rfl (wl_nil (f_then (c_block ?_)))
  refine c_loopK (α := Nat × LvZ) [8, 10, 35, 36] rfl (fun z => [(11, z.2.2.2.1), (37, .int .i64 (z.1 : Int))]) (fun z u => (z.1 ≤ (l.take 36).length ∧ LvI w u d x (livedD a ((l.take 36).take z.1)) (livedD a ((l.take 36).take z.1)).pieces z.2) ∧ Ext No w u) (fun z u => (l.take 36).length - z.1) (0, (F2, H, .slice (some ⟨b33, 0, none⟩) 1 1, fun y => y = b33)) rfl ⟨⟨Nat.zero_le _, hlv⟩, hX⟩ ?_
  rintro ⟨i, z⟩ w5 ⟨⟨hi, hlv⟩, hX⟩
  try dsimp only
  dsimp only at hi hlv
  have hlive := live_take ha (l.take 36) i hi
  obtain ⟨W, hWd⟩ : ∃ W, W = livedD a ((l.take 36).take i) := ⟨_, rfl⟩
  rw [← hWd] at hlv hlive
  refine c_seq (c_region (wl_p I_ok rfl (wl_nil (f_then (c_seq (c_if rfl (fun hc => ?_) (fun hc => ?_)))))))
  · have hil : i < (l.take 36).length := by omega
    have hi2 : i < l.length := by omega
    have hsw : Sl w5 p l.length 4 (l.flatMap DeedD.cells) := hsl.extNo hX
    obtain ⟨pb, po, rfl, hsr⟩ := hsw.rowAll (fun r _ => deed_len r) (by omega)
    have hlvl := hlv.lo
    refine c_skip (f_then (c_cutK (α := LvZ) [8, 10, 35, 36, 37] rfl (fun z => [(11, z.2.2.1)]) (fun z u => (LvI w u d x (stepD W l[i]) (stepD W l[i]).pieces z) ∧ Ext No w u) ?_ ?_))
    · refine c_block ?_
      refine c_seq (c_region (wl (st_ix I_ok rfl 4 rfl i rfl (by omega) (po + i * 4) rfl (wl (st_ldN I_ok rfl (hsr i hi2) (deed_len _) ?_)))))
      have hlvb := hlv.lo
      refine wl (st_al I_ok rfl fun b13 w6 hn13 hb13 hE6 => ?_)
      have fr13 := Nat.le_trans hX.size hn13
      have hlv := hlv.extNo hE6
      have hX := hX.thenNo hE6
      have hnb : ∀ y, z.1 y ∨ z.2.1 y ∨ z.2.2.2 y → y ≠ b13 := fun y hy e => by have := (hlvb y hy).2; omega
      refine wl (st_stW (l' := (l[i]).cells) I_ok hb13 rfl rfl (deed_len _) (deed_len _) (deed_one _) fun w7 hb13 hE7 hs7 => ?_)
      have hlv := hlv.ext hE7 (fun y hy e => by have e : y = b13 := e; exact hnb y hy e) (fun e => by have e : 0 = b13 := e; omega)
      have hX := hX.thenNew hE7 fr13
      have hb13 : Blk w7 b13 36 ((l[i]).cells) := hb13
      refine wl_nil (f_then (c_seq (c_seq (c_region (wl (st_ldB I_ok hb13 rfl rfl (wl (st_call Tryd.call12 rfl rfl rfl rfl rfl rfl (which_calls w7 l[i]) fun v8 w8 hr8 => ?_))))))))
      obtain ⟨rfl, hE8⟩ := hr8
      have hb13 := hb13.extNo hE8
      have hlv := hlv.extNo hE8
      have hX := hX.thenNo hE8
      refine wl_p I_ok rfl (wl_nil (f_then (c_if rfl (fun hc => ?_) (fun hc => ?_))))
      · have hst : stepD W l[i] = W := if_pos (by omega)
        refine c_exit ?_
        exact f_thenE (f_blockE (f_cut (z) rfl ⟨(by rw [hst]; exact hlv), hX⟩))
      · have hst : stepD W l[i] = (putD W l[i]).1 := if_neg (by omega)
        have hlive2 := step_live hlive l[i]
        rw [hst] at hlive2
        refine c_skip (f_then (c_cutK (α := LvZ) [8, 10, 35, 36, 37] rfl (fun z => [(11, z.2.2.1)]) (fun z u => (LvI w u d x (putD W l[i]).1 (putD W l[i]).1.pieces z) ∧ Blk u b13 36 ((l[i]).cells) ∧ Ext No w u) ?_ ?_))
        · refine c_seq ?_
          refine c_region (wl_p I_ok rfl (wl (st_ldB I_ok hb13 rfl rfl ?_)))
          refine wl (st_call Tryd.call14 rfl rfl rfl rfl rfl rfl (lput_calls w8 l[i] hlv.log hlv.at_ hlive.dk (by omega) hlive.ok hlv.rt (fun e => by have := (hlv.lo 0 (.inl e)).1; omega) hlv.hf) fun v9 w9 hr9 => ?_)
          obtain ⟨rfl, hq2⟩ := hr9
          obtain ⟨_, hXp, hEp, F3, H3, hlv3⟩ := hlv.put hr0 hX ⟨rfl, hq2⟩
          have hb13 := hb13.ext hEp fun e => (e.elim (fun e => hnb _ (.inl e) rfl) fun e => hnb _ (.inr (.inl e)) rfl)
          have hX := hXp
          have hpc := (put_calm hlive.calm hlive.ok l[i]).2.2.1
          have hpl := hlive.ok.few
          have hpz := hlive.ok.size.2
          refine wl_p I_ok rfl (wl_nil (f_then (c_if rfl (fun hc => ?_) (fun hc => ?_))))
          · refine c_region ?_
            refine wl_p I_ok rfl (wl (st_ldB I_ok hb13 rfl rfl ?_))
            have hlv3o := hlv3
            have hX3 := hX
            refine wl (st_call Tryd.call15 rfl rfl rfl rfl rfl rfl (then_calls w9 l[i] hlv3.tale (fun y hy => (hlv3.lo y (.inr (.inr hy))).2) (by omega)) fun v10 w10 hr10 => ?_)
            obtain ⟨G4, ht4, hG4, hG4l, hE10⟩ := hr10
            have hb13 := hb13.extNo hE10
            have hlv3 := hlv3.extNo hE10
            have hX := hX.thenNo hE10
            have hlv4 := hlv3o.then hX3 hE10 ht4 hG4 hG4l
            obtain ⟨tv4, htv4⟩ : ∃ t, t = v10 := ⟨_, rfl⟩
            rw [← htv4] at hlv4 ⊢
            refine wl_p I_ok rfl (wl_nil ?_)
            exact f_cut ((F3, H3, tv4, G4)) rfl ⟨(by rw [hpc, if_pos hc]; exact hlv4), hb13, hX⟩
          · refine c_skip ?_
            exact f_cut ((F3, H3, z.2.2.1, z.2.2.2)) rfl ⟨(by rw [hpc, if_neg hc]; exact hlv3), hb13, hX⟩
        rintro z3 w11 ⟨hlv5, hb13, hX⟩
        refine c_seq (c_region (wl_p I_ok rfl (wl (st_call Tryd.call16 rfl rfl rfl rfl rfl rfl (tells_calls w11 hlv5.log hlive2.ok) fun v12 w12 hr12 => ?_))))
        obtain ⟨tv6, G6, rfl, hta6, hG6, hE12⟩ := hr12
        have hb13 := hb13.extNo hE12
        have hlv5 := hlv5.extNo hE12
        have hX := hX.thenNo hE12
        refine wl_p I_ok rfl (wl_nil (f_then (c_cutK (α := Bool) [8, 10, 11, 35, 36, 37] rfl (fun z => [(63, .bool z)]) (fun z u => (z = false ∧ LvI w u d x (putD W l[i]).1 (putD W l[i]).1.pieces z3) ∧ Blk u b13 36 ((l[i]).cells) ∧ Ext No w u) ?_ ?_)))
        · refine c_region ?_
          refine wl_p I_ok rfl (wl_case 58 rfl (fun hg => ?_) (fun hg => ?_))
          · cases hg
          · refine wl_pk I_ok 2 rfl ?_
            refine wl (st_call Tryd.call17 rfl rfl rfl rfl rfl rfl (is_calls w12 hlv5.tale hta6 (by have := hlive2.ok.few; have := hlive2.ok.size.2; omega)) fun v13 w13 hr13 => ?_)
            obtain ⟨rfl, hE13⟩ := hr13
            have hb13 := hb13.extNo hE13
            have hlv5 := hlv5.extNo hE13
            have hta6 := hta6.extNo hE13
            have hX := hX.thenNo hE13
            rw [decide_eq_true rfl]
            refine wl_pk I_ok 2 rfl (wl_nil ?_)
            exact f_cut (false) rfl ⟨⟨rfl, hlv5⟩, hb13, hX⟩
        rintro z w14 ⟨⟨rfl, hlv5⟩, hb13, hX⟩
        refine c_condF rfl (c_skip ?_)
        exact f_blockN (f_cut (z3) rfl ⟨(by rw [hst]; exact hlv5), hX⟩)
    rintro z2 w15 ⟨hlv2, hX⟩
    refine c_region (wl_p I_ok rfl ?_)
    rw [IntWalk.i64_in _ (by omega)]
    refine wl_nil ?_
    exact f_round (i + 1, z2) rfl ⟨⟨by dsimp only; omega, by dsimp only; rw [livedD_step a (l.take 36) hil, ← hWd, List.getElem_take]; exact hlv2⟩, hX⟩ (by first | omega | (dsimp only; omega))
  · have hil : i = (l.take 36).length := by omega
    rw [hil, List.take_length] at hWd
    refine c_exit (f_thenE (f_thenE (f_blockE (f_then (c_seq (c_region (wl_p I_ok rfl (wl_nil (f_then (c_ret (f_ret [_, _, _, _] ⟨rfl, rfl, rfl, rfl, trivial⟩ ?_)))))))))))
    exact ⟨d, x, z, rfl, by rw [← hWd]; exact hlv, hX⟩
end Go.Proofs.YtlfdlodcjiaiiaaDoor
namespace Go.Proofs.YtlfdlodcjiaiiaaDoor
open Go.Vc Go.WideShapes Go.ChangeShapes Go.ChangeAt Go.RowKit
/-- what a deed keeps stands in memory -/
def DeedAt (w : World) (o : DeedD) : Prop := Sl w o.p o.keep.length 1 (o.keep.map Value.bool) ∧ o.keep.length ≤ o.c ∧ (o.keep ≠ [] → ∀ b off, o.p = some ⟨b, off, none⟩ → b < w.heap.size)
theorem list_four {α : Type} : ∀ {cs : List α}, cs.length = 4 → ∃ a b c d, cs = [a, b, c, d]
  | [a, b, c, d], _ => ⟨a, b, c, d, rfl⟩
section
variable {H : Type} {enc : TypeId × Value → H} {W : World} {sp : Nat → Bool} {held : Bool}
theorem open_num {fuel : Nat} {cs : List Value} {x : DataW H × List MemPlace} (h : DataW.trod enc Tryd.prog W 0 sp held fuel 3 cs = some x) : ∃ n : Int, cs = [.int .i64 n] := by
  obtain ⟨n, rfl, _, hw⟩ := DataW.trod_int Tryd.underlying3 h
  exact ⟨n, rfl⟩
theorem open_deed {fuel : Nat} {cs : List Value} {x : DataW H × List MemPlace} (h : DataW.trod enc Tryd.prog W 0 sp held fuel 36 cs = some x) : ∃ o : DeedD, cs = o.cells ∧ DeedAt W o := by
  obtain ⟨xs, k, rfl, _, hlen, hxs, hf⟩ := DataW.trod_struct Tryd.underlying36 h
  have k36 : Tryd.prog.cellsOf 36 = 4 := by kernel_rfl
  have k3 : Tryd.prog.cellsOf 3 = 1 := by kernel_rfl
  have k5 : Tryd.prog.cellsOf 5 = 1 := by kernel_rfl
  have k34 : Tryd.prog.cellsOf 34 = 1 := by kernel_rfl
  have hxs : xs.length = 4 := hxs
  have g0 : DataW.trod enc Tryd.prog W 0 sp held k 3 ((cs.drop 0).take (Tryd.prog.cellsOf 3)) = _ := hf 0 _ rfl
  have g1 : DataW.trod enc Tryd.prog W 0 sp held k 3 ((cs.drop 1).take (Tryd.prog.cellsOf 3)) = _ := hf 1 _ rfl
  have g2 : DataW.trod enc Tryd.prog W 0 sp held k 5 ((cs.drop 2).take (Tryd.prog.cellsOf 5)) = _ := hf 2 _ rfl
  have g3 : DataW.trod enc Tryd.prog W 0 sp held k 34 ((cs.drop 3).take (Tryd.prog.cellsOf 34)) = _ := hf 3 _ rfl
  rw [k3, List.getElem?_eq_getElem (by omega)] at g0 g1
  rw [k5, List.getElem?_eq_getElem (by omega)] at g2
  rw [k34, List.getElem?_eq_getElem (by omega)] at g3
  rw [k36] at hlen
  obtain ⟨n0, e0⟩ := open_num g0
  obtain ⟨n1, e1⟩ := open_num g1
  obtain ⟨n2, e2⟩ := open_byte g2
  obtain ⟨p, l, c, e3, hc, _, hs, _, hlt⟩ := open_list (cells := fun b => [Value.bool b]) (ok := fun _ => True) Tryd.underlying34 (by kernel_rfl : Tryd.prog.cellsOf 4 = 1) (by decide) (fun h => by obtain ⟨b, hb, _⟩ := DataW.trod_bool Tryd.underlying4 h; exact ⟨b, hb, trivial⟩) g3
  refine ⟨⟨n0, n1, n2, p, l, c⟩, ?_, ?_, hc, hlt⟩
  · clear g0 g1 g2 g3 hf
    obtain ⟨a, b, c', d, rfl⟩ := list_four hlen
    simp only [List.drop_zero, List.drop_succ_cons, List.take_succ_cons, List.take_zero, List.cons.injEq, and_true] at e0 e1 e2 e3
    rw [e0, e1, e2, e3]
    rfl
  · have e : l.flatMap (fun b => [Value.bool b]) = l.map Value.bool := by rw [List.map_eq_flatMap]
    rw [e] at hs
    exact hs
theorem open_deeds {fuel : Nat} {cs : List Value} {x : DataW H × List MemPlace} (h : DataW.trod enc Tryd.prog W 0 sp held fuel 22 cs = some x) :
    ∃ (p : Option Addr) (l : List DeedD) (c : Nat), cs = [.slice p l.length c] ∧ l.length ≤ c ∧ Sl W p l.length 4 (l.flatMap DeedD.cells) ∧ (∀ o ∈ l, DeedAt W o) ∧ (l ≠ [] → ∀ b off, p = some ⟨b, off, none⟩ → b < W.heap.size) := by
  obtain ⟨p, l, c, e, hc, _, hs, hin, hlt⟩ := open_list (cells := DeedD.cells) (ok := DeedAt W) Tryd.underlying22 (by kernel_rfl : Tryd.prog.cellsOf 36 = 4) (by decide) (fun h => open_deed h) h
  exact ⟨p, l, c, e, hc, hs, hin, hlt⟩
end
end Go.Proofs.YtlfdlodcjiaiiaaDoor
