/-
  Walks and laws towards: DagBasesSaid of package dag, walked
-/
import Derived.ChangeSame
import Derived.ReadAgain
import Derived.RowKit
import Derived.ChangeBears
import Derived.OpenShut
import Derived.Test.YtoapldhadeoeiaaGreatSmF
namespace Go.Proofs.YtoapldhadeoeiaaGreat
open Go.Vc
noncomputable def histE (h : Hp) (x : IdB) : List IdB := if h.closed x = 0 then h.hist x else []
noncomputable def baseE (h : Hp) (x y : IdB) : Int := if h.closed x ≠ 0 then h.closed x else h.closed y
noncomputable def baseO (h : Hp) (x y : IdB) : Option IdB := if baseE h x y = 0 then h.base x y else none
theorem pair_cl {h : Hp} {x y : IdB} (hall : ∀ z ∈ [x, y], h.closed z = 0) : h.closed x = 0 ∧ h.closed y = 0 ∧ baseE h x y = 0 := by
 have h1 := hall x (by simp)
 have h2 := hall y (by simp)
 exact ⟨h1, h2, by rw [baseE, if_neg fun k => k h1]; exact h2⟩
theorem pair_bad {h : Hp} {x y : IdB} {i : Nat} (hi : i < [x, y].length) (hall : ∀ z ∈ [x, y].take i, h.closed z = 0) (hb : h.closed [x, y][i] ≠ 0) : baseE h x y = h.closed [x, y][i] := by
 rcases i with _ | _ | i
 ·exact if_pos hb
 ·have := hall x (by simp)
  rw [baseE, if_neg fun k => k this]; rfl
 ·have : i + 1 + 1 < 2 := hi
  omega
theorem historyD_calls (w : World) {p : Option Addr} {c : Nat} {l : List HeldT} {x : IdB} (h : HpIn w p l) (hx : IdIn x) :
  CallsV Tryz.prog 30 [.agg #[.slice p l.length c], .agg (bytesU x).toArray] w fun v w' => ∃ q k, v = .tuple #[.slice q (histE (toHp l) x).length k, .int .i64 ((toHp l).closed x)] ∧ Sl w' q (histE (toHp l) x).length 32 ((histE (toHp l) x).flatMap bytesU) ∧ Ext No w w' := by
 refine calls_enter Tryz.func30 rfl rfl rfl rfl ?_
 have hX := Ext.refl No w
 refine c_seq (c_region (wl (st_al I_ok rfl fun b2 w1 hn2 hb2 hE1 => ?_)))
 have hX := hX.thenNo hE1
 have hb2 : Blk w1 b2 29 ([.slice p l.length c]) := hb2
 refine wl (st_al I_ok rfl fun b3 w2 hn3 hb3 hE2 => ?_)
 have hb2 := hb2.extNo hE2
 have hX := hX.thenNo hE2
 have hb3 : Blk w2 b3 35 (bytesU x) := hb3
 refine wl_p I_ok rfl (wl_nil (f_then (c_seq (c_region (wl (st_ldB I_ok hb2 rfl rfl (wl (st_call Tryz.call44 rfl rfl rfl rfl rfl rfl (read_calls w2 (h.extNo hX)) fun v3 w3 hr3 => ?_))))))))
 obtain ⟨r, rfl, hrn, hM, hE3⟩ := hr3
 have hb3 := hb3.extNo hE3
 have hX := hX.thenNo hE3
 refine wl_p I_ok rfl (wl_nil (f_then (c_seq (c_seq (c_region (wl_p I_ok rfl (wl (st_ldB I_ok hb3 rfl hx.len (wl (st_call Tryz.call45 rfl rfl rfl rfl rfl rfl (closedB_calls w3 ⟨h.extNo hX, hM⟩ hx) fun v4 w4 hr4 => ?_))))))))))
 obtain ⟨rfl, hE4⟩ := hr4
 have hb3 := hb3.extNo hE4
 have hM := hM.extNo hE4
 have hX := hX.thenNo hE4
 refine wl_p I_ok rfl (wl_nil (f_then (c_seq (c_region (wl_p I_ok rfl (wl_nil (f_then (c_if rfl (fun hc => ?_) (fun hc => ?_)))))))))
 ·have eH : histE (toHp l) x = [] := if_neg hc
  refine c_seq (c_region (wl_p I_ok rfl (wl_nil (f_then (c_ret (f_thenR (f_ret [_, _] ⟨rfl, rfl, trivial⟩ ?_)))))))
  exact ⟨none, 0, by rw [eH]; rfl, by rw [eH]; exact Sl.nil _ _ _, hX⟩
 ·have hcl : (toHp l).closed x = 0 := Decidable.not_not.1 hc
  have eH : histE (toHp l) x = (toHp l).hist x := if_pos hcl
  refine c_skip (f_then (c_seq (c_region (wl_p I_ok rfl (wl (st_ldB I_ok hb3 rfl hx.len (wl (st_call Tryz.call46 rfl rfl rfl rfl rfl rfl (historyB_calls w4 ⟨h.extNo hX, hM⟩ hx hcl) fun v5 w5 hr5 => ?_))))))))
  obtain ⟨q, k, rfl, hq, hqn, hE5⟩ := hr5
  have hX := hX.thenNo hE5
  refine wl_p I_ok rfl (wl_nil (f_then (c_ret (f_ret [_, _] ⟨rfl, rfl, trivial⟩ ?_))))
  exact ⟨q, k, by rw [eH, hcl]; rfl, by rw [eH]; exact hq.sl, hX⟩
theorem HpIn.heIn {w : World} {p : Option Addr} {l : List HeldT} (h : HpIn w p l) {x : IdB} (hx : IdIn x) : (∀ y ∈ histE (toHp l) x, IdIn y) ∧ (histE (toHp l) x).length < 10000001 := by
 unfold histE
 split
 ·exact ⟨h.hsIn hx, h.hsLen x⟩
 ·exact ⟨fun _ hy => (by cases hy), (by show 0 < 10000001; decide)⟩
theorem aboveD_calls (w : World) {p : Option Addr} {c : Nat} {l : List HeldT} {x y : IdB} (h : HpIn w p l) (hx : IdIn x) (hy : IdIn y) :
  CallsV Tryz.prog 12 [.agg #[.slice p l.length c], .agg (bytesU x).toArray, .agg (bytesU y).toArray] w fun v w' => v = .tuple #[.bool (decide (x ∈ histE (toHp l) y)), .int .i64 ((toHp l).closed y)] ∧ Ext No w w' := by
 obtain ⟨hei, hel⟩ := h.heIn hy
 refine calls_enter Tryz.func12 rfl rfl rfl rfl ?_
 have hX := Ext.refl No w
 refine c_seq (c_region (wl (st_al I_ok rfl fun b3 w1 hn3 hb3 hE1 => ?_)))
 have hX := hX.thenNo hE1
 have hb3 : Blk w1 b3 29 ([.slice p l.length c]) := hb3
 refine wl (st_al I_ok rfl fun b4 w2 hn4 hb4 hE2 => ?_)
 have hb3 := hb3.extNo hE2
 have hX := hX.thenNo hE2
 have hb4 : Blk w2 b4 35 (bytesU x) := hb4
 refine wl (st_al I_ok rfl fun b5 w3 hn5 hb5 hE3 => ?_)
 have hb3 := hb3.extNo hE3
 have hb4 := hb4.extNo hE3
 have hX := hX.thenNo hE3
 have hb5 : Blk w3 b5 35 (bytesU y) := hb5
 refine wl_p I_ok rfl (wl_nil (f_then (c_seq (c_region (wl (st_ldB I_ok hb3 rfl rfl (wl (st_ldB I_ok hb5 rfl hy.len (wl (st_call Tryz.call30 rfl rfl rfl rfl rfl rfl (historyD_calls w3 (h.extNo hX) hy) fun v4 w4 hr4 => ?_))))))))))
 obtain ⟨q, k, rfl, hs, hE4⟩ := hr4
 have hb4 := hb4.extNo hE4
 have hX := hX.thenNo hE4
 refine wl_p I_ok rfl (wl_nil (f_then (c_seq (c_region (wl_p I_ok rfl (wl (st_ldB I_ok hb4 rfl hx.len (wl (st_call Tryz.call35 rfl rfl rfl rfl rfl rfl (containsId_calls w4 hs (by omega) hei hx) fun v5 w5 hr5 => ?_)))))))))
 obtain ⟨rfl, hE5⟩ := hr5
 have hX := hX.thenNo hE5
 refine wl_p I_ok rfl (wl_nil (f_then (c_ret (f_ret [_, _] ⟨rfl, rfl, trivial⟩ ?_))))
 exact ⟨rfl, hX⟩

theorem pair_id {x y : IdB} (hx : IdIn x) (hy : IdIn y) : putAll (rep 2 (bytesU idZ)) [(0 * (0 + 32), 0 + 32, .agg (bytesU x).toArray), (1 * (0 + 32), 0 + 32, .agg (bytesU y).toArray)] = [x, y].flatMap bytesU := by
 have l1 : (bytesU x).length = 32 := IdIn.len hx
 have l2 : (bytesU y).length = 32 := IdIn.len hy
 simp only [putAll, cellsOf_agg]
 have e0 : rep 2 (bytesU idZ) = bytesU idZ ++ bytesU idZ := rfl
 have lz : (bytesU idZ).length = 32 := rfl
 have p1 : put (bytesU idZ ++ bytesU idZ) (0 * (0 + 32)) (bytesU x) = bytesU x ++ bytesU idZ := by
  rw [put_eq _ _ _ (by rw [List.length_append, lz, l1]; decide), l1, Nat.zero_mul, List.take_zero, List.nil_append, List.drop_left' (by rw [lz])]
 have p2 : put (bytesU x ++ bytesU idZ) (1 * (0 + 32)) (bytesU y) = bytesU x ++ bytesU y := by
  rw [put_eq _ _ _ (by rw [List.length_append, lz, l1, l2]; decide), l2, List.take_left' (by rw [l1]), List.drop_of_length_le (by rw [List.length_append, lz, l1]; decide), List.append_nil]
 rw [e0, p1, p2]
 simp
theorem baseD_calls (w : World) {p : Option Addr} {c : Nat} {l : List HeldT} {x y : IdB} (h : HpIn w p l) (hx : IdIn x) (hy : IdIn y) :
  CallsV Tryz.prog 11 [.agg #[.slice p l.length c], .agg (bytesU x).toArray, .agg (bytesU y).toArray] w fun v w' => v = .tuple #[.agg (bytesU (idO (baseO (toHp l) x y))).toArray, .bool (baseO (toHp l) x y).isSome, .int .i64 (baseE (toHp l) x y)] ∧ Ext No w w' := by
 have hai := h.hsIn hx
 have hbi := h.hsIn hy
 have hal := h.hsLen x
 have hbl := h.hsLen y
 have hxy : ∀ z ∈ [x, y], IdIn z := fun z hz => by rcases List.mem_cons.1 hz with rfl | hz; exact hx; rw [List.mem_singleton.1 hz]; exact hy
 refine calls_enter Tryz.func11 rfl rfl rfl rfl ?_
 have hX := Ext.refl No w
 refine c_seq (c_region (wl (st_al I_ok rfl fun b3 w1 hn3 hb3 hE1 => ?_)))
 have hX := hX.thenNo hE1
 have hb3 : Blk w1 b3 29 ([.slice p l.length c]) := hb3
 refine wl (st_al I_ok rfl fun b4 w2 hn4 hb4 hE2 => ?_)
 have hb3 := hb3.extNo hE2
 have hX := hX.thenNo hE2
 have hb4 : Blk w2 b4 35 (bytesU x) := hb4
 refine wl (st_al I_ok rfl fun b5 w3 hn5 hb5 hE3 => ?_)
 have hb3 := hb3.extNo hE3
 have hb4 := hb4.extNo hE3
 have hX := hX.thenNo hE3
 have hb5 : Blk w3 b5 35 (bytesU y) := hb5
 refine wl (st_al I_ok rfl fun b6 w4 hn6 hb6 hE4 => ?_)
 have fr6 := Nat.le_trans hX.size hn6
 have hb3 := hb3.extNo hE4
 have hb4 := hb4.extNo hE4
 have hb5 := hb5.extNo hE4
 have hX := hX.thenNo hE4
 have hb6 : Blk w4 b6 35 (bytesU idZ) := hb6
 refine wl_p I_ok rfl (wl_nil (f_then (c_seq (c_region (wl (st_ldB I_ok hb3 rfl rfl (wl (st_call Tryz.call44 rfl rfl rfl rfl rfl rfl (read_calls w4 (h.extNo hX)) fun v5 w5 hr5 => ?_))))))))
 obtain ⟨r, rfl, hrn, hM, hE5⟩ := hr5
 have hb3 := hb3.extNo hE5
 have hb4 := hb4.extNo hE5
 have hb5 := hb5.extNo hE5
 have hb6 := hb6.extNo hE5
 have hX := hX.thenNo hE5
 refine wl_p I_ok rfl (wl_nil (f_then (c_seq (c_seq (c_region (wl (st_ldB I_ok hb4 rfl hx.len (wl (st_ldB I_ok hb5 rfl hy.len ?_)))))))))
 refine wl (st_bs I_ok rfl 32 rfl idZ_c.symm (by rw [bytesU_len]; rfl) (by decide) (by decide) ⟨⟨by rw [cellsOf_agg]; exact (IdIn.len hx), by decide⟩, ⟨by rw [cellsOf_agg]; exact (IdIn.len hy), by decide⟩, trivial⟩ (l' := [x, y].flatMap bytesU) (pair_id hx hy) fun b20 w6 hn20 hb20 hE6 hs6 => ?_)
 have hb3 := hb3.extNo hE6
 have hb4 := hb4.extNo hE6
 have hb5 := hb5.extNo hE6
 have hb6 := hb6.extNo hE6
 have hM := hM.extNo hE6
 have hX := hX.thenNo hE6
 refine wl_p I_ok rfl (wl_nil (f_then (c_block ?_)))
 refine c_loopK (α := Nat) [4, 5, 6, 9, 20, 21] rfl (fun z => [(22, .int .i64 (z : Int))]) (fun z u => ((z ≤ [x, y].length ∧ ∀ t ∈ [x, y].take z, (toHp l).closed t = 0) ∧ MapB u r objV (bookOf l)) ∧ Blk u b3 29 ([.slice p l.length c]) ∧ Blk u b4 35 (bytesU x) ∧ Blk u b5 35 (bytesU y) ∧ Blk u b6 35 (bytesU idZ) ∧ Blk u b20 35 ([x, y].flatMap bytesU) ∧ Ext No w u) (fun z u => [x, y].length - z) (0) rfl ⟨⟨⟨Nat.zero_le _, fun _ h => (by cases h)⟩, hM⟩, hb3, hb4, hb5, hb6, hb20, hX⟩ ?_
 rintro i w7 ⟨⟨⟨hi, hok⟩, hM⟩, hb3, hb4, hb5, hb6, hb20, hX⟩
 refine c_seq (c_region (wl_p I_ok rfl (wl_nil (f_then (c_seq (c_if rfl (fun hc => ?_) (fun hc => ?_)))))))
 ·have hi : i < [x, y].length := by have : ((i : Int) < 2) := hc; show i < 2; omega
  have ha1 := hxy _ (List.getElem_mem hi)
  have hs20 : Sl w7 (some ⟨b20, 0, none⟩) [x, y].length 32 ([x, y].flatMap bytesU) := ⟨flat_len fun r hr => (hxy r hr).len, .inr ⟨b20, 0, rfl, hb20.seg⟩⟩
  obtain ⟨lb, lo, hp1, hsq⟩ := hs20.rowAll (fun r hr => (hxy r hr).len) (by omega)
  cases hp1
  refine c_skip (f_then (c_seq (c_block (c_seq (c_region (wl (st_ix I_ok rfl 32 rfl i rfl (by exact hi) (0 + i * 32) rfl (wl (st_ldN I_ok rfl (hsq i hi) ha1.len (wl (st_al I_ok rfl fun b11 w8 hn11 hb11 hE8 => ?_)))))))))))
  have ne3_11 : b3 ≠ b11 := Nat.ne_of_lt (Nat.lt_of_lt_of_le hb3.lt hn11)
  have ne4_11 : b4 ≠ b11 := Nat.ne_of_lt (Nat.lt_of_lt_of_le hb4.lt hn11)
  have ne5_11 : b5 ≠ b11 := Nat.ne_of_lt (Nat.lt_of_lt_of_le hb5.lt hn11)
  have ne6_11 : b6 ≠ b11 := Nat.ne_of_lt (Nat.lt_of_lt_of_le hb6.lt hn11)
  have ne20_11 : b20 ≠ b11 := Nat.ne_of_lt (Nat.lt_of_lt_of_le hb20.lt hn11)
  have fr11 := Nat.le_trans hX.size hn11
  have hb3 := hb3.extNo hE8
  have hb4 := hb4.extNo hE8
  have hb5 := hb5.extNo hE8
  have hb6 := hb6.extNo hE8
  have hb20 := hb20.extNo hE8
  have hM := hM.extNo hE8
  have hX := hX.thenNo hE8
  have hb11o := hb11
  refine wl (st_stW (l' := bytesU [x, y][i]) I_ok hb11 rfl rfl ha1.len (by rw [bytesU_len, ha1]; rfl) OneC.h fun w9 hb11 hE9 hs9 => ?_)
  have hb3 := hb3.ext1 hE9 ne3_11
  have hb4 := hb4.ext1 hE9 ne4_11
  have hb5 := hb5.ext1 hE9 ne5_11
  have hb6 := hb6.ext1 hE9 ne6_11
  have hb20 := hb20.ext1 hE9 ne20_11
  have hM := hM.ext1 hE9 hb11o
  have hX := hX.thenNew hE9 fr11
  refine wl_nil (f_then (c_seq (c_region (wl_p I_ok rfl (wl (st_ldB I_ok hb11 rfl ha1.len (wl (st_call Tryz.call45 rfl rfl rfl rfl rfl rfl (closedB_calls w9 ⟨h.extNo hX, hM⟩ ha1) fun v10 w10 hr10 => ?_))))))))
  obtain ⟨rfl, hE10⟩ := hr10
  have hb3 := hb3.extNo hE10
  have hb4 := hb4.extNo hE10
  have hb5 := hb5.extNo hE10
  have hb6 := hb6.extNo hE10
  have hb20 := hb20.extNo hE10
  have hM := hM.extNo hE10
  have hX := hX.thenNo hE10
  refine wl_p I_ok rfl (wl_nil (f_then (c_seq (c_region (wl_p I_ok rfl (wl_nil (f_then (c_if rfl (fun hc => ?_) (fun hc => ?_)))))))))
  ·have eE := pair_bad hi hok hc
   have eB : baseO (toHp l) x y = none := if_neg (by rw [eE]; exact hc)
   refine c_seq (c_region (wl (st_bd I_ok rfl trivial (l' := bytesU idZ) idZ_c.symm (wl_p I_ok rfl ?_))))
   refine wl (st_stW (l' := bytesU idZ) I_ok hb6 rfl rfl rfl rfl OneC.h fun w11 hb6 hE11 hs11 => ?_)
   have hX := hX.thenNew hE11 fr6
   refine wl_p I_ok rfl (wl_nil (f_then (c_ret (f_blockR (f_thenR (f_thenR (f_blockR (f_thenR (f_ret [_, _, _] ⟨⟨b6, 0, rfl, ld_all I_ok rfl rfl hb6.seg rfl⟩, rfl, rfl, trivial⟩ ?_)))))))))
   exact ⟨by rw [eB, eE]; rfl, hX⟩
  ·have hc0 := Decidable.not_not.1 hc
   refine c_skip (f_blockN (f_then (c_region (wl_p I_ok rfl ?_))))
   rw [IntWalk.i64_in _ (by omega)]
   refine wl_nil ?_
   exact f_round (i + 1) rfl ⟨⟨⟨hi, fun t ht => by rw [List.take_succ_eq_append_getElem hi] at ht; rcases List.mem_append.1 ht with ht | ht; exact hok t ht; rw [List.mem_singleton.1 ht]; exact hc0⟩, hM⟩, hb3, hb4, hb5, hb6, hb20, hX⟩ (by first | omega | (dsimp only; omega))
 ·have h0 : i = [x, y].length := by have : ¬ ((i : Int) < 2) := hc; have h2 : i ≤ 2 := hi; show i = 2; omega
  subst h0
  rw [List.take_length] at hok
  obtain ⟨c1, c2, c3⟩ := pair_cl hok
  have eB : baseO (toHp l) x y = (toHp l).base x y := if_pos c3
  refine c_exit (f_thenE (f_thenE (f_blockE (f_then (c_seq (c_region (wl_p I_ok rfl (wl (st_ldB I_ok hb5 rfl hy.len (wl (st_call Tryz.call46 rfl rfl rfl rfl rfl rfl (historyB_calls w7 ⟨h.extNo hX, hM⟩ hy c2) fun v12 w12 hr12 => ?_)))))))))))
  obtain ⟨q1, k1, rfl, ht0, htn, hE12⟩ := hr12
  have hb4 := hb4.extNo hE12
  have hb6 := hb6.extNo hE12
  have hM := hM.extNo hE12
  have hX := hX.thenNo hE12
  have ht := ht0.sl
  refine wl_p I_ok rfl (wl_nil (f_then (c_seq (c_seq (c_region (wl_p I_ok rfl (wl (st_ldB I_ok hb4 rfl hx.len (wl (st_call Tryz.call46 rfl rfl rfl rfl rfl rfl (historyB_calls w12 ⟨h.extNo hX, hM⟩ hx c1) fun v13 w13 hr13 => ?_))))))))))
  obtain ⟨q2, k2, rfl, hs0, hsn, hE13⟩ := hr13
  have hb6 := hb6.extNo hE13
  have ht := ht.extNo hE13
  have hX := hX.thenNo hE13
  have hs := hs0.sl
  refine wl_p I_ok rfl (wl_nil (f_then (c_block ?_)))
  refine c_loopK (α := Nat) [6, 13, 39, 40] rfl (fun z => [(41, .int .i64 (z : Int))]) (fun z u => ((z ≤ ((toHp l).hist x).length ∧ ∀ k (hk : k < ((toHp l).hist x).length), k < z → ¬ ((toHp l).hist x)[k] ∈ ((toHp l).hist y)) ∧ Sl u q2 ((toHp l).hist x).length 32 (((toHp l).hist x).flatMap bytesU) ∧ Sl u q1 ((toHp l).hist y).length 32 (((toHp l).hist y).flatMap bytesU)) ∧ Blk u b6 35 (bytesU idZ) ∧ Ext No w u) (fun z u => ((toHp l).hist x).length - z) (0) rfl ⟨⟨⟨Nat.zero_le _, fun k _ h => absurd h (Nat.not_lt_zero _)⟩, hs, ht⟩, hb6, hX⟩ ?_
  rintro i w14 ⟨⟨⟨hi, hno⟩, hs, ht⟩, hb6, hX⟩
  refine c_seq (c_region (wl_p I_ok rfl (wl_nil (f_then (c_seq (c_if rfl (fun hc => ?_) (fun hc => ?_)))))))
  ·have hi : i < ((toHp l).hist x).length := by omega
   obtain ⟨lb, loff, hp, hsq⟩ := hs.rowAll (fun r hr => (hai r hr).len) (by omega)
   subst hp
   have ha1 := hai _ (List.getElem_mem hi)
   refine c_skip (f_then (c_seq (c_block (c_seq (c_region (wl (st_ix I_ok rfl 32 rfl i rfl (by omega) (loff + i * 32) rfl (wl (st_ldN I_ok rfl (hsq i hi) ha1.len ?_)))))))))
   have hsA := hs
   have htA := ht
   refine wl (st_al I_ok rfl fun b15 w15 hn15 hb15 hE15 => ?_)
   have ne6_15 : b6 ≠ b15 := Nat.ne_of_lt (Nat.lt_of_lt_of_le hb6.lt hn15)
   have fr15 := Nat.le_trans hX.size hn15
   have hb6 := hb6.extNo hE15
   have hX := hX.thenNo hE15
   have hEa15 := hE15
   refine wl (st_stW (l' := bytesU ((toHp l).hist x)[i]) I_ok hb15 rfl rfl ha1.len (by rw [bytesU_len, ha1]; rfl) OneC.h fun w16 hb15 hE16 hs16 => ?_)
   have hb6 := hb6.ext1 hE16 ne6_15
   have ht := htA.extLt ((Ext.no hEa15).trans hE16 fun _ _ k => k) (fun y hy k => by have k : y = b15 := k; omega)
   have hs := hsA.extLt ((Ext.no hEa15).trans hE16 fun _ _ k => k) (fun y hy k => by have k : y = b15 := k; omega)
   have hX := hX.thenNew hE16 fr15
   refine wl_nil (f_then (c_seq (c_region (wl_p I_ok rfl (wl (st_ldB I_ok hb15 rfl ha1.len (wl (st_call Tryz.call35 rfl rfl rfl rfl rfl rfl (containsId_calls w16 ht (by omega) hbi ha1) fun v17 w17 hr17 => ?_))))))))
   obtain ⟨rfl, hE17⟩ := hr17
   have hb6 := hb6.extNo hE17
   have hb15 := hb15.extNo hE17
   have ht := ht.extNo hE17
   have hs := hs.extNo hE17
   have hX := hX.thenNo hE17
   refine wl_nil (f_then (c_if rfl (fun hc => ?_) (fun hc => ?_)))
   ·have eb := base_at hi hno hc
    rw [eb] at eB
    refine c_seq (c_region (wl (st_ldB I_ok hb15 rfl ha1.len (wl (st_stW (l' := bytesU ((toHp l).hist x)[i]) I_ok hb6 rfl rfl ha1.len (by rw [bytesU_len, ha1]; rfl) OneC.h fun w18 hb6 hE18 hs18 => ?_)))))
    have hX := hX.thenNew hE18 fr6
    refine wl_p I_ok rfl (wl_nil (f_then (c_ret (f_blockR (f_thenR (f_thenR (f_blockR (f_thenR (f_ret [_, _, _] ⟨⟨b6, 0, rfl, ld_all I_ok rfl rfl hb6.seg (by rw [bytesU_len, ha1]; rfl)⟩, rfl, rfl, trivial⟩ ?_)))))))))
    exact ⟨by rw [eB, c3]; rfl, hX⟩
   ·refine c_skip ?_
    refine f_blockN (f_then (c_region (wl_p I_ok rfl ?_)))
    rw [IntWalk.i64_in _ (by omega)]
    refine wl_nil ?_
    exact f_round (i + 1) rfl ⟨⟨⟨by omega, fun k hk hlt => (Nat.lt_or_eq_of_le (Nat.le_of_lt_succ hlt)).elim (fun h => hno k hk h) fun h => by subst h; exact hc⟩, hs, ht⟩, hb6, hX⟩ (by first | omega | (dsimp only; omega))
  ·have h0 : i = ((toHp l).hist x).length := by omega
   subst h0
   have eb := base_no hno
   rw [eb] at eB
   refine c_exit (f_thenE (f_thenE (f_blockE (f_then (c_seq (c_region (wl (st_bd I_ok rfl trivial (l' := bytesU idZ) idZ_c.symm (wl (st_stW (l' := bytesU idZ) I_ok hb6 rfl rfl rfl rfl OneC.h fun w19 hb6 hE19 hs19 => ?_))))))))))
   have hX := hX.thenNew hE19 fr6
   refine wl_p I_ok rfl (wl_nil (f_then (c_ret (f_ret [_, _, _] ⟨⟨b6, 0, rfl, ld_all I_ok rfl rfl hb6.seg rfl⟩, rfl, rfl, trivial⟩ ?_))))
   exact ⟨by rw [eB, c3]; rfl, hX⟩
end Go.Proofs.YtoapldhadeoeiaaGreat
namespace Go.Proofs.YtoapldhadeoeiaaGreat
open Go.Vc
theorem mapD_calls (w : World) {p : Option Addr} {c : Nat} {l : List HeldT} {x : IdB} (h : HpIn w p l) (hx : IdIn x) :
  CallsV Tryz.prog 23 [.agg #[.slice p l.length c], .agg (bytesU x).toArray] w fun v w' => ∃ q k, v = .tuple #[.agg #[.slice q ((toHp l).map x).length k], .int .i64 ((toHp l).mapE x)] ∧ Own w' q ((toHp l).map x).length k 73 2 (((toHp l).map x).flatMap RowD.cells) ∧ (∀ y, OwnB q y → w.heap.size ≤ y) ∧ Ext No w w' := by
 refine calls_enter Tryz.func23 rfl rfl rfl rfl ?_
 have hX := Ext.refl No w
 refine c_seq (c_region (wl (st_al I_ok rfl fun b2 w1 hn2 hb2 hE1 => ?_)))
 have hX := hX.thenNo hE1
 have hb2 : Blk w1 b2 29 ([.slice p l.length c]) := hb2
 refine wl (st_al I_ok rfl fun b3 w2 hn3 hb3 hE2 => ?_)
 have hb2 := hb2.extNo hE2
 have hX := hX.thenNo hE2
 have hb3 : Blk w2 b3 35 (bytesU x) := hb3
 refine wl (st_al I_ok rfl fun b4 w3 hn4 hb4 hE3 => ?_)
 have fr4 := Nat.le_trans hX.size hn4
 have hb2 := hb2.extNo hE3
 have hb3 := hb3.extNo hE3
 have hX := hX.thenNo hE3
 have hb4 : Blk w3 b4 62 ([.slice none 0 0]) := hb4
 refine wl_p I_ok rfl (wl_nil (f_then (c_seq (c_draw rfl 6 [(0, true), (2, true), (1, false), (3, false), (4, true), (5, true)] [6, 7] (No) (by kernel_rfl) fun w4 hE4 hs4 => ?_))))
 have hd2 := hb2
 have hd3 := hb3
 have hb4 := hb4.extNo hE4
 have hX := hX.thenNo hE4
 have hC : Ext (No) _ w4 := hE4.no
 refine wd_ldN I_ok rfl rfl (fun w' hw' => (hd2.extNo hw').seg) rfl ?_
 refine wd_ldN I_ok rfl rfl (fun w' hw' => (hd3.extNo hw').seg) hx.len ?_
 refine wd_l rfl (st_call Tryz.call44 rfl rfl rfl rfl rfl rfl (read_calls w4 (h.extNo hX)) fun v5 w5 hr5 => ⟨(by obtain ⟨r, rfl, hrn, hM, hE5⟩ := hr5; exact hC.thenNo hE5), ?_⟩)
 obtain ⟨r, rfl, hrn, hM, hE5⟩ := hr5
 have hb4 := hb4.extNo hE5
 have hX := hX.thenNo hE5
 have hC := hC.thenNo hE5
 have hXs := hX.size
 refine wd_l rfl (st_call Tryz.call55 rfl rfl rfl rfl rfl rfl (textsB_calls w5 ⟨h.extNo hX, hM⟩ hx) fun v6 w6 hr6 => ⟨(by obtain ⟨q, k, rfl, hq, hqn0, hE6⟩ := hr6; exact hC.thenNo hE6), ?_⟩)
 obtain ⟨q, k, rfl, hq, hqn0, hE6⟩ := hr6
 have hb4 := hb4.extNo hE6
 have hX := hX.thenNo hE6
 have hqn : ∀ y, OwnB q y → w.heap.size ≤ y := fun y hy => Nat.le_trans hXs (hqn0 y hy)
 refine wd_k I_ok 2 rfl (wd_sw ?_)
 have hb4o := hb4
 refine wb rfl (st_stW (l' := [.slice q ((toHp l).map x).length k]) I_ok hb4 rfl rfl rfl rfl OneC.h fun w7 hb4 hE7 hs7 => ?_)
 have hq := hq.extTy hE7 hb4o (by decide)
 have hX := hX.thenNew hE7 fr4
 refine wb rfl (st_p I_ok rfl rfl rfl (wb_nil (f_then (c_ret (f_ret [_, _] ⟨⟨b4, 0, rfl, ld_all I_ok rfl rfl hb4.seg rfl⟩, rfl, trivial⟩ ?_)))))
 exact ⟨q, k, rfl, hq, hqn, hX⟩
end Go.Proofs.YtoapldhadeoeiaaGreat
namespace Go.Proofs.YtoapldhadeoeiaaGreat
open Go.Vc
def id9 : IdB := 9 :: List.replicate 31 0
end Go.Proofs.YtoapldhadeoeiaaGreat
namespace Go.Proofs.YtoapldhadeoeiaaGreat
open Go.Vc
abbrev ObjF (a : ObjP) : Nat → Prop := fun y => OwnB a.lp y ∨ OwnB a.pp y ∨ OwnB a.rp y
end Go.Proofs.YtoapldhadeoeiaaGreat
namespace Go.Proofs.YtoapldhadeoeiaaGreat
open Go.Vc
end Go.Proofs.YtoapldhadeoeiaaGreat
namespace Go.Proofs.YtoapldhadeoeiaaGreat
open Go.Vc
end Go.Proofs.YtoapldhadeoeiaaGreat
namespace Go.Proofs.YtoapldhadeoeiaaGreat
open Go.Vc
end Go.Proofs.YtoapldhadeoeiaaGreat
namespace Go.Vc
/-- what a loop's body keeps between its rounds, and how it is left: z its own state; Fp: the blocks that it may turn -/
structure CoSL (ι α : Type) (w : World) where
  Fp : α → Nat → Prop
  J : ι → α → World → Prop
  Jx : ι → Code → α → World → Prop
  st : ∀ {k : ι} {z : α} {S : Nat → Prop} {u u' : World}, J k z u → Ext S u u' → (∀ x, S x → w.heap.size ≤ x ∧ ¬ Fp z x) → J k z u'
  stx : ∀ {k : ι} {c : Code} {z : α} {S : Nat → Prop} {u u' : World}, Jx k c z u → Ext S u u' → (∀ x, S x → w.heap.size ≤ x ∧ ¬ Fp z x) → Jx k c z u'
  lt : ∀ {k : ι} {z : α} {u : World}, J k z u → ∀ x, Fp z x → x < u.heap.size
  ltx : ∀ {k : ι} {c : Code} {z : α} {u : World}, Jx k c z u → ∀ x, Fp z x → x < u.heap.size
section
variable {ι α : Type} {w : World} {P : Program}
variable {C : CoSL ι α w} {z0 : α} {l D : Nat} {r : Loop} {k k' : ι} {z : α} {W : World} {f : Fs} {env : Env} {u : World}
end
end Go.Vc
namespace Go.Proofs.YtoapldhadeoeiaaGreat
open Go.Vc
end Go.Proofs.YtoapldhadeoeiaaGreat
namespace Go.Proofs.YtoapldhadeoeiaaGreat
open Go.Vc
end Go.Proofs.YtoapldhadeoeiaaGreat
namespace Go.Proofs.YtoapldhadeoeiaaGreat
open Go.Vc
end Go.Proofs.YtoapldhadeoeiaaGreat
namespace Go.Proofs.YtoapldhadeoeiaaGreat
open Go.Vc
theorem wk_all : (wkI.length = 3 ∧ wkH.length = 5) ∧ ((wkH.waveGo (wkL (wkC 1)) (wkL (wkC 1))).length = (wkL (wkC 1)).length) ∧ ((wkH.waveGo (wkL (wkC 2)) (wkL (wkC 2))).length = (wkL (wkC 2)).length) ∧
 (wkH.kErr (wkC 1) 3 = 0 ∧ wkH.kErr (wkC 2) 3 = 0) ∧ (∀ y ∈ wkL (wkC 1), wkH.Good y) ∧ (∀ y ∈ wkL (wkC 2), wkH.Good y) ∧ (histC wkH (wkL (wkC 1)) = [wkC 1, wkC 0]) ∧ ((histC wkH (wkL (wkC 1))).find? (fun x => decide (x ∈ histC wkH (wkL (wkC 2)))) = some (wkC 0)) ∧
 (wkH.mapE (wkH.getD 1 ([], objZ)).1 = 0) ∧ ((wkH.map (wkH.getD 1 ([], objZ)).1).map (fun r => (r.path, r.text)) = [([97], [49])]) := by
 have h := wk_ok
 unfold wkOk at h
 simp only [Bool.and_eq_true, decide_eq_true_eq, List.all_eq_true] at h
 obtain ⟨⟨⟨⟨⟨⟨⟨⟨⟨h1, h2⟩, h3⟩, h4⟩, h5⟩, h6⟩, h7⟩, h8⟩, h9⟩, h10⟩ := h
 exact ⟨h1, h2, h3, h4, h5, h6, h7, h8, h9, h10⟩
theorem wk_len : wkI.length = 3 := wk_all.1.1
theorem wk_hlen : wkH.length = 5 := wk_all.1.2
theorem wk_led1 : wkH.led (wkC 1) = wkL (wkC 1) := Hp.led_of 3 (by unfold wkL; rfl) wk_all.2.1
theorem wk_led2 : wkH.led (wkC 2) = wkL (wkC 2) := Hp.led_of 3 (by unfold wkL; rfl) wk_all.2.2.1
theorem wk_hist1 : wkH.hist (wkC 1) = [wkC 1, wkC 0] := by
 rw [Hp.hist, wk_led1]
 exact wk_all.2.2.2.2.2.2.1
theorem wk_hist2 : wkH.hist (wkC 2) = histC wkH (wkL (wkC 2)) := by rw [Hp.hist, wk_led2]; unfold histC; rfl
theorem wk_base : wkH.base (wkC 1) (wkC 2) = some (wkC 0) := by
 have h := wk_all.2.2.2.2.2.2.2.1
 rw [wk_all.2.2.2.2.2.2.1] at h
 rw [Hp.base, wk_hist1, wk_hist2]
 exact h
theorem wk_cl1 : wkH.closed (wkC 1) = 0 := by
 rw [Hp.closed, if_neg fun k => k wk_all.2.2.2.1.1, wk_led1, if_pos wk_all.2.2.2.2.1]
theorem wk_cl2 : wkH.closed (wkC 2) = 0 := by
 rw [Hp.closed, if_neg fun k => k wk_all.2.2.2.1.2, wk_led2, if_pos wk_all.2.2.2.2.2.1]
theorem wk_baseE : baseE wkH (wkC 1) (wkC 2) = 0 := by rw [baseE, if_neg fun k => k wk_cl1]; exact wk_cl2
theorem wk_baseO : baseO wkH (wkC 1) (wkC 2) = some (wkC 0) := by rw [baseO, if_pos wk_baseE]; exact wk_base
theorem wk_histE : histE wkH (wkC 1) = [wkC 1, wkC 0] := by rw [histE, if_pos wk_cl1]; exact wk_hist1
def wkT : IdB := (wkH.getD 1 ([], objZ)).1
theorem wk_mapE : wkH.mapE wkT = 0 := wk_all.2.2.2.2.2.2.2.2.1
theorem wk_map : wkH.map wkT = [⟨[97], [49]⟩] := by
 have h := wk_all.2.2.2.2.2.2.2.2.2
 show wkH.map (wkH.getD 1 ([], objZ)).1 = _
 generalize wkH.map (wkH.getD 1 ([], objZ)).1 = l at h ⊢
 rcases l with _ | ⟨⟨p, t⟩, _ | ⟨b, r⟩⟩
 ·cases h
 ·have h := (List.cons.inj h).1
  have h1 := congrArg Prod.fst h
  have h2 := congrArg Prod.snd h
  dsimp only at h1 h2
  rw [h1, h2]
 ·cases (List.cons.inj h).2
theorem wk_ids {ids : List IdB} (h : ids = wkI) (hi : ∀ y ∈ ids, IdIn y) : IdIn (wkC 0) ∧ IdIn (wkC 1) ∧ IdIn (wkC 2) := by
 subst h
 have hl := wk_len
 have key : ∀ i, i < 3 → IdIn (wkC i) := fun i hi2 => by
  unfold wkC
  rw [List.getD_eq_getElem?_getD, List.getElem?_eq_getElem (by omega)]
  exact hi _ (List.getElem_mem _)
 exact ⟨key 0 (by decide), key 1 (by decide), key 2 (by decide)⟩
theorem wkC_at {i : Nat} (h : i < wkI.length) : wkI[i] = wkC i := by
 unfold wkC
 rw [List.getD_eq_getElem?_getD, List.getElem?_eq_getElem h]; rfl
theorem wkT_at {m : List HeldT} (hM : toHp m = wkH) (h : 1 < m.length) : m[1].id = wkT := by
 rw [wkT, ← hM, toHp, List.getD_eq_getElem?_getD, List.getElem?_map, List.getElem?_eq_getElem h]
 rfl
theorem sl_lt {w : World} {p : Option Addr} {n sz : Nat} {xs : List Value} (h : Sl w p n sz xs) (hn : 0 < n * sz) {b off : Nat} (e : p = some ⟨b, off, none⟩) : b < w.heap.size := by
 obtain ⟨hl, h | ⟨b2, o2, e2, hs⟩⟩ := h
 ·rw [h, Nat.zero_mul] at hn; cases hn
 ·rw [e2] at e; cases e
  exact hs.lt fun k => by rw [k] at hl; have : 0 = n * sz := hl; omega
/-- what was made stays, but for what is new -/
theorem MadeQ.round {W w : World} {q : Option Addr} {k : Nat} {m : List HeldT} {qi : Option Addr} {ki : Nat} {ids : List IdB} (h : MadeQ W w q m qi ki ids) : MadeR w.heap.size w.heap.size w.heap.size ⟨m, q, k, ids, qi, ki⟩ w := by
 refine ⟨Nat.le_refl _, h.hp.sub fun x hx k => ?_, fun w' hE => h.own.ext hE fun x hx k => ?_⟩
 ·rcases k with (k | k | k) | k
  ·omega
  ·omega
  ·exact k
  ·omega
 ·have := h.own.lt hx
  rcases k with (k | k) | k <;> omega
theorem wk_history {w : World} {p : Option Addr} {c : Nat} {l : List HeldT} (h : HpIn w p l) (hM : toHp l = wkH) (hi : IdIn (wkC 1)) :
  CallsV Tryz.prog 30 [.agg #[.slice p l.length c], .agg (bytesU (wkC 1)).toArray] w fun v w' => ∃ q k, v = .tuple #[.slice q 2 k, .int .i64 0] ∧ Sl w' q 2 32 ([wkC 1, wkC 0].flatMap bytesU) ∧ Ext No w w' :=
 (historyD_calls w h hi).mono fun v w' hr => by
  obtain ⟨q, k, e, hs, hE⟩ := hr
  rw [hM, wk_histE] at hs
  rw [hM, wk_histE, wk_cl1] at e
  exact ⟨q, k, e, hs, hE⟩
theorem wk_baseC {w : World} {p : Option Addr} {c : Nat} {l : List HeldT} (h : HpIn w p l) (hM : toHp l = wkH) (hi : IdIn (wkC 1)) (hj : IdIn (wkC 2)) :
  CallsV Tryz.prog 11 [.agg #[.slice p l.length c], .agg (bytesU (wkC 1)).toArray, .agg (bytesU (wkC 2)).toArray] w fun v w' => v = .tuple #[.agg (bytesU (wkC 0)).toArray, .bool true, .int .i64 0] ∧ Ext No w w' :=
 (baseD_calls w h hi hj).mono fun v w' hr => by
  obtain ⟨e, hE⟩ := hr
  rw [hM, wk_baseO, wk_baseE] at e
  exact ⟨e, hE⟩
theorem wk_mapC {w : World} {p : Option Addr} {c : Nat} {l : List HeldT} (h : HpIn w p l) (hM : toHp l = wkH) (hi : IdIn wkT) :
  CallsV Tryz.prog 23 [.agg #[.slice p l.length c], .agg (bytesU wkT).toArray] w fun v w' => ∃ q k, v = .tuple #[.agg #[.slice q 1 k], .int .i64 0] ∧ Sl w' q 1 2 (([⟨[97], [49]⟩] : List RowD).flatMap RowD.cells) ∧ (∀ b off, q = some ⟨b, off, none⟩ → w.heap.size ≤ b) ∧ Ext No w w' :=
 (mapD_calls w h hi).mono fun v w' hr => by
  obtain ⟨q, k, e, hs, hn, hE⟩ := hr
  rw [hM, wk_map] at hs
  rw [hM, wk_map, wk_mapE] at e
  exact ⟨q, k, e, hs.sl, own_newS hs hn, hE⟩
def wkR : List RowD := [⟨[97], [49]⟩]
theorem wkR_in : RowsIn wkR := fun r hr => by rw [List.mem_singleton.1 hr]; exact ⟨by decide, by decide⟩
def wkTs (b12 b18 b21 : Nat) : List StepT := [⟨some ⟨b12, 0, none⟩, 1, wkR, none, 0, [], []⟩, ⟨some ⟨b12, 0, none⟩, 1, wkR, some ⟨b18, 0, none⟩, 1, [0], [97]⟩, ⟨some ⟨b12, 0, none⟩, 1, wkR, some ⟨b21, 0, none⟩, 1, [0], [98]⟩]
theorem wakes_calls (w : World) : CallsV Tryz.prog 8 [] w fun v w' => v = .bool true ∧ Ext No w w' := by
 refine calls_enter Tryz.func8 rfl rfl rfl rfl ?_
 have hX := Ext.refl No w
 refine c_seq (c_region (wl_p I_ok rfl (wl_nil (f_then (c_seq (c_region (wl (st_bd I_ok rfl ⟨⟨rfl, by decide⟩, ⟨rfl, by decide⟩, trivial⟩ (l' := RowD.cells ⟨[97], [49]⟩) (by rw [rowZ_c]; rfl) ?_))))))))
 refine wl (st_bs I_ok rfl 2 rfl rowZ_c rfl (by decide) (by decide) ⟨⟨rfl, by decide⟩, trivial⟩ (l' := wkR.flatMap RowD.cells) rfl fun b12 w1 hn12 hb12 hE1 hs1 => ?_)
 have hX := hX.thenNo hE1
 refine wl (st_bd I_ok rfl ⟨⟨rfl, by decide⟩, trivial⟩ (l' := [.slice (some ⟨b12, 0, none⟩) wkR.length 1]) rfl (wl (st_al I_ok rfl fun b1 w2 hn1 hb1 hE2 => ?_)))
 have ne12_1 : b12 ≠ b1 := Nat.ne_of_lt (Nat.lt_of_lt_of_le hb12.lt hn1)
 have fr1 := Nat.le_trans hX.size hn1
 have hb12 := hb12.extNo hE2
 have hX := hX.thenNo hE2
 refine wl (st_stW (l' := [.slice (some ⟨b12, 0, none⟩) wkR.length 1]) I_ok hb1 rfl rfl rfl rfl OneC.h fun w3 hb1 hE3 hs3 => ?_)
 have hb12 := hb12.ext1 hE3 ne12_1
 have hX := hX.thenNew hE3 fr1
 refine wl_nil (f_then (c_seq (c_region (wl (st_ldB I_ok hb1 rfl rfl (wl (st_bd I_ok rfl ⟨⟨rfl, by decide⟩, trivial⟩ (l' := stepC ⟨some ⟨b12, 0, none⟩, 1, wkR, none, 0, [], []⟩) rfl (wl (st_ldB I_ok hb1 rfl rfl ?_)))))))))
 refine wl (st_bs I_ok rfl 1 rfl rfl rfl (by decide) (by decide) ⟨⟨rfl, by decide⟩, trivial⟩ (l' := [.int .i64 0]) rfl fun b18 w4 hn18 hb18 hE4 hs4 => ?_)
 have hb12 := hb12.extNo hE4
 have hb1 := hb1.extNo hE4
 have hX := hX.thenNo hE4
 refine wl (st_bd I_ok rfl ⟨⟨rfl, by decide⟩, ⟨rfl, by decide⟩, ⟨rfl, by decide⟩, trivial⟩ (l' := stepC ⟨some ⟨b12, 0, none⟩, 1, wkR, some ⟨b18, 0, none⟩, 1, [0], [97]⟩) rfl (wl (st_ldB I_ok hb1 rfl rfl ?_)))
 refine wl (st_bs I_ok rfl 1 rfl rfl rfl (by decide) (by decide) ⟨⟨rfl, by decide⟩, trivial⟩ (l' := [.int .i64 0]) rfl fun b21 w5 hn21 hb21 hE5 hs5 => ?_)
 have hb12 := hb12.extNo hE5
 have hb1 := hb1.extNo hE5
 have hb18 := hb18.extNo hE5
 have hX := hX.thenNo hE5
 refine wl (st_bd I_ok rfl ⟨⟨rfl, by decide⟩, ⟨rfl, by decide⟩, ⟨rfl, by decide⟩, trivial⟩ (l' := stepC ⟨some ⟨b12, 0, none⟩, 1, wkR, some ⟨b21, 0, none⟩, 1, [0], [98]⟩) rfl ?_)
 refine wl (st_bs I_ok rfl 3 rfl rfl rfl (by decide) (by decide) ⟨⟨rfl, by decide⟩, ⟨rfl, by decide⟩, ⟨rfl, by decide⟩, trivial⟩ (l' := (wkTs b12 b18 b21).flatMap stepC) rfl fun b23 w6 hn23 hb23 hE6 hs6 => ?_)
 have hb12 := hb12.extNo hE6
 have hb1 := hb1.extNo hE6
 have hb18 := hb18.extNo hE6
 have hb21 := hb21.extNo hE6
 have hX := hX.thenNo hE6
 refine wl (st_bd I_ok rfl ⟨⟨rfl, by decide⟩, trivial⟩ (l' := [.slice (some ⟨b23, 0, none⟩) (wkTs b12 b18 b21).length 3, .slice none ([] : List TurnD).length 0]) rfl ?_)
 have hsin : ∀ s ∈ wkTs b12 b18 b21, StepIn w6 s := fun s hs => by
  have h12 : Sl w6 (some ⟨b12, 0, none⟩) wkR.length 2 (wkR.flatMap RowD.cells) := ⟨rfl, .inr ⟨b12, 0, rfl, hb12.seg⟩⟩
  rcases List.mem_cons.1 hs with rfl | hs
  ·exact ⟨h12, (by show 1 < 9223372036854775808; decide), Sl.nil _ _ _, (by show 0 < 9223372036854775808; decide)⟩
  rcases List.mem_cons.1 hs with rfl | hs
  ·exact ⟨h12, (by show 1 < 9223372036854775808; decide), ⟨rfl, .inr ⟨b18, 0, rfl, hb18.seg⟩⟩, (by show 1 < 9223372036854775808; decide)⟩
  rw [List.mem_singleton.1 hs]
  exact ⟨h12, (by show 1 < 9223372036854775808; decide), ⟨rfl, .inr ⟨b21, 0, rfl, hb21.seg⟩⟩, (by show 1 < 9223372036854775808; decide)⟩
 refine wl (st_call Tryz.call9 rfl rfl rfl rfl rfl rfl (made_calls w6 (steps := wkTs b12 b18 b21) (turns := []) ⟨rfl, .inr ⟨b23, 0, rfl, hb23.seg⟩⟩ hsin (show 3 < 9223372036854775808 by decide) (Sl.nil _ _ _) (fun _ h => (by cases h)) (by decide)) fun v7 w7 hr7 => ?_)
 obtain ⟨q, k, m, qi, ki, ids, rfl, hMQ, hMD, hE7⟩ := hr7
 have hb12 := hb12.extNo hE7
 have hb1 := hb1.extNo hE7
 have hX := hX.thenNo hE7
 have hMD := hMD rfl
 have hMD : (toHp m, ids) = madeD wkS := hMD
 have hM : toHp m = wkH := (congrArg Prod.fst hMD).trans wkH_eq
 have hI : ids = wkI := (congrArg Prod.snd hMD).trans wkI_eq
 have hil : ids.length = 3 := by rw [hI, wk_len]
 have hml : m.length = 5 := by have := congrArg List.length hM; rw [wk_hlen, toHp, List.length_map] at this; exact this
 obtain ⟨hi0, hi1, hi2⟩ := wk_ids hI hMQ.iin
 obtain ⟨ib, io, rfl, hir⟩ := hMQ.own.sl.rowAll (fun r hr => (hMQ.iin r hr : IdIn r).len) (by omega)
 have hid : ∀ i, i < 3 → Seg w7 ib (io + i * 32) (bytesU (wkC i)) := fun i hi => by
  have h := hir i (by omega)
  have e : ids[i]'(by omega) = wkC i := by
   have := wkC_at (i := i) (by rw [wk_len]; exact hi)
   rw [← this]; congr 1
  rw [e] at h; exact h
 have hR := MadeQ.round (k := k) hMQ
 obtain ⟨N, hN⟩ : ∃ N, N = w7.heap.size := ⟨_, rfl⟩
 rw [← hN] at hR
 refine wl_p I_ok rfl ?_
 have hR0 := hR.n
 have hid0 := hid 0 (by decide)
 refine wl (st_al I_ok rfl fun b2 w8 hn2 hb2 hE8 => ?_)
 have ne12_2 : b12 ≠ b2 := Nat.ne_of_lt (Nat.lt_of_lt_of_le hb12.lt hn2)
 have ne1_2 : b1 ≠ b2 := Nat.ne_of_lt (Nat.lt_of_lt_of_le hb1.lt hn2)
 have fr2 := Nat.le_trans hX.size hn2
 have hb12 := hb12.extNo hE8
 have hb1 := hb1.extNo hE8
 have hR := hR.no hE8
 have hid := fun i hi => (hid i hi).extNo hE8
 have hX := hX.thenNo hE8
 have fN2 := Nat.le_trans hR0 hn2
 have nib2 : ib ≠ b2 := fun e => by have := hid0.lt (by intro e; have := congrArg List.length e; rw [bytesU_len, hi0] at this; cases this); omega
 refine wl (st_stW (l' := [.slice q m.length k]) I_ok hb2 rfl rfl rfl rfl OneC.h fun w9 hb2 hE9 hs9 => ?_)
 have hb12 := hb12.ext1 hE9 ne12_2
 have hb1 := hb1.ext1 hE9 ne1_2
 have hR := hR.one hE9 fN2
 have hid := fun i hi => (hid i hi).ext hE9 (fun e => (by have e : ib = b2 := e; exact nib2 e))
 have hX := hX.thenNew hE9 fr2
 refine wl_p I_ok rfl (wl_nil (f_then (c_seq (c_draw rfl 10 [(0, true), (1, true), (2, true), (3, true), (4, false), (5, true), (6, true), (7, true), (8, true), (9, true)] [] (No) (by kernel_rfl) fun w10 hE10 hs10 => ?_))))
 have hd1 := hb1
 have hd2 := hb2
 have hRd := hR
 have hidd := hid
 have hb12 := hb12.extNo hE10
 have hb1 := hb1.extNo hE10
 have hb2 := hb2.extNo hE10
 have hR := hR.no hE10
 have hid := fun i hi => (hid i hi).extNo hE10
 have hX := hX.thenNo hE10
 have hC : Ext (No) _ w10 := hE10.no
 refine wd_ldN I_ok rfl rfl (fun w' hw' => (hd2.extNo hw').seg) rfl ?_
 refine wd_k I_ok 1 rfl (wd_ix I_ok rfl rfl 32 rfl 1 rfl (by omega) (io + 1 * 32) rfl (wd_ldN I_ok rfl rfl (fun w' hw' => ((hidd 1 (by decide)).extNo hw')) hi1.len ?_))
 refine wd_l rfl (st_call Tryz.call30 rfl rfl rfl rfl rfl rfl (wk_history (l := m) hR.hp.now hM hi1) fun v11 w11 hr11 => ⟨(by obtain ⟨q4, k4, rfl, h4, hE11⟩ := hr11; exact hC.thenNo hE11), ?_⟩)
 obtain ⟨q4, k4, rfl, h4, hE11⟩ := hr11
 have hb12 := hb12.extNo hE11
 have hb1 := hb1.extNo hE11
 have hb2 := hb2.extNo hE11
 have hR := hR.no hE11
 have hid := fun i hi => (hid i hi).extNo hE11
 have hX := hX.thenNo hE11
 have hC := hC.thenNo hE11
 refine wd_k I_ok 5 rfl (wd_sw (wb_nil (f_then ?_)))
 have hltc12 := hb12.lt
 have hltc1 := hb1.lt
 have hltc2 := hb2.lt
 have hszc := hX.size
 refine c_cutK (α := (Unit) × Nat) [1, 2, 3, 4, 5] rfl (fun z => [(6, .pointer (some ⟨z.2, 0, none⟩)), (7, .bool true), (8, .int .i64 0)]) (fun z u => ((∀ i, i < 3 → Seg u ib (io + i * 32) (bytesU (wkC i))) ∧ Sl u q4 2 32 ([wkC 1, wkC 0].flatMap bytesU) ∧ MadeR N N N ⟨m, q, k, ids, (some ⟨ib, io, none⟩), ki⟩ u) ∧ Blk u b12 73 (wkR.flatMap RowD.cells) ∧ Blk u b1 62 ([.slice (some ⟨b12, 0, none⟩) wkR.length 1]) ∧ Blk u b2 29 ([.slice q m.length k]) ∧ Blk u z.2 35 (bytesU (wkC 0)) ∧ w11.heap.size ≤ z.2 ∧ Ext No w u) ?_ ?_
 ·have hQ := Nat.le_refl w11.heap.size
  refine c_drawX rfl 16 16 [] (No) (by kernel_rfl) fun w12 hE12 hs12 => ?_
  have hd2 := hb2
  have hidd := hid
  have hb12 := hb12.extNo hE12
  have hb1 := hb1.extNo hE12
  have hb2 := hb2.extNo hE12
  have hR := hR.no hE12
  have hid := fun i hi => (hid i hi).extNo hE12
  have h4 := h4.extNo hE12
  have hQ := Nat.le_trans hQ hE12.size
  have hX := hX.thenNo hE12
  have hC : Ext No _ w12 := hE12
  refine wx_plan [(0, true), (1, true), (2, true), (3, true), (4, true), (5, true), (6, true)] 9 rfl (by kernel_rfl) (wd_ldN I_ok rfl rfl (fun w' hw' => (hd2.extNo hw').seg) rfl ?_)
  refine wd_k I_ok 1 rfl (wd_ix I_ok rfl rfl 32 rfl 1 rfl (by omega) (io + 1 * 32) rfl (wd_ldN I_ok rfl rfl (fun w' hw' => ((hidd 1 (by decide)).extNo hw')) hi1.len ?_))
  refine wd_k I_ok 1 rfl (wd_ix I_ok rfl rfl 32 rfl 2 rfl (by omega) (io + 2 * 32) rfl (wd_ldN I_ok rfl rfl (fun w' hw' => ((hidd 2 (by decide)).extNo hw')) hi2.len ?_))
  refine wd_tail rfl (wx_alt [7, 12] rfl (by kernel_rfl) ⟨⟨_, rfl, ?_⟩, ⟨_, rfl, ?_⟩, trivial⟩)
  ·refine st_call Tryz.call11 rfl rfl rfl rfl rfl rfl (wk_baseC (l := m) hR.hp.now hM hi1 hi2) fun v13 w13 hr13 => ⟨(by obtain ⟨rfl, hE13⟩ := hr13; exact hC.thenNo hE13), ?_⟩
   obtain ⟨rfl, hE13⟩ := hr13
   have hb12 := hb12.extNo hE13
   have hb1 := hb1.extNo hE13
   have hb2 := hb2.extNo hE13
   have hR := hR.no hE13
   have hid := fun i hi => (hid i hi).extNo hE13
   have h4 := h4.extNo hE13
   have hQ := Nat.le_trans hQ hE13.size
   have hX := hX.thenNo hE13
   have hC := hC.thenNo hE13
   refine wx_plan [(8, true), (9, true), (10, true), (11, true), (12, false), (13, false), (14, true), (15, true)] 0 rfl (by kernel_rfl) (wd_k I_ok 4 rfl ?_)
   have hR0 := hR.n
   have hid0 := hid 0 (by decide)
   have h40 := h4
   refine wd_l rfl (st_al I_ok rfl fun b6 w14 hn6 hb6 hE14 => ⟨hC.thenNo hE14, ?_⟩)
   have ne12_6 : b12 ≠ b6 := Nat.ne_of_lt (Nat.lt_of_lt_of_le hb12.lt hn6)
   have ne1_6 : b1 ≠ b6 := Nat.ne_of_lt (Nat.lt_of_lt_of_le hb1.lt hn6)
   have ne2_6 : b2 ≠ b6 := Nat.ne_of_lt (Nat.lt_of_lt_of_le hb2.lt hn6)
   have fr6 := Nat.le_trans hX.size hn6
   have frhQ6 := Nat.le_trans hQ hn6
   have frhC6 := Nat.le_trans hC.size hn6
   have hb12 := hb12.extNo hE14
   have hb1 := hb1.extNo hE14
   have hb2 := hb2.extNo hE14
   have hR := hR.no hE14
   have hid := fun i hi => (hid i hi).extNo hE14
   have h4 := h4.extNo hE14
   have hQ := Nat.le_trans hQ hE14.size
   have hX := hX.thenNo hE14
   have hC := hC.thenNo hE14
   have fN6 := Nat.le_trans hR0 hn6
   have nib6 : ib ≠ b6 := fun e => by have := hid0.lt (by intro e; have := congrArg List.length e; rw [bytesU_len, hi0] at this; cases this); omega
   have n4_6 : ∀ b off, q4 = some ⟨b, off, none⟩ → ¬ b = b6 := fun b off e k => by have := (sl_lt h40 (by decide) e); omega
   refine wd_l rfl (st_stW (l' := bytesU (wkC 0)) I_ok hb6 rfl rfl hi0.len (by rw [bytesU_len, hi0]; rfl) OneC.h fun w15 hb6 hE15 hs15 => ⟨hC.thenNew hE15 frhC6, ?_⟩)
   have hb12 := hb12.ext1 hE15 ne12_6
   have hb1 := hb1.ext1 hE15 ne1_6
   have hb2 := hb2.ext1 hE15 ne2_6
   have hR := hR.one hE15 fN6
   have hid := fun i hi => (hid i hi).ext hE15 (fun e => (by have e : ib = b6 := e; exact nib6 e))
   have h4 := h4.ext hE15 (fun b off e => n4_6 b off e)
   have hQ := Nat.le_trans hQ hE15.size
   have hX := hX.thenNew hE15 fr6
   refine wd_k I_ok 2 rfl (wd_sw (wb_nil ?_))
   exact f_cut ((()), b6) rfl ⟨⟨hid, h4, hR⟩, hb12, hb1, hb2, hb6, frhQ6, hX⟩
  ·have hR0 := hR.n
   have hid0 := hid 0 (by decide)
   have h40 := h4
   refine st_al I_ok rfl fun b6 w16 hn6 hb6 hE16 => ⟨hC.thenNo hE16, ?_⟩
   have ne12_6 : b12 ≠ b6 := Nat.ne_of_lt (Nat.lt_of_lt_of_le hb12.lt hn6)
   have ne1_6 : b1 ≠ b6 := Nat.ne_of_lt (Nat.lt_of_lt_of_le hb1.lt hn6)
   have ne2_6 : b2 ≠ b6 := Nat.ne_of_lt (Nat.lt_of_lt_of_le hb2.lt hn6)
   have fr6 := Nat.le_trans hX.size hn6
   have frhQ6 := Nat.le_trans hQ hn6
   have frhC6 := Nat.le_trans hC.size hn6
   have hb12 := hb12.extNo hE16
   have hb1 := hb1.extNo hE16
   have hb2 := hb2.extNo hE16
   have hR := hR.no hE16
   have hid := fun i hi => (hid i hi).extNo hE16
   have h4 := h4.extNo hE16
   have hQ := Nat.le_trans hQ hE16.size
   have hX := hX.thenNo hE16
   have hC := hC.thenNo hE16
   have fN6 := Nat.le_trans hR0 hn6
   have nib6 : ib ≠ b6 := fun e => by have := hid0.lt (by intro e; have := congrArg List.length e; rw [bytesU_len, hi0] at this; cases this); omega
   have n4_6 : ∀ b off, q4 = some ⟨b, off, none⟩ → ¬ b = b6 := fun b off e k => by have := (sl_lt h40 (by decide) e); omega
   refine wx_plan [(7, false), (8, true), (9, true), (10, true), (11, true), (13, false), (14, true), (15, true)] 0 rfl (by kernel_rfl) ?_
   refine wd_l rfl (st_call Tryz.call11 rfl rfl rfl rfl rfl rfl (wk_baseC (l := m) hR.hp.now hM hi1 hi2) fun v17 w17 hr17 => ⟨(by obtain ⟨rfl, hE17⟩ := hr17; exact hC.thenNo hE17), ?_⟩)
   obtain ⟨rfl, hE17⟩ := hr17
   have hb12 := hb12.extNo hE17
   have hb1 := hb1.extNo hE17
   have hb2 := hb2.extNo hE17
   have hb6 := hb6.extNo hE17
   have hR := hR.no hE17
   have hid := fun i hi => (hid i hi).extNo hE17
   have h4 := h4.extNo hE17
   have hQ := Nat.le_trans hQ hE17.size
   have hX := hX.thenNo hE17
   have hC := hC.thenNo hE17
   refine wd_k I_ok 4 rfl (wd_l rfl (st_stW (l' := bytesU (wkC 0)) I_ok hb6 rfl rfl hi0.len (by rw [bytesU_len, hi0]; rfl) OneC.h fun w18 hb6 hE18 hs18 => ⟨hC.thenNew hE18 frhC6, ?_⟩))
   have hb12 := hb12.ext1 hE18 ne12_6
   have hb1 := hb1.ext1 hE18 ne1_6
   have hb2 := hb2.ext1 hE18 ne2_6
   have hR := hR.one hE18 fN6
   have hid := fun i hi => (hid i hi).ext hE18 (fun e => (by have e : ib = b6 := e; exact nib6 e))
   have h4 := h4.ext hE18 (fun b off e => n4_6 b off e)
   have hQ := Nat.le_trans hQ hE18.size
   have hX := hX.thenNew hE18 fr6
   refine wd_k I_ok 2 rfl (wd_sw (wb_nil ?_))
   exact f_cut ((()), b6) rfl ⟨⟨hid, h4, hR⟩, hb12, hb1, hb2, hb6, frhQ6, hX⟩
 rintro ⟨z, b6⟩ w19 ⟨⟨hid, h4, hR⟩, hb12, hb1, hb2, hb6, hn6, hX⟩
 try dsimp only
 dsimp only at hb6 hn6
 have hltc12 := hb12.lt
 have hltc1 := hb1.lt
 have hltc2 := hb2.lt
 have hltc6 := hb6.lt
 have hszc := hX.size
 refine c_cutK (α := (Option Addr × Nat) × Nat) [1, 3, 4, 5, 6, 7, 8] rfl (fun z => [(9, .pointer (some ⟨z.2, 0, none⟩)), (10, .int .i64 0)]) (fun z u => ((∀ i, i < 3 → Seg u ib (io + i * 32) (bytesU (wkC i))) ∧ Sl u q4 2 32 ([wkC 1, wkC 0].flatMap bytesU) ∧ Sl u z.1.1 1 2 (([⟨[97], [49]⟩] : List RowD).flatMap RowD.cells)) ∧ Blk u b12 73 (wkR.flatMap RowD.cells) ∧ Blk u b1 62 ([.slice (some ⟨b12, 0, none⟩) wkR.length 1]) ∧ Blk u b2 29 ([.slice q m.length k]) ∧ Blk u b6 35 (bytesU (wkC 0)) ∧ Blk u z.2 62 ([.slice z.1.1 1 z.1.2]) ∧ w19.heap.size ≤ z.2 ∧ Ext No w u) ?_ ?_
 ·have hQ := Nat.le_refl w19.heap.size
  refine c_drawX rfl 13 13 [] (No) (by kernel_rfl) fun w20 hE20 hs20 => ?_
  have hd2 := hb2
  have hRd := hR
  have hb12 := hb12.extNo hE20
  have hb1 := hb1.extNo hE20
  have hb2 := hb2.extNo hE20
  have hb6 := hb6.extNo hE20
  have hR := hR.no hE20
  have hid := fun i hi => (hid i hi).extNo hE20
  have h4 := h4.extNo hE20
  have hQ := Nat.le_trans hQ hE20.size
  have hX := hX.thenNo hE20
  have hC : Ext No _ w20 := hE20
  obtain ⟨mb, mo, hmq, hmr⟩ := (hRd.hp.now).sl.rowAll (hRd.hp.now).c (by dsimp only; omega)
  dsimp only at hmq
  subst hmq
  have hmr1 := held_id (hmr 1 (by dsimp only; omega))
  rw [wkT_at hM] at hmr1
  have hTi : IdIn wkT := by have := ((hRd.hp.now).ins _ (List.getElem_mem (show 1 < m.length by omega))).id; rw [wkT_at hM] at this; exact this
  refine wx_plan [(0, true), (1, true), (2, true), (3, true), (4, true), (5, true)] 7 rfl (by kernel_rfl) (wd_ldN I_ok rfl rfl (fun w' hw' => (hd2.extNo hw').seg) rfl ?_)
  refine wd_k I_ok 1 rfl (wd_ld I_ok rfl rfl (fun w' hw' => (hd2.extNo hw').cell rfl) ?_)
  refine wd_ix I_ok rfl rfl 105 rfl 1 rfl (by omega) (mo + 1 * 105) rfl (wd_k I_ok 1 rfl (wd_ldN I_ok rfl rfl (fun w' hw' => (hmr1.extNo hw')) hTi.len ?_))
  refine wd_tail rfl (wx_alt [6, 10] rfl (by kernel_rfl) ⟨⟨_, rfl, ?_⟩, ⟨_, rfl, ?_⟩, trivial⟩)
  ·try have hb9L := hb9.lt
   refine st_call Tryz.call23 rfl rfl rfl rfl rfl rfl (wk_mapC (l := m) hR.hp.now hM hTi) fun v21 w21 hr21 => ⟨(by obtain ⟨q9, k9, rfl, h9, h9n, hE21⟩ := hr21; exact hC.thenNo hE21), ?_⟩
   obtain ⟨q9, k9, rfl, h9, h9n, hE21⟩ := hr21
   have hb12 := hb12.extNo hE21
   have hb1 := hb1.extNo hE21
   have hb2 := hb2.extNo hE21
   have hb6 := hb6.extNo hE21
   have hR := hR.no hE21
   have hid := fun i hi => (hid i hi).extNo hE21
   have h4 := h4.extNo hE21
   have hQ := Nat.le_trans hQ hE21.size
   have hX := hX.thenNo hE21
   have hC := hC.thenNo hE21
   try have n9_9 : ∀ b off, q9 = some ⟨b, off, none⟩ → ¬ b = b9 := fun b off e k => by have := h9n b off e; omega
   refine wx_plan [(7, true), (8, true), (9, true), (10, false), (11, false), (12, true)] 0 rfl (by kernel_rfl) (wd_k I_ok 3 rfl ?_)
   have hR0 := hR.n
   have hid0 := hid 0 (by decide)
   have h40 := h4
   try have h90 := h9
   refine wd_l rfl (st_al I_ok rfl fun b9 w22 hn9 hb9 hE22 => ⟨hC.thenNo hE22, ?_⟩)
   have ne12_9 : b12 ≠ b9 := Nat.ne_of_lt (Nat.lt_of_lt_of_le hb12.lt hn9)
   have ne1_9 : b1 ≠ b9 := Nat.ne_of_lt (Nat.lt_of_lt_of_le hb1.lt hn9)
   have ne2_9 : b2 ≠ b9 := Nat.ne_of_lt (Nat.lt_of_lt_of_le hb2.lt hn9)
   have ne6_9 : b6 ≠ b9 := Nat.ne_of_lt (Nat.lt_of_lt_of_le hb6.lt hn9)
   have fr9 := Nat.le_trans hX.size hn9
   have frhQ9 := Nat.le_trans hQ hn9
   have frhC9 := Nat.le_trans hC.size hn9
   have hb12 := hb12.extNo hE22
   have hb1 := hb1.extNo hE22
   have hb2 := hb2.extNo hE22
   have hb6 := hb6.extNo hE22
   have hid := fun i hi => (hid i hi).extNo hE22
   have h4 := h4.extNo hE22
   have h9 := h9.extNo hE22
   have hQ := Nat.le_trans hQ hE22.size
   have hX := hX.thenNo hE22
   have hC := hC.thenNo hE22
   have fN9 := Nat.le_trans hR0 hn9
   have nib9 : ib ≠ b9 := fun e => by have := hid0.lt (by intro e; have := congrArg List.length e; rw [bytesU_len, hi0] at this; cases this); omega
   have n4_9 : ∀ b off, q4 = some ⟨b, off, none⟩ → ¬ b = b9 := fun b off e k => by have := (sl_lt h40 (by decide) e); omega
   try have n9_9 : ∀ b off, q9 = some ⟨b, off, none⟩ → ¬ b = b9 := fun b off e k => by have := (sl_lt h90 (by decide) e); omega
   refine wd_l rfl (st_stW (l' := [.slice q9 1 k9]) I_ok hb9 rfl rfl rfl rfl OneC.h fun w23 hb9 hE23 hs23 => ⟨hC.thenNew hE23 frhC9, ?_⟩)
   have hb12 := hb12.ext1 hE23 ne12_9
   have hb1 := hb1.ext1 hE23 ne1_9
   have hb2 := hb2.ext1 hE23 ne2_9
   have hb6 := hb6.ext1 hE23 ne6_9
   have hid := fun i hi => (hid i hi).ext hE23 (fun e => (by have e : ib = b9 := e; exact nib9 e))
   have h4 := h4.ext hE23 (fun b off e => n4_9 b off e)
   have h9 := h9.ext hE23 (fun b off e => n9_9 b off e)
   have hQ := Nat.le_trans hQ hE23.size
   have hX := hX.thenNew hE23 fr9
   refine wd_k I_ok 1 rfl (wd_sw (wb_nil ?_))
   exact f_cut ((q9, k9), b9) rfl ⟨⟨hid, h4, h9⟩, hb12, hb1, hb2, hb6, hb9, frhQ9, hX⟩
  ·have hR0 := hR.n
   have hid0 := hid 0 (by decide)
   have h40 := h4
   try have h90 := h9
   refine st_al I_ok rfl fun b9 w24 hn9 hb9 hE24 => ⟨hC.thenNo hE24, ?_⟩
   have ne12_9 : b12 ≠ b9 := Nat.ne_of_lt (Nat.lt_of_lt_of_le hb12.lt hn9)
   have ne1_9 : b1 ≠ b9 := Nat.ne_of_lt (Nat.lt_of_lt_of_le hb1.lt hn9)
   have ne2_9 : b2 ≠ b9 := Nat.ne_of_lt (Nat.lt_of_lt_of_le hb2.lt hn9)
   have ne6_9 : b6 ≠ b9 := Nat.ne_of_lt (Nat.lt_of_lt_of_le hb6.lt hn9)
   have fr9 := Nat.le_trans hX.size hn9
   have frhQ9 := Nat.le_trans hQ hn9
   have frhC9 := Nat.le_trans hC.size hn9
   have hb12 := hb12.extNo hE24
   have hb1 := hb1.extNo hE24
   have hb2 := hb2.extNo hE24
   have hb6 := hb6.extNo hE24
   have hR := hR.no hE24
   have hid := fun i hi => (hid i hi).extNo hE24
   have h4 := h4.extNo hE24
   have hQ := Nat.le_trans hQ hE24.size
   have hX := hX.thenNo hE24
   have hC := hC.thenNo hE24
   have fN9 := Nat.le_trans hR0 hn9
   have nib9 : ib ≠ b9 := fun e => by have := hid0.lt (by intro e; have := congrArg List.length e; rw [bytesU_len, hi0] at this; cases this); omega
   have n4_9 : ∀ b off, q4 = some ⟨b, off, none⟩ → ¬ b = b9 := fun b off e k => by have := (sl_lt h40 (by decide) e); omega
   try have n9_9 : ∀ b off, q9 = some ⟨b, off, none⟩ → ¬ b = b9 := fun b off e k => by have := (sl_lt h90 (by decide) e); omega
   refine wx_plan [(6, false), (7, true), (8, true), (9, true), (11, false), (12, true)] 0 rfl (by kernel_rfl) ?_
   try have hb9L := hb9.lt
   refine wd_l rfl (st_call Tryz.call23 rfl rfl rfl rfl rfl rfl (wk_mapC (l := m) hR.hp.now hM hTi) fun v25 w25 hr25 => ⟨(by obtain ⟨q9, k9, rfl, h9, h9n, hE25⟩ := hr25; exact hC.thenNo hE25), ?_⟩)
   obtain ⟨q9, k9, rfl, h9, h9n, hE25⟩ := hr25
   have hb12 := hb12.extNo hE25
   have hb1 := hb1.extNo hE25
   have hb2 := hb2.extNo hE25
   have hb6 := hb6.extNo hE25
   have hb9 := hb9.extNo hE25
   have hid := fun i hi => (hid i hi).extNo hE25
   have h4 := h4.extNo hE25
   have hQ := Nat.le_trans hQ hE25.size
   have hX := hX.thenNo hE25
   have hC := hC.thenNo hE25
   try have n9_9 : ∀ b off, q9 = some ⟨b, off, none⟩ → ¬ b = b9 := fun b off e k => by have := h9n b off e; omega
   refine wd_k I_ok 3 rfl (wd_l rfl (st_stW (l' := [.slice q9 1 k9]) I_ok hb9 rfl rfl rfl rfl OneC.h fun w26 hb9 hE26 hs26 => ⟨hC.thenNew hE26 frhC9, ?_⟩))
   have hb12 := hb12.ext1 hE26 ne12_9
   have hb1 := hb1.ext1 hE26 ne1_9
   have hb2 := hb2.ext1 hE26 ne2_9
   have hb6 := hb6.ext1 hE26 ne6_9
   have hid := fun i hi => (hid i hi).ext hE26 (fun e => (by have e : ib = b9 := e; exact nib9 e))
   have h4 := h4.ext hE26 (fun b off e => n4_9 b off e)
   have h9 := h9.ext hE26 (fun b off e => n9_9 b off e)
   have hQ := Nat.le_trans hQ hE26.size
   have hX := hX.thenNew hE26 fr9
   refine wd_k I_ok 1 rfl (wd_sw (wb_nil ?_))
   exact f_cut ((q9, k9), b9) rfl ⟨⟨hid, h4, h9⟩, hb12, hb1, hb2, hb6, hb9, frhQ9, hX⟩
 rintro ⟨⟨q9, k9⟩, b9⟩ w27 ⟨⟨hid, h4, h9⟩, hb12, hb1, hb2, hb6, hb9, hn9, hX⟩
 try dsimp only
 dsimp only at hb9 hn9
 refine c_cutK (α := Unit) [] rfl (fun z => [(0, .bool true)]) (fun z u => Ext No w u) ?_ ?_
 ·refine c_draw rfl 40 [(0, true), (1, true), (2, true), (3, true), (4, true), (5, true), (6, true), (7, true), (8, true), (9, true), (10, true), (11, true), (12, true), (13, true), (14, true), (15, true), (16, true), (17, true), (18, true), (19, true), (20, true), (21, true), (22, true), (23, true), (24, true), (25, true), (26, true), (27, true), (28, true), (29, true), (30, true), (31, true), (32, true), (33, true), (34, true), (35, true), (36, true), (37, false), (38, true), (39, true)] [] (No) (by kernel_rfl) fun w28 hE28 hs28 => ?_
  have hd1 := hb1
  have hd6 := hb6
  have hd9 := hb9
  have hidd := hid
  have h4d := h4
  have hb12 := hb12.extNo hE28
  have hid := fun i hi => (hid i hi).extNo hE28
  have h9 := h9.extNo hE28
  have hX := hX.thenNo hE28
  have hC : Ext (No) _ w28 := hE28.no
  obtain ⟨hb_, ho_, hq4, h4r⟩ := (show Sl _ q4 [wkC 1, wkC 0].length 32 _ from h4d).rowAll (fun r hr => by rcases List.mem_cons.1 hr with rfl | hr; exact hi1.len; rw [List.mem_singleton.1 hr]; exact hi0.len) (by decide)
  subst hq4
  refine wd_k I_ok 3 rfl (wd_caseD 60 rfl (fun hg => ?_) (fun hg => ?_))
  ·refine wd_k I_ok 4 rfl ?_
   refine wd_caseD 64 rfl (fun hg => ?_) (fun hg => ?_)
   ·refine wd_k I_ok 4 rfl ?_
    refine wd_caseD 68 rfl (fun hg => ?_) (fun hg => ?_)
    ·refine wd_k I_ok 3 rfl ?_
     refine wd_case 71 rfl (fun hg => ?_) (fun hg => ?_)
     ·refine wd_ldN I_ok rfl rfl (fun w' hw' => (hd6.extNo hw').seg) hi0.len ?_
      refine wd_k I_ok 1 rfl (wd_ix I_ok rfl rfl 32 rfl 0 rfl (by omega) (io + 0 * 32) rfl (wd_ldN I_ok rfl rfl (fun w' hw' => ((hidd 0 (by decide)).extNo hw')) hi0.len ?_))
      refine wd_eqK rfl rfl gId 10 (by decide) kId (idForm hi0) (idForm hi0) (idKey hi0) (idKey hi0) idLits_inj ?_
      simp only [if_true]
      refine wd_k I_ok 2 rfl (wd_caseD 78 rfl (fun hg => ?_) (fun hg => ?_))
      ·refine wd_k I_ok 5 rfl ?_
       refine wd_caseD 83 rfl (fun hg => ?_) (fun hg => ?_)
       ·refine wd_k I_ok 1 rfl ?_
        refine wd_ix I_ok rfl rfl 32 rfl 0 rfl (by decide) (ho_ + 0 * 32) rfl (wd_ldN I_ok rfl rfl (fun w' hw' => ((h4r 0 (by decide)).extNo hw')) hi1.len ?_)
        refine wd_k I_ok 1 rfl (wd_ix I_ok rfl rfl 32 rfl 1 rfl (by omega) (io + 1 * 32) rfl (wd_ldN I_ok rfl rfl (fun w' hw' => ((hidd 1 (by decide)).extNo hw')) hi1.len ?_))
        refine wd_eqK rfl rfl gId 10 (by decide) kId (idForm hi1) (idForm hi1) (idKey hi1) (idKey hi1) idLits_inj ?_
        simp only [if_true]
        refine wd_k I_ok 2 rfl (wd_caseD 92 rfl (fun hg => ?_) (fun hg => ?_))
        ·refine wd_ldN I_ok rfl rfl (fun w' hw' => (hd1.extNo hw').seg) rfl ?_
         refine wd_ldN I_ok rfl rfl (fun w' hw' => (hd9.extNo hw').seg) rfl ?_
         refine wd_l rfl (st_call Tryz.call26 rfl rfl rfl rfl rfl rfl (same5_calls w28 (l := wkR) (m := wkR) ⟨rfl, .inr ⟨b12, 0, rfl, hb12.seg⟩⟩ h9 (by decide) wkR_in wkR_in) fun v29 w29 hr29 => ⟨(by obtain ⟨rfl, hE29⟩ := hr29; exact hC.thenNo hE29), ?_⟩)
         obtain ⟨rfl, hE29⟩ := hr29
         have hid := fun i hi => (hid i hi).extNo hE29
         have hX := hX.thenNo hE29
         rw [show decide (wkR = wkR) = true from decide_eq_true rfl]
         refine wd_k I_ok 2 rfl (wd_sw (wb_nil ?_))
         exact f_cut (()) rfl hX
        ·exact absurd trivial hg
       ·exact absurd rfl hg
      ·exact absurd trivial hg
     ·exact absurd hg (by decide)
    ·exact absurd rfl hg
   ·exact absurd rfl hg
  ·exact absurd rfl hg
 rintro z w30 hX
 refine c_ret (f_ret1 rfl rfl ?_)
 exact ⟨rfl, hX⟩
end Go.Proofs.YtoapldhadeoeiaaGreat
namespace Go.Proofs.YtoapldhadeoeiaaGreat
open Go.Vc
/-- it holds, and goes on to hold as long as only what is newer turns -/
structure KS (N : Nat) (w : World) (P : World → Prop) : Prop where
  n : N ≤ w.heap.size
  st : Stb (fun x => N ≤ x) w P
theorem KS.now {N : Nat} {w : World} {P : World → Prop} (h : KS N w P) : P w := h.st.now
theorem KS.ext {N : Nat} {w w' : World} {P : World → Prop} (h : KS N w P) {T : Nat → Prop} (hE : Ext T w w') (hT : ∀ x, x < w.heap.size → T x → N ≤ x) : KS N w' P := ⟨Nat.le_trans h.n hE.size, h.st.step hE hT fun _ _ k => k⟩
theorem KS.no {N : Nat} {w w' : World} {P : World → Prop} (h : KS N w P) (hE : Ext No w w') : KS N w' P := h.ext hE fun _ _ k => k.elim
theorem KS.one {N b : Nat} {w w' : World} {P : World → Prop} (h : KS N w P) (hE : Ext (One b) w w') (hb : N ≤ b) : KS N w' P := h.ext hE fun x _ e => by have e : x = b := e; omega
theorem KS.mk0 {w : World} {P : World → Prop} (h : ∀ u, Ext No w u → P u) : KS w.heap.size w P := ⟨Nat.le_refl _, fun u hu => h u (hu.mono fun x hx k => by omega)⟩
theorem StepIn.extNo {w w' : World} {s : StepT} (h : StepIn w s) (hE : Ext No w w') : StepIn w' s := ⟨h.rows.extNo hE, h.rl, h.back.extNo hE, h.bl⟩
theorem id9_in : IdIn id9 := rfl
end Go.Proofs.YtoapldhadeoeiaaGreat
namespace Go.Vc
open Go.WideShapes Go.ChangeShapes Go.RowKit

section
variable {H : Type} {enc : TypeId × Value → H} {P : Program} {w w' : World}

theorem Ext.sameAt (hE : Ext No w w') {p : MemPlace} (hp : p.block < w.heap.size) : w.sameAt w' p := by
 cases p with
 | cell b off =>
  have := hE.same b hp id
  show w'.cell? ⟨b, off, none⟩ = w.cell? ⟨b, off, none⟩
  unfold World.cell?
  rw [this]
 | map b => exact hE.same b hp id

theorem trodAll_carry {base : Nat} {sp : Nat → Bool} {held : Bool} : ∀ {ts : List TypeId} {vs : List Value} {ds : List (DataW H)} {ps : List MemPlace}, DataW.TrodAll enc P w base sp held ts vs ds ps → (∀ p ∈ ps, w.sameAt w' p) → DataW.TrodAll enc P w' base sp held ts vs ds ps
 | [], [], [], _, h, _ => h
 | _ :: _, _ :: _, _ :: _, _, ⟨p, q, ⟨n, h1⟩, h2, e⟩, hs => ⟨p, q, ⟨n, DataW.trod_carry n _ _ _ h1 fun x hx => hs x (by rw [e]; exact List.mem_append_left _ hx)⟩, trodAll_carry h2 fun x hx => hs x (by rw [e]; exact List.mem_append_right _ hx), e⟩

/-- what came in reads as it read; of what is frozen only that is asked which lay there before -/
theorem post_of_old {f : Func} {s : ChangeSpec} {apart fresh handsOn again : Bool} {W W' : World} {args : Array Value} {v : Value} {ds gs : List (DataW H)} {before pa pv : List MemPlace}
  (hW : DataW.Whole enc P f.params.toList s.vars apart W args.toList ds gs before)
  (hres : ∀ (b : Nat) (sp : Nat → Bool) (hd : Bool), DataW.TrodAll enc P W' b sp hd f.resultTypes.toList (v.resultList f.resultTypes.size) (s.fn H (ds ++ gs)).results [])
  (hargs : ∀ sp : Nat → Bool, (∀ p ∈ before, sp p.block = true) → DataW.TrodAll enc P W' 0 sp true f.params.toList args.toList (s.fn H (ds ++ gs)).args pa)
  (hvars : ∀ sp : Nat → Bool, (∀ p ∈ before, sp p.block = true) → DataW.TrodVars enc P W' sp s.vars (s.fn H (ds ++ gs)).vars pv)
  (hps : before = pa ++ pv) (hk : W.keptBut W' (· ∈ before)) (hfz : ∀ a : Addr, a.block < W.heap.size → W'.frozen? a = W.frozen? a)
  (hok : ∀ (j : Nat) (t : TypeId) (r : Value), f.resultTypes[j]? = some t → (v.resultList f.resultTypes.size)[j]? = some r → Value.okWide P W' .any 0 t r) :
  s.post enc P f apart fresh handsOn again W args v W' := by
 have hlt : ∀ p ∈ before, p.block < W.heap.size := fun p hp => hW.lt p hp
 have hold : ∀ p ∈ before, (fun b => decide (b < W.heap.size)) p.block = true := fun p hp => by simpa using hlt p hp
 have e1 : ∀ p, p ∈ [] ++ pa ++ pv ↔ p ∈ before := fun p => by rw [hps, List.nil_append]
 refine ⟨ds, gs, before, [], pa, pv, hW, hres _ _ _, hargs _ hold, hvars _ hold, World.keptBut_mono (fun p hp => ⟨hp, .inr (List.mem_append.1 (hps ▸ hp))⟩) hk, fun _ => ?_⟩
 obtain ⟨_, _, _, _, _, hz, hn⟩ := hW
 refine ⟨hok, _, _, ([] ++ pa) ++ pv, ⟨[] ++ pa, pv, trodAll_append (hargs _ (fun _ _ => rfl)) (hres _ _ _), hvars _ (fun _ _ => rfl), rfl, fun b off hp => ?_, fun ha => ?_⟩, fun p hp _ => (e1 p).1 hp⟩
 ·have hb := (e1 _).1 hp
  rw [hfz _ (hlt _ hb)]
  exact hz b off hb
 ·have := hn ha
  rw [hps] at this
  exact this
/-- a law that returns true and leaves all that was there -/
theorem post_true {f : Func} {s : ChangeSpec} {fresh handsOn again : Bool} {W W' : World} {args : Array Value} {ds gs : List (DataW H)} {before : List MemPlace} (hl : laidOutB P = true) (hm : mapsRowed P = true) (hz : ((List.range P.types.size).all fun t => match P.underlying t with | some (.slice e) => decide (0 < P.cellsOf e) | _ => true) = true)
  (hW : DataW.Whole enc P f.params.toList s.vars false W args.toList ds gs before) (hv : s.vars = []) (hts : f.params.toList.all (fun t => decide (t < P.types.size)) = true)
  {tb : TypeId} (hrt : f.resultTypes = #[tb]) (htb : P.underlying tb = some .bool) (hr : (s.fn H (ds ++ gs)).results = [.lit (.bool true)]) (ha : (s.fn H (ds ++ gs)).args = ds) (hvr : (s.fn H (ds ++ gs)).vars = []) (hE : Ext No W W') :
  s.post enc P f false fresh handsOn again W args (.bool true) W' := by
 have hW0 := hW
 obtain ⟨p, q, hA, hV, rfl, _, _⟩ := hW
 rw [hv] at hV
 obtain ⟨rfl, rfl⟩ := trodVars_none hV
 refine post_of_old (pa := p) (pv := []) hW0 (fun _ _ _ => ?_) (fun sp hsp => ?_) (fun _ _ => ?_) (by simp) (World.keptBut_mono (fun _ f => f.elim) (hE.kept fun _ _ => id)) (fun a ha => hE.froz ha id) ?_
 ·rw [hrt, hr]
  exact trodAll_cons_mk (RowKit.shut_bool htb true) trodAll_mk0
 ·rw [ha]
  refine trodAll_carry (hA.respare (kids_rows hl hm) (slices_full_of P hz) (fun t ht => by simpa using List.all_eq_true.1 hts t ht) fun x hx => hsp x (by simpa using hx)) fun x hx => ?_
  exact hE.sameAt (hA.lt x hx)
 ·rw [hv, hvr]; rfl
 ·exact ok_one hrt rfl (RowKit.okWide_bool_mk htb true)

/-- cells that were read stand in a row -/
theorem cells?_seg {a : Addr} {m : Nat} {r : List Value} (h : w.cells? 0 a m = some r) (hm : 0 < m) : a = ⟨a.block, a.off, none⟩ ∧ r.length = m ∧ Seg w a.block a.off r ∧ a.block < w.heap.size := by
 have hlt := World.cells?_block h hm
 unfold World.cells? at h
 rw [if_pos (Nat.zero_le _)] at h
 have hlen := mapM_some_length h
 have hget : ∀ i, i < m → w.cell? (a.add i) = r[i]? := fun i hi => mapM_some_get h i i (by simp [hi])
 simp only [List.length_range] at hlen
 have hspot : a.spot = none := by
  have h0 := hget 0 hm
  have hr0 : r[0]? = some r[0] := by simp
  rw [hr0] at h0
  have e : a.add 0 = a := by simp [Addr.add]
  rw [e] at h0
  unfold World.cell? at h0
  split at h0
  ·split at h0
   ·cases h0
   ·rename_i hs; simpa using hs
  ·cases h0
 have ha : a = ⟨a.block, a.off, none⟩ := by rw [← hspot]
 refine ⟨ha, hlen, fun i v hv => ?_, hlt⟩
 have hi : i < m := by
  have := (List.getElem?_eq_some_iff.1 hv).1
  omega
 have hi' := hget i hi
 rw [hv] at hi'
 have e : a.add i = ⟨a.block, a.off + i, none⟩ := by rw [ha]; exact addr_add _ _ _
 rw [e] at hi'
 exact hi'

theorem rows_seg {b m : Nat} : ∀ {L : List (List Value)} {off : Nat}, Uni m L → (∀ (i : Nat) (r : List Value), L[i]? = some r → Seg w b (off + i * m) r) → Seg w b off L.flatten
 | [], _, _, _ => fun i v hv => by simp at hv
 | r :: L, off, hu, h => by
  rw [List.flatten_cons, Seg.append]
  have hr := hu r (by simp)
  refine ⟨by simpa using h 0 r rfl, ?_⟩
  rw [hr]
  refine rows_seg (fun x hx => hu x (by simp [hx])) fun i x hx => ?_
  have := h (i + 1) x (by simpa using hx)
  rwa [show off + (i + 1) * m = off + m + i * m from by rw [Nat.succ_mul]; omega] at this

/-- a slice that the statement reads: its rows -/
theorem open_rows {sp : Nat → Bool} {held : Bool} {fuel : Nat} {t e m : Nat} {cs : List Value} {x : DataW H × List MemPlace} (ht : P.underlying t = some (.slice e)) (hm : P.cellsOf e = m) (hm0 : 0 < m) (h : DataW.trod enc P w 0 sp held fuel t cs = some x) :
  ∃ (p : Option Addr) (n c : Nat) (L : List (List Value)), cs = [.slice p n c] ∧ n ≤ c ∧ c ≤ maxLen ∧ L.length = n ∧ Uni m L ∧ Sl w p n m L.flatten ∧ (n ≠ 0 → ∀ b off, p = some ⟨b, off, none⟩ → b < w.heap.size) ∧
   ∀ r ∈ L, ∃ k y, DataW.trod enc P w 0 sp held k e r = some y := by
 subst hm
 rcases DataW.trod_slice ht h with ⟨hcs, _⟩ | ⟨a, len, cap, elems, rest, n, _, hcs, _, _, hl, hc, hlen, hel, _⟩
 ·exact ⟨none, 0, 0, [], hcs, Nat.le_refl _, by unfold maxLen; omega, rfl, Uni.nil _, Sl.nil _ _ _, fun h => absurd rfl h, fun r hr => by cases hr⟩
 ·have hrow : ∀ i, i < len → ∃ r y, w.cells? 0 (a.add (i * P.cellsOf e)) (P.cellsOf e) = some r ∧ DataW.trod enc P w 0 sp held n e r = some y := by
   intro i hi
   have := hel i hi
   rw [List.getElem?_eq_getElem (by omega), Option.bind_eq_some_iff] at this
   obtain ⟨r, h1, h2⟩ := this
   exact ⟨r, _, h1, h2⟩
  have hrow' : ∀ i : _root_.Fin len, ∃ r y, w.cells? 0 (a.add (i.1 * P.cellsOf e)) (P.cellsOf e) = some r ∧ DataW.trod enc P w 0 sp held n e r = some y := fun i => hrow i.1 i.2
  let L : List (List Value) := List.ofFn fun i : _root_.Fin len => Classical.choose (hrow' i)
  have hL : ∀ (i : Nat) (r : List Value), L[i]? = some r → i < len ∧ w.cells? 0 (a.add (i * P.cellsOf e)) (P.cellsOf e) = some r ∧ ∃ y, DataW.trod enc P w 0 sp held n e r = some y := by
   intro i r hr
   have hi : i < len := by
    have := (List.getElem?_eq_some_iff.1 hr).1
    simpa [L] using this
   have : r = Classical.choose (hrow' ⟨i, hi⟩) := by
    simp only [L, List.getElem?_ofFn, hi, dif_pos, Option.some.injEq] at hr
    exact hr.symm
   subst this
   obtain ⟨y, h1, h2⟩ := Classical.choose_spec (hrow' ⟨i, hi⟩)
   exact ⟨hi, h1, y, h2⟩
  have hLlen : L.length = len := by simp [L]
  have hu : Uni (P.cellsOf e) L := fun r hr => by
   obtain ⟨i, hi, rfl⟩ := List.mem_iff_getElem.1 hr
   have := hL i L[i] (by simp)
   exact (cells?_seg this.2.1 hm0).2.1
  refine ⟨some a, len, cap, L, hcs, hl, hc, hLlen, hu, ⟨by rw [rows_length hu, hLlen], ?_⟩, ?_, fun r hr => ?_⟩
  ·rcases Nat.eq_zero_or_pos len with h0 | h0
   ·exact .inl h0
   ·right
    have h00 := hL 0 L[0] (by simp)
    have e0 : a.add (0 * P.cellsOf e) = a := by simp [Addr.add]
    rw [e0] at h00
    have ha := (cells?_seg h00.2.1 hm0).1
    refine ⟨a.block, a.off, congrArg some ha, rows_seg hu fun i r hr => ?_⟩
    have hi := hL i r hr
    have := (cells?_seg hi.2.1 hm0).2.2.1
    have e1 : a.add (i * P.cellsOf e) = ⟨a.block, a.off + i * P.cellsOf e, none⟩ := by
     conv => lhs; rw [ha]
     exact addr_add _ _ _
    rw [e1] at this
    exact this
  ·intro hn b off hb
   have h00 := hL 0 (L[0]'(by omega)) (by simp)
   have e0 : a.add (0 * P.cellsOf e) = a := by simp [Addr.add]
   rw [e0] at h00
   have := (cells?_seg h00.2.1 hm0).2.2.2
   simp only [Option.some.injEq] at hb
   rw [hb] at this
   exact this
  ·obtain ⟨i, hi, rfl⟩ := List.mem_iff_getElem.1 hr
   obtain ⟨_, _, y, hy⟩ := hL i L[i] (by simp)
   exact ⟨n, y, hy⟩
end
end Go.Vc
namespace Go.Proofs.YtoapldhadeoeiaaGreat
open Go.Vc Go.WideShapes Go.ChangeShapes
section
variable {H : Type} {enc : TypeId × Value → H} {W : World} {sp : Nat → Bool} {held : Bool}
theorem list_of {α β : Type} {R : α → β → Prop} : ∀ (L : List β), (∀ r ∈ L, ∃ a, R a r) → ∃ l : List α, l.length = L.length ∧ ∀ (i : Nat) (a : α) (r : β), l[i]? = some a → L[i]? = some r → R a r
 | [], _ => ⟨[], rfl, fun i a r h => by simp at h⟩
 | r :: L, h => by
  obtain ⟨a, ha⟩ := h r (by simp)
  obtain ⟨l, h1, h2⟩ := list_of L fun x hx => h x (by simp [hx])
  refine ⟨a :: l, by simp [h1], fun i b x hb hx => ?_⟩
  cases i with
  | zero => simp at hb hx; subst hb; subst hx; exact ha
  | succ i => exact h2 i b x (by simpa using hb) (by simpa using hx)
/-- a slice of rows, each opened -/
theorem open_list {α : Type} {cells : α → List Value} {ok : α → Prop} {fuel t e m : Nat} {cs : List Value} {x : DataW H × List MemPlace} (ht : Tryz.prog.underlying t = some (.slice e)) (hm : Tryz.prog.cellsOf e = m) (hm0 : 0 < m)
  (hrow : ∀ {k : Nat} {r : List Value} {y : DataW H × List MemPlace}, DataW.trod enc Tryz.prog W 0 sp held k e r = some y → ∃ a, r = cells a ∧ ok a)
  (h : DataW.trod enc Tryz.prog W 0 sp held fuel t cs = some x) :
  ∃ (p : Option Addr) (l : List α) (c : Nat), cs = [.slice p l.length c] ∧ l.length ≤ c ∧ c ≤ maxLen ∧ Sl W p l.length m (l.flatMap cells) ∧ (∀ a ∈ l, ok a) ∧ (l ≠ [] → ∀ b off, p = some ⟨b, off, none⟩ → b < W.heap.size) := by
 obtain ⟨p, n, c, L, rfl, hn, hc, hL, hu, hs, hlt, hr⟩ := open_rows ht hm hm0 h
 obtain ⟨l, h1, h2⟩ := list_of (R := fun a r => r = cells a ∧ ok a) L fun r hr' => by
  obtain ⟨k, y, hy⟩ := hr r hr'
  exact hrow hy
 have e : L = l.map cells := by
  apply List.ext_getElem?
  intro i
  rw [List.getElem?_map]
  by_cases hi : i < l.length
  ·have hi' : i < L.length := by omega
   have := (h2 i l[i] L[i] (by simp) (by simp)).1
   simp [hi, hi', this]
  ·rw [List.getElem?_eq_none (by omega), List.getElem?_eq_none (by omega)]; rfl
 have hln : l.length = n := by omega
 subst hln
 refine ⟨p, l, c, rfl, hn, hc, by rw [List.flatMap_def, ← e]; exact hs, fun a ha => ?_, fun hne => hlt fun h0 => hne (List.eq_nil_of_length_eq_zero h0)⟩
 obtain ⟨i, hi, rfl⟩ := List.mem_iff_getElem.1 ha
 have hi' : i < L.length := by omega
 exact (h2 i l[i] L[i] (by simp) (by simp)).2
theorem open_str {fuel : Nat} {cs : List Value} {x : DataW H × List MemPlace} (h : DataW.trod enc Tryz.prog W 0 sp held fuel 9 cs = some x) : ∃ s : Str, cs = [strV s] ∧ s.length ≤ maxLen := by
 obtain ⟨s, rfl, _, hw⟩ := DataW.trod_string Tryz.underlying9 h
 exact ⟨s.data.toList, by show _ = [Value.string (strU s.data.toList)]; rw [strU_of], hw⟩
theorem split_at (cs : List Value) (o n : Nat) : cs.drop o = (cs.drop o).take n ++ cs.drop (o + n) := by
 rw [← List.drop_drop, List.take_append_drop]
theorem open_row {fuel : Nat} {cs : List Value} {x : DataW H × List MemPlace} (h : DataW.trod enc Tryz.prog W 0 sp held fuel 73 cs = some x) : ∃ r : RowD, cs = r.cells ∧ r.path.length ≤ maxLen ∧ r.text.length ≤ maxLen := by
 obtain ⟨xs, k, rfl, _, hlen, hxs, hf⟩ := DataW.trod_struct Tryz.underlying73 h
 have k78 : Tryz.prog.cellsOf 73 = 2 := by kernel_rfl
 have k9 : Tryz.prog.cellsOf 9 = 1 := by kernel_rfl
 have hxs : xs.length = 2 := hxs
 have g0 : DataW.trod enc Tryz.prog W 0 sp held k 9 ((cs.drop 0).take (Tryz.prog.cellsOf 9)) = _ := hf 0 _ rfl
 have g1 : DataW.trod enc Tryz.prog W 0 sp held k 9 ((cs.drop 1).take (Tryz.prog.cellsOf 9)) = _ := hf 1 _ rfl
 rw [k9, List.getElem?_eq_getElem (by omega)] at g0 g1
 obtain ⟨s, e0, h0⟩ := open_str g0
 obtain ⟨t, e1, h1⟩ := open_str g1
 rw [k78] at hlen
 refine ⟨⟨s, t⟩, ?_, h0, h1⟩
 have e : cs = cs.drop 0 := rfl
 rw [e, split_at cs 0 1, e0, split_at cs (0 + 1) 1, e1, List.drop_eq_nil_of_le (by omega), List.append_nil]
 rfl

theorem open_map {fuel : Nat} {cs : List Value} {x : DataW H × List MemPlace} (h : DataW.trod enc Tryz.prog W 0 sp held fuel 62 cs = some x) : ∃ (p : Option Addr) (l : List RowD) (c : Nat), cs = [.slice p l.length c] ∧ Sl W p l.length 2 (l.flatMap RowD.cells) ∧ l.length ≤ maxLen := by
 obtain ⟨xs, k, rfl, _, hlen, hxs, hf⟩ := DataW.trod_struct Tryz.underlying62 h
 have k58 : Tryz.prog.cellsOf 62 = 1 := by kernel_rfl
 have k56 : Tryz.prog.cellsOf 60 = 1 := by kernel_rfl
 have hxs : xs.length = 1 := hxs
 have g0 : DataW.trod enc Tryz.prog W 0 sp held k 60 ((cs.drop 0).take (Tryz.prog.cellsOf 60)) = _ := hf 0 _ rfl
 rw [k56, List.getElem?_eq_getElem (by omega)] at g0
 obtain ⟨p, l, c, e, h1, h2, hs, _, _⟩ := open_list (cells := RowD.cells) (ok := fun r => r.path.length ≤ maxLen ∧ r.text.length ≤ maxLen) Tryz.underlying60 (by kernel_rfl : Tryz.prog.cellsOf 73 = 2) (by decide) (fun h => open_row h) g0
 rw [k58] at hlen
 refine ⟨p, l, c, ?_, hs, by omega⟩
 have e2 : cs = cs.drop 0 := rfl
 rw [e2, split_at cs 0 1, e, List.drop_eq_nil_of_le (by omega), List.append_nil]
theorem open_int {fuel : Nat} {cs : List Value} {x : DataW H × List MemPlace} (h : DataW.trod enc Tryz.prog W 0 sp held fuel 3 cs = some x) : ∃ n : Int, cs = intC n ∧ I64 n := by
 obtain ⟨n, rfl, _, hw⟩ := DataW.trod_int Tryz.underlying3 h
 have hw : -9223372036854775808 ≤ n ∧ n ≤ 9223372036854775807 := by simpa [Lit.wf, IntKind.min, IntKind.max, IntKind.signed, IntKind.bits] using hw
 exact ⟨n, rfl, hw⟩
theorem ml_lt {n : Nat} (h : n ≤ maxLen) : n < 9223372036854775808 := by unfold maxLen at h; omega
theorem open_step {fuel : Nat} {cs : List Value} {x : DataW H × List MemPlace} (h : DataW.trod enc Tryz.prog W 0 sp held fuel 76 cs = some x) : ∃ s : StepT, cs = stepC s ∧ StepIn W s := by
 obtain ⟨xs, k, rfl, _, hlen, hxs, hf⟩ := DataW.trod_struct Tryz.underlying76 h
 have k78 : Tryz.prog.cellsOf 76 = 3 := by kernel_rfl
 have km : Tryz.prog.cellsOf 62 = 1 := by kernel_rfl
 have ki : Tryz.prog.cellsOf 74 = 1 := by kernel_rfl
 have k9 : Tryz.prog.cellsOf 9 = 1 := by kernel_rfl
 have hxs : xs.length = 3 := hxs
 have g0 : DataW.trod enc Tryz.prog W 0 sp held k 62 ((cs.drop 0).take (Tryz.prog.cellsOf 62)) = _ := hf 0 _ rfl
 have g1 : DataW.trod enc Tryz.prog W 0 sp held k 74 ((cs.drop 1).take (Tryz.prog.cellsOf 74)) = _ := hf 1 _ rfl
 have g2 : DataW.trod enc Tryz.prog W 0 sp held k 9 ((cs.drop 2).take (Tryz.prog.cellsOf 9)) = _ := hf 2 _ rfl
 rw [km, List.getElem?_eq_getElem (by omega)] at g0
 rw [ki, List.getElem?_eq_getElem (by omega)] at g1
 rw [k9, List.getElem?_eq_getElem (by omega)] at g2
 obtain ⟨mp, rows, mc, e0, hm, hml⟩ := open_map g0
 obtain ⟨bp, back, bc, e1, hb1, hb2, hbs, _, _⟩ := open_list (cells := intC) (ok := I64) Tryz.underlying74 (by kernel_rfl : Tryz.prog.cellsOf 3 = 1) (by decide) (fun h => open_int h) g1
 obtain ⟨t, e2, _⟩ := open_str g2
 rw [k78] at hlen
 refine ⟨⟨mp, mc, rows, bp, bc, back, t⟩, ?_, ⟨hm, ml_lt hml, hbs, ml_lt (Nat.le_trans hb1 hb2)⟩⟩
 have e : cs = cs.drop 0 := rfl
 rw [e, split_at cs 0 1, e0, split_at cs (0 + 1) 1, e1, split_at cs (0 + 1 + 1) 1, e2, List.drop_eq_nil_of_le (by omega), List.append_nil]
 rfl
theorem open_turn {fuel : Nat} {cs : List Value} {x : DataW H × List MemPlace} (h : DataW.trod enc Tryz.prog W 0 sp held fuel 85 cs = some x) : ∃ t : TurnD, cs = turnC t ∧ TurnIn t := by
 obtain ⟨xs, k, rfl, _, hlen, hxs, hf⟩ := DataW.trod_struct Tryz.underlying85 h
 have k78 : Tryz.prog.cellsOf 85 = 3 := by kernel_rfl
 have k3 : Tryz.prog.cellsOf 3 = 1 := by kernel_rfl
 have hxs : xs.length = 3 := hxs
 have g0 : DataW.trod enc Tryz.prog W 0 sp held k 3 ((cs.drop 0).take (Tryz.prog.cellsOf 3)) = _ := hf 0 _ rfl
 have g1 : DataW.trod enc Tryz.prog W 0 sp held k 3 ((cs.drop 1).take (Tryz.prog.cellsOf 3)) = _ := hf 1 _ rfl
 have g2 : DataW.trod enc Tryz.prog W 0 sp held k 3 ((cs.drop 2).take (Tryz.prog.cellsOf 3)) = _ := hf 2 _ rfl
 rw [k3, List.getElem?_eq_getElem (by omega)] at g0 g1 g2
 obtain ⟨a, e0, ha⟩ := open_int g0
 obtain ⟨b, e1, hb⟩ := open_int g1
 obtain ⟨c, e2, hc⟩ := open_int g2
 rw [k78] at hlen
 refine ⟨⟨a, b, c⟩, ?_, ⟨ha, hb, hc⟩⟩
 have e : cs = cs.drop 0 := rfl
 rw [e, split_at cs 0 1, e0, split_at cs (0 + 1) 1, e1, split_at cs (0 + 1 + 1) 1, e2, List.drop_eq_nil_of_le (by omega), List.append_nil]
 rfl
/-- a world that a statement reads -/
theorem open_world {fuel : Nat} {cs : List Value} {x : DataW H × List MemPlace} (h : DataW.trod enc Tryz.prog W 0 sp held fuel 25 cs = some x) : ∃ (ps : Option Addr) (steps : List StepT) (ck : Nat) (pt : Option Addr) (turns : List TurnD) (ct : Nat), cs = [.slice ps steps.length ck, .slice pt turns.length ct] ∧
  Sl W ps steps.length 3 (steps.flatMap stepC) ∧ (∀ s ∈ steps, StepIn W s) ∧ steps.length < 9223372036854775808 ∧ Sl W pt turns.length 3 (turns.flatMap turnC) ∧ (∀ t ∈ turns, TurnIn t) ∧ turns.length < 9223372036854775808 := by
 obtain ⟨xs, k, rfl, _, hlen, hxs, hf⟩ := DataW.trod_struct Tryz.underlying25 h
 have k78 : Tryz.prog.cellsOf 25 = 2 := by kernel_rfl
 have ks : Tryz.prog.cellsOf 22 = 1 := by kernel_rfl
 have kt : Tryz.prog.cellsOf 23 = 1 := by kernel_rfl
 have hxs : xs.length = 2 := hxs
 have g0 : DataW.trod enc Tryz.prog W 0 sp held k 22 ((cs.drop 0).take (Tryz.prog.cellsOf 22)) = _ := hf 0 _ rfl
 have g1 : DataW.trod enc Tryz.prog W 0 sp held k 23 ((cs.drop 1).take (Tryz.prog.cellsOf 23)) = _ := hf 1 _ rfl
 rw [ks, List.getElem?_eq_getElem (by omega)] at g0
 rw [kt, List.getElem?_eq_getElem (by omega)] at g1
 obtain ⟨ps, steps, c1, e0, h1, h2, hs, hsi, _⟩ := open_list (cells := stepC) (ok := StepIn W) Tryz.underlying22 (by kernel_rfl : Tryz.prog.cellsOf 76 = 3) (by decide) (fun h => open_step h) g0
 obtain ⟨pt, turns, c2, e1, h3, h4, ht, hti, _⟩ := open_list (cells := turnC) (ok := TurnIn) Tryz.underlying23 (by kernel_rfl : Tryz.prog.cellsOf 85 = 3) (by decide) (fun h => open_turn h) g1
 rw [k78] at hlen
 refine ⟨ps, steps, c1, pt, turns, c2, ?_, hs, hsi, ml_lt (Nat.le_trans h1 h2), ht, hti, ml_lt (Nat.le_trans h3 h4)⟩
 have e : cs = cs.drop 0 := rfl
 rw [e, split_at cs 0 1, e0, split_at cs (0 + 1) 1, e1, List.drop_eq_nil_of_le (by omega), List.append_nil]
 rfl
end
end Go.Proofs.YtoapldhadeoeiaaGreat
namespace Go.Proofs.YtoapldhadeoeiaaGreat
open Go.Vc
theorem kErr_err {h : Hp} {x : IdB} {k : Int} (e : h.kErr x k = 0) : h.err x = 0 ∧ (h.obj x).kind = k ∧ h.kObj x k = h.obj x := by
 unfold Hp.kErr at e
 unfold Hp.kObj
 split at e
 ·cases e
 ·rename_i hn
  rw [if_neg hn]
  exact ⟨e, Decidable.byContradiction fun hk => hn ⟨e, hk⟩, rfl⟩
theorem kErr_of {h : Hp} {x : IdB} {k : Int} (e : h.err x = 0) (hk : (h.obj x).kind = k) : h.kErr x k = 0 := by
 unfold Hp.kErr
 rw [if_neg fun c => c.2 hk]
 exact e
theorem mapE_tree {h : Hp} {x : IdB} (e : h.mapE x = 0) : h.kErr x 2 = 0 ∧ h.txErr (h.obj x).leaves = 0 := by
 unfold Hp.mapE at e
 split at e
 ·rename_i c; exact absurd e c
 ·rename_i c
  have h0 : h.kErr x 2 = 0 := Decidable.not_not.1 c
  refine ⟨h0, ?_⟩
  rw [(kErr_err h0).2.2] at e
  exact e
theorem txErr_all {h : Hp} {L : List LeafD} (e : h.txErr L = 0) : ∀ l ∈ L, h.kErr l.id 1 = 0 := by
 unfold Hp.txErr at e
 split at e
 ·rename_i hf
  intro l hl
  have := List.find?_eq_none.1 hf l hl
  simpa using this
 ·rename_i l hf
  have := List.find?_some hf
  simp at this
  exact absurd e this
theorem closed_at {h : Hp} {x : IdB} (e : h.closed x = 0) : h.kErr x 3 = 0 ∧ ∀ y, h.Leads x y → h.Good y := by
 unfold Hp.closed at e
 split at e
 ·rename_i c; exact absurd e c
 ·rename_i c
  split at e
  ·rename_i c2; exact ⟨Decidable.not_not.1 c, fun y hy => c2 y ((h.led_mem x y).2 hy)⟩
  ·cases e
theorem links_com {h : Hp} {y : IdB} (e : h.kErr y 3 = 0) : h.links y = (h.obj y).tree :: (h.obj y).parents := by
 obtain ⟨_, hk, _⟩ := kErr_err e
 unfold Hp.links linksOf
 rw [if_neg (by rw [hk]; decide), if_pos hk]
theorem num_obj {h : Hp} {y : IdB} (e : h.kErr y 3 = 0) : h.num y = (h.obj y).number := by rw [Hp.num, (kErr_err e).2.2]
/-- all commits behind a closed one have lesser numbers, and its trees have maps -/
theorem behind {h : Hp} {x : IdB} (e : h.closed x = 0) : ∀ y, h.Leads x y → (h.kErr y 3 = 0 → y = x ∨ h.num y < h.num x) ∧ ((h.obj y).kind = 2 → h.mapE y = 0) := by
 obtain ⟨h3, hg⟩ := closed_at e
 intro y hy
 induction hy with
 | here => exact ⟨fun _ => .inl rfl, fun k => by rw [(kErr_err h3).2.1] at k; cases k⟩
 | @on y z hy hz ih =>
  have gy := hg y hy
  by_cases hc : (h.obj y).kind = 3
  ·have hy3 := kErr_of gy.1 hc
   rw [links_com hy3] at hz
   obtain ⟨hm, hp⟩ := gy.2 hc
   rcases List.mem_cons.1 hz with rfl | hz
   ·have h2 := (mapE_tree hm).1
    refine ⟨fun k => ?_, fun _ => hm⟩
    have := (kErr_err h2).2.1
    rw [(kErr_err k).2.1] at this
    cases this
   ·obtain ⟨p1, p2⟩ := hp.1 z hz
    have hn : h.num z < h.num y := by rw [num_obj hy3]; exact p2
    refine ⟨fun _ => .inr ?_, fun k => by rw [(kErr_err p1).2.1] at k; cases k⟩
    rcases ih.1 hy3 with rfl | hlt
    ·exact hn
    ·omega
  ·by_cases hk : (h.obj y).kind = 2
   ·have hm := (mapE_tree (ih.2 hk)).2
    have hz2 : ∃ l ∈ (h.obj y).leaves, l.id = z := by
     unfold Hp.links linksOf at hz
     rw [if_pos hk] at hz
     exact List.mem_map.1 hz
    obtain ⟨l, hl, rfl⟩ := hz2
    have h1 := (kErr_err (txErr_all hm l hl)).2.1
    exact ⟨fun k => absurd ((kErr_err k).2.1.symm.trans h1) (by decide), fun k => absurd (k.symm.trans h1) (by decide)⟩
   ·unfold Hp.links linksOf at hz
    rw [if_neg hk, if_neg hc] at hz
    cases hz
/-- the first of two histories' common ones -/
theorem base_some {h : Hp} {a b x : IdB} (hb : h.base a b = some x) : x ∈ h.hist a ∧ x ∈ h.hist b ∧ ∀ y ∈ h.hist a, y ∈ h.hist b → y = x ∨ h.ahead x y := by
 unfold Hp.base at hb
 have h1 := List.find?_some hb
 have h2 := List.mem_of_find?_eq_some hb
 refine ⟨h2, by simpa using h1, fun y hy hyb => ?_⟩
 obtain ⟨_, l1, l2, e, hno⟩ := List.find?_eq_some_iff_append.1 hb
 have hs := h.hist_sorted a
 rw [e] at hy hs
 rcases List.mem_append.1 hy with k | k
 ·have := hno y k
  simp at this
  exact absurd hyb this
 ·rcases List.mem_cons.1 k with k | k
  ·exact .inl k
  ·exact .inr ((List.pairwise_cons.1 (List.pairwise_append.1 hs).2.1).1 y k)
end Go.Proofs.YtoapldhadeoeiaaGreat
namespace Go.Proofs.YtoapldhadeoeiaaGreat
open Go.Vc
theorem idO_in {h : Hp} {a b : IdB} (hh : ∀ y ∈ h.hist a, IdIn y) : IdIn (idO (baseO h a b)) := by
 unfold baseO
 split
 ·cases hb : h.base a b with
  | none => exact idZ_in
  | some x => exact hh x (base_some hb).1
 ·exact idZ_in
end Go.Proofs.YtoapldhadeoeiaaGreat
namespace Go.Proofs.YtoapldhadeoeiaaGreat
open Go.Vc
end Go.Proofs.YtoapldhadeoeiaaGreat
namespace Go.Proofs.YtoapldhadeoeiaaGreat
open Go.Vc
theorem ObjNew.ge {W0 w : World} {o : ObjD} {a : ObjP} (h : ObjNew W0 w o a) : ∀ x, ObjF a x → W0.heap.size ≤ x := fun x hx => by
 rcases hx with k | k | k
 ·exact h.nl x k
 ·exact h.np x k
 ·exact h.nr x k
theorem ObjNew.extF {W0 w w' : World} {o : ObjD} {a : ObjP} (h : ObjNew W0 w o a) {S : Nat → Prop} (hE : Ext S w w') (hS : ∀ x, ObjF a x → ¬ S x) : ObjNew W0 w' o a :=
 ⟨h.ol.ext hE fun x k => hS x (.inl k), h.op.ext hE fun x k => hS x (.inr (.inl k)), h.or.ext hE fun x k => hS x (.inr (.inr k)), h.nl, h.np, h.nr⟩
end Go.Proofs.YtoapldhadeoeiaaGreat
