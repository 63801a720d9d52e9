/-
  DagPutsCardSaid of package dag, walked
-/
import Derived.ChangeSame
import Derived.ReadAgain
import Derived.RowKit
import Derived.ChangeBears
import Derived.OpenShut
import Derived.Test.YtoapldhadeoeiaaGreatDoorRows
import Derived.ProofKit
import Derived.LaidMore
import Derived.Lib.LaidTab
import Derived.Test.YtoapldhadeoeiaaGreatDoorTie
import Derived.Test.YtoapldhadeoeiaaGreatDoorCards
import Derived.SevenTiedAt
import Derived.Test.YtoapldhadeoeiaaGreatDoorSpF
namespace Go.Proofs.YtoapldhadeoeiaaGreatDoor
open Go.Vc
noncomputable def histE (h : Hp) (x : IdB) : List IdB := if h.closed x = 0 then h.hist x else []
noncomputable def baseE (h : Hp) (x y : IdB) : Int := if h.closed x ≠ 0 then h.closed x else h.closed y
noncomputable def baseO (h : Hp) (x y : IdB) : Option IdB := if baseE h x y = 0 then h.base x y else none
theorem pair_cl {h : Hp} {x y : IdB} (hall : ∀ z ∈ [x, y], h.closed z = 0) : h.closed x = 0 ∧ h.closed y = 0 ∧ baseE h x y = 0 := by
 have h1 := hall x (by simp)
 have h2 := hall y (by simp)
 exact ⟨h1, h2, by rw [baseE, if_neg fun k => k h1]; exact h2⟩
theorem pair_bad {h : Hp} {x y : IdB} {i : Nat} (hi : i < [x, y].length) (hall : ∀ z ∈ [x, y].take i, h.closed z = 0) (hb : h.closed [x, y][i] ≠ 0) : baseE h x y = h.closed [x, y][i] := by
 rcases i with _ | _ | i
 ·exact if_pos hb
 ·have := hall x (by simp)
  rw [baseE, if_neg fun k => k this]; rfl
 ·have : i + 1 + 1 < 2 := hi
  omega
theorem historyD_calls (w : World) {p : Option Addr} {c : Nat} {l : List zx8} {x : IdB} (h : HpIn w p l) (hx : IdIn x) :
  zz1 Tryz.prog 16 [.agg #[.slice p l.length c], .agg (zq6 x).toArray] w fun v w' => ∃ q k, v = .tuple #[.slice q (histE (toHp l) x).length k, .int .i64 ((toHp l).closed x)] ∧ Sl w' q (histE (toHp l) x).length 32 ((histE (toHp l) x).flatMap zq6) ∧ Ext No w w' := by
 refine zq9 Tryz.func16 rfl rfl rfl rfl ?_
 have hX := Ext.refl No w
 refine zq5 (zq0 (wl (zj0 I_ok rfl fun b2 w1 hn2 hb2 hE1 => ?_)))
 have hX := hX.zq4 hE1
 have hb2 : Blk w1 b2 30 ([.slice p l.length c]) := hb2
 refine wl (zj0 I_ok rfl fun b3 w2 hn3 hb3 hE2 => ?_)
 have hb2 := hb2.zq3 hE2
 have hX := hX.zq4 hE2
 have hb3 : Blk w2 b3 37 (zq6 x) := hb3
 refine wl_p I_ok rfl (zq2 (zq1 (zq5 (zq0 (wl (zj4 I_ok hb2 rfl rfl (wl (zx2 Tryz.call30 rfl rfl rfl rfl rfl rfl (readBk_calls w2 (h.zq3 hX)) fun v3 w3 hr3 => ?_))))))))
 obtain ⟨r, rfl, hrn, hM, hE3⟩ := hr3
 have hb3 := hb3.zq3 hE3
 have hX := hX.zq4 hE3
 refine wl_p I_ok rfl (zq2 (zq1 (zq5 (zq5 (zq0 (wl_p I_ok rfl (wl (zj4 I_ok hb3 rfl hx.len (wl (zx2 Tryz.call34 rfl rfl rfl rfl rfl rfl (closedB_calls w3 ⟨h.zq3 hX, hM⟩ hx) fun v4 w4 hr4 => ?_))))))))))
 obtain ⟨rfl, hE4⟩ := hr4
 have hb3 := hb3.zq3 hE4
 have hM := hM.zq3 hE4
 have hX := hX.zq4 hE4
 refine wl_p I_ok rfl (zq2 (zq1 (zq5 (zq0 (wl_p I_ok rfl (zq2 (zq1 (c_if rfl (fun hc => ?_) (fun hc => ?_)))))))))
 ·have eH : histE (toHp l) x = [] := if_neg hc
  refine zq5 (zq0 (wl_p I_ok rfl (zq2 (zq1 (zz8 (zx5 (f_ret [_, _] ⟨rfl, rfl, trivial⟩ ?_)))))))
  exact ⟨none, 0, by rw [eH]; rfl, by rw [eH]; exact Sl.nil _ _ _, hX⟩
 ·have hcl : (toHp l).closed x = 0 := Decidable.not_not.1 hc
  have eH : histE (toHp l) x = (toHp l).hist x := if_pos hcl
  refine zx7 (zq1 (zq5 (zq0 (wl_p I_ok rfl (wl (zj4 I_ok hb3 rfl hx.len (wl (zx2 Tryz.call35 rfl rfl rfl rfl rfl rfl (historyB_calls w4 ⟨h.zq3 hX, hM⟩ hx hcl) fun v5 w5 hr5 => ?_))))))))
  obtain ⟨q, k, rfl, hq, hqn, hE5⟩ := hr5
  have hX := hX.zq4 hE5
  refine wl_p I_ok rfl (zq2 (zq1 (zz8 (f_ret [_, _] ⟨rfl, rfl, trivial⟩ ?_))))
  exact ⟨q, k, by rw [eH, hcl]; rfl, by rw [eH]; exact hq.sl, hX⟩
theorem pair_id {x y : IdB} (hx : IdIn x) (hy : IdIn y) : putAll (rep 2 (zq6 idZ)) [(0 * (0 + 32), 0 + 32, .agg (zq6 x).toArray), (1 * (0 + 32), 0 + 32, .agg (zq6 y).toArray)] = [x, y].flatMap zq6 := by
 have l1 : (zq6 x).length = 32 := IdIn.len hx
 have l2 : (zq6 y).length = 32 := IdIn.len hy
 simp only [putAll, zz3]
 have e0 : rep 2 (zq6 idZ) = zq6 idZ ++ zq6 idZ := rfl
 have lz : (zq6 idZ).length = 32 := rfl
 have p1 : put (zq6 idZ ++ zq6 idZ) (0 * (0 + 32)) (zq6 x) = zq6 x ++ zq6 idZ := by
  rw [put_eq _ _ _ (by rw [List.length_append, lz, l1]; decide), l1, Nat.zero_mul, List.take_zero, List.nil_append, List.drop_left' (by rw [lz])]
 have p2 : put (zq6 x ++ zq6 idZ) (1 * (0 + 32)) (zq6 y) = zq6 x ++ zq6 y := by
  rw [put_eq _ _ _ (by rw [List.length_append, lz, l1, l2]; decide), l2, List.take_left' (by rw [l1]), List.drop_of_length_le (by rw [List.length_append, lz, l1]; decide), List.append_nil]
 rw [e0, p1, p2]
 simp
theorem baseD_calls (w : World) {p : Option Addr} {c : Nat} {l : List zx8} {x y : IdB} (h : HpIn w p l) (hx : IdIn x) (hy : IdIn y) :
  zz1 Tryz.prog 18 [.agg #[.slice p l.length c], .agg (zq6 x).toArray, .agg (zq6 y).toArray] w fun v w' => v = .tuple #[.agg (zq6 (idO (baseO (toHp l) x y))).toArray, .bool (baseO (toHp l) x y).isSome, .int .i64 (baseE (toHp l) x y)] ∧ Ext No w w' := by
 have hai := h.hsIn hx
 have hbi := h.hsIn hy
 have hal := h.hsLen x
 have hbl := h.hsLen y
 have hxy : ∀ z ∈ [x, y], IdIn z := fun z hz => by rcases List.mem_cons.1 hz with rfl | hz; exact hx; rw [List.mem_singleton.1 hz]; exact hy
 refine zq9 Tryz.func18 rfl rfl rfl rfl ?_
 have hX := Ext.refl No w
 refine zq5 (zq0 (wl (zj0 I_ok rfl fun b3 w1 hn3 hb3 hE1 => ?_)))
 have hX := hX.zq4 hE1
 have hb3 : Blk w1 b3 30 ([.slice p l.length c]) := hb3
 refine wl (zj0 I_ok rfl fun b4 w2 hn4 hb4 hE2 => ?_)
 have hb3 := hb3.zq3 hE2
 have hX := hX.zq4 hE2
 have hb4 : Blk w2 b4 37 (zq6 x) := hb4
 refine wl (zj0 I_ok rfl fun b5 w3 hn5 hb5 hE3 => ?_)
 have hb3 := hb3.zq3 hE3
 have hb4 := hb4.zq3 hE3
 have hX := hX.zq4 hE3
 have hb5 : Blk w3 b5 37 (zq6 y) := hb5
 refine wl (zj0 I_ok rfl fun b6 w4 hn6 hb6 hE4 => ?_)
 have fr6 := Nat.le_trans hX.size hn6
 have hb3 := hb3.zq3 hE4
 have hb4 := hb4.zq3 hE4
 have hb5 := hb5.zq3 hE4
 have hX := hX.zq4 hE4
 have hb6 : Blk w4 b6 37 (zq6 idZ) := hb6
 refine wl_p I_ok rfl (zq2 (zq1 (zq5 (zq0 (wl (zj4 I_ok hb3 rfl rfl (wl (zx2 Tryz.call30 rfl rfl rfl rfl rfl rfl (readBk_calls w4 (h.zq3 hX)) fun v5 w5 hr5 => ?_))))))))
 obtain ⟨r, rfl, hrn, hM, hE5⟩ := hr5
 have hb3 := hb3.zq3 hE5
 have hb4 := hb4.zq3 hE5
 have hb5 := hb5.zq3 hE5
 have hb6 := hb6.zq3 hE5
 have hX := hX.zq4 hE5
 refine wl_p I_ok rfl (zq2 (zq1 (zq5 (zq5 (zq0 (wl (zj4 I_ok hb4 rfl hx.len (wl (zj4 I_ok hb5 rfl hy.len ?_)))))))))
 refine wl (st_bs I_ok rfl 32 rfl idZ_c.symm (by rw [zq7]; rfl) (by decide) (by decide) ⟨⟨by rw [zz3]; exact (IdIn.len hx), by decide⟩, ⟨by rw [zz3]; exact (IdIn.len hy), by decide⟩, trivial⟩ (l' := [x, y].flatMap zq6) (pair_id hx hy) fun b20 w6 hn20 hb20 hE6 hs6 => ?_)
 have hb3 := hb3.zq3 hE6
 have hb4 := hb4.zq3 hE6
 have hb5 := hb5.zq3 hE6
 have hb6 := hb6.zq3 hE6
 have hM := hM.zq3 hE6
 have hX := hX.zq4 hE6
 refine wl_p I_ok rfl (zq2 (zq1 (zx4 ?_)))
 refine zv1 (α := Nat) [4, 5, 6, 9, 20, 21] rfl (fun z => [(22, .int .i64 (z : Int))]) (fun z u => ((z ≤ [x, y].length ∧ ∀ t ∈ [x, y].take z, (toHp l).closed t = 0) ∧ MapB u r objV (bookOf l)) ∧ Blk u b3 30 ([.slice p l.length c]) ∧ Blk u b4 37 (zq6 x) ∧ Blk u b5 37 (zq6 y) ∧ Blk u b6 37 (zq6 idZ) ∧ Blk u b20 37 ([x, y].flatMap zq6) ∧ Ext No w u) (fun z u => [x, y].length - z) (0) rfl ⟨⟨⟨Nat.zero_le _, fun _ h => (by cases h)⟩, hM⟩, hb3, hb4, hb5, hb6, hb20, hX⟩ ?_
 rintro i w7 ⟨⟨⟨hi, hok⟩, hM⟩, hb3, hb4, hb5, hb6, hb20, hX⟩
 refine zq5 (zq0 (wl_p I_ok rfl (zq2 (zq1 (zq5 (c_if rfl (fun hc => ?_) (fun hc => ?_)))))))
 ·have hi : i < [x, y].length := by have : ((i : Int) < 2) := hc; show i < 2; omega
  have ha1 := hxy _ (List.getElem_mem hi)
  have hs20 : Sl w7 (some ⟨b20, 0, none⟩) [x, y].length 32 ([x, y].flatMap zq6) := ⟨flat_len fun r hr => (hxy r hr).len, .inr ⟨b20, 0, rfl, hb20.seg⟩⟩
  obtain ⟨lb, lo, hp1, hsq⟩ := hs20.rowAll (fun r hr => (hxy r hr).len) (by omega)
  cases hp1
  refine zx7 (zq1 (zq5 (zx4 (zq5 (zq0 (wl (st_ix I_ok rfl 32 rfl i rfl (by exact hi) (0 + i * 32) rfl (wl (st_ldN I_ok rfl (hsq i hi) ha1.len (wl (zj0 I_ok rfl fun b11 w8 hn11 hb11 hE8 => ?_)))))))))))
  have ne3_11 : b3 ≠ b11 := Nat.ne_of_lt (Nat.lt_of_lt_of_le hb3.lt hn11)
  have ne4_11 : b4 ≠ b11 := Nat.ne_of_lt (Nat.lt_of_lt_of_le hb4.lt hn11)
  have ne5_11 : b5 ≠ b11 := Nat.ne_of_lt (Nat.lt_of_lt_of_le hb5.lt hn11)
  have ne6_11 : b6 ≠ b11 := Nat.ne_of_lt (Nat.lt_of_lt_of_le hb6.lt hn11)
  have ne20_11 : b20 ≠ b11 := Nat.ne_of_lt (Nat.lt_of_lt_of_le hb20.lt hn11)
  have fr11 := Nat.le_trans hX.size hn11
  have hb3 := hb3.zq3 hE8
  have hb4 := hb4.zq3 hE8
  have hb5 := hb5.zq3 hE8
  have hb6 := hb6.zq3 hE8
  have hb20 := hb20.zq3 hE8
  have hM := hM.zq3 hE8
  have hX := hX.zq4 hE8
  have hb11o := hb11
  refine wl (zj5 (l' := zq6 [x, y][i]) I_ok hb11 rfl rfl ha1.len (by rw [zq7, ha1]; rfl) OneC.h fun w9 hb11 hE9 hs9 => ?_)
  have hb3 := hb3.ext1 hE9 ne3_11
  have hb4 := hb4.ext1 hE9 ne4_11
  have hb5 := hb5.ext1 hE9 ne5_11
  have hb6 := hb6.ext1 hE9 ne6_11
  have hb20 := hb20.ext1 hE9 ne20_11
  have hM := hM.ext1 hE9 hb11o
  have hX := hX.zx1 hE9 fr11
  refine zq2 (zq1 (zq5 (zq0 (wl_p I_ok rfl (wl (zj4 I_ok hb11 rfl ha1.len (wl (zx2 Tryz.call34 rfl rfl rfl rfl rfl rfl (closedB_calls w9 ⟨h.zq3 hX, hM⟩ ha1) fun v10 w10 hr10 => ?_))))))))
  obtain ⟨rfl, hE10⟩ := hr10
  have hb3 := hb3.zq3 hE10
  have hb4 := hb4.zq3 hE10
  have hb5 := hb5.zq3 hE10
  have hb6 := hb6.zq3 hE10
  have hb20 := hb20.zq3 hE10
  have hM := hM.zq3 hE10
  have hX := hX.zq4 hE10
  refine wl_p I_ok rfl (zq2 (zq1 (zq5 (zq0 (wl_p I_ok rfl (zq2 (zq1 (c_if rfl (fun hc => ?_) (fun hc => ?_)))))))))
  ·have eE := pair_bad hi hok hc
   have eB : baseO (toHp l) x y = none := if_neg (by rw [eE]; exact hc)
   refine zq5 (zq0 (wl (st_bd I_ok rfl trivial (l' := zq6 idZ) idZ_c.symm (wl_p I_ok rfl ?_))))
   refine wl (zj5 (l' := zq6 idZ) I_ok hb6 rfl rfl rfl rfl OneC.h fun w11 hb6 hE11 hs11 => ?_)
   have hX := hX.zx1 hE11 fr6
   refine wl_p I_ok rfl (zq2 (zq1 (zz8 (zz4 (zx5 (zx5 (zz4 (zx5 (f_ret [_, _, _] ⟨⟨b6, 0, rfl, ld_all I_ok rfl rfl hb6.seg rfl⟩, rfl, rfl, trivial⟩ ?_)))))))))
   exact ⟨by rw [eB, eE]; rfl, hX⟩
  ·have hc0 := Decidable.not_not.1 hc
   refine zx7 (zx6 (zq1 (zq0 (wl_p I_ok rfl ?_))))
   rw [IntWalk.i64_in _ (by omega)]
   refine zq2 ?_
   exact zj7 (i + 1) rfl ⟨⟨⟨hi, fun t ht => by rw [List.take_succ_eq_append_getElem hi] at ht; rcases List.mem_append.1 ht with ht | ht; exact hok t ht; rw [List.mem_singleton.1 ht]; exact hc0⟩, hM⟩, hb3, hb4, hb5, hb6, hb20, hX⟩ (by first | omega | (dsimp only; omega))
 ·have h0 : i = [x, y].length := by have : ¬ ((i : Int) < 2) := hc; have h2 : i ≤ 2 := hi; show i = 2; omega
  subst h0
  rw [List.take_length] at hok
  obtain ⟨c1, c2, c3⟩ := pair_cl hok
  have eB : baseO (toHp l) x y = (toHp l).base x y := if_pos c3
  refine c_exit (zx3 (zx3 (zz2 (zq1 (zq5 (zq0 (wl_p I_ok rfl (wl (zj4 I_ok hb5 rfl hy.len (wl (zx2 Tryz.call35 rfl rfl rfl rfl rfl rfl (historyB_calls w7 ⟨h.zq3 hX, hM⟩ hy c2) fun v12 w12 hr12 => ?_)))))))))))
  obtain ⟨q1, k1, rfl, ht0, htn, hE12⟩ := hr12
  have hb4 := hb4.zq3 hE12
  have hb6 := hb6.zq3 hE12
  have hM := hM.zq3 hE12
  have hX := hX.zq4 hE12
  have ht := ht0.sl
  refine wl_p I_ok rfl (zq2 (zq1 (zq5 (zq5 (zq0 (wl_p I_ok rfl (wl (zj4 I_ok hb4 rfl hx.len (wl (zx2 Tryz.call35 rfl rfl rfl rfl rfl rfl (historyB_calls w12 ⟨h.zq3 hX, hM⟩ hx c1) fun v13 w13 hr13 => ?_))))))))))
  obtain ⟨q2, k2, rfl, hs0, hsn, hE13⟩ := hr13
  have hb6 := hb6.zq3 hE13
  have ht := ht.zq3 hE13
  have hX := hX.zq4 hE13
  have hs := hs0.sl
  refine wl_p I_ok rfl (zq2 (zq1 (zx4 ?_)))
  refine zv1 (α := Nat) [6, 13, 39, 40] rfl (fun z => [(41, .int .i64 (z : Int))]) (fun z u => ((z ≤ ((toHp l).hist x).length ∧ ∀ k (hk : k < ((toHp l).hist x).length), k < z → ¬ ((toHp l).hist x)[k] ∈ ((toHp l).hist y)) ∧ Sl u q2 ((toHp l).hist x).length 32 (((toHp l).hist x).flatMap zq6) ∧ Sl u q1 ((toHp l).hist y).length 32 (((toHp l).hist y).flatMap zq6)) ∧ Blk u b6 37 (zq6 idZ) ∧ Ext No w u) (fun z u => ((toHp l).hist x).length - z) (0) rfl ⟨⟨⟨Nat.zero_le _, fun k _ h => absurd h (Nat.not_lt_zero _)⟩, hs, ht⟩, hb6, hX⟩ ?_
  rintro i w14 ⟨⟨⟨hi, hno⟩, hs, ht⟩, hb6, hX⟩
  refine zq5 (zq0 (wl_p I_ok rfl (zq2 (zq1 (zq5 (c_if rfl (fun hc => ?_) (fun hc => ?_)))))))
  ·have hi : i < ((toHp l).hist x).length := by omega
   obtain ⟨lb, loff, hp, hsq⟩ := hs.rowAll (fun r hr => (hai r hr).len) (by omega)
   subst hp
   have ha1 := hai _ (List.getElem_mem hi)
   refine zx7 (zq1 (zq5 (zx4 (zq5 (zq0 (wl (st_ix I_ok rfl 32 rfl i rfl (by omega) (loff + i * 32) rfl (wl (st_ldN I_ok rfl (hsq i hi) ha1.len ?_)))))))))
   have hsA := hs
   have htA := ht
   refine wl (zj0 I_ok rfl fun b15 w15 hn15 hb15 hE15 => ?_)
   have ne6_15 : b6 ≠ b15 := Nat.ne_of_lt (Nat.lt_of_lt_of_le hb6.lt hn15)
   have fr15 := Nat.le_trans hX.size hn15
   have hb6 := hb6.zq3 hE15
   have hX := hX.zq4 hE15
   have hEa15 := hE15
   refine wl (zj5 (l' := zq6 ((toHp l).hist x)[i]) I_ok hb15 rfl rfl ha1.len (by rw [zq7, ha1]; rfl) OneC.h fun w16 hb15 hE16 hs16 => ?_)
   have hb6 := hb6.ext1 hE16 ne6_15
   have ht := htA.extLt ((Ext.no hEa15).trans hE16 fun _ _ k => k) (fun y hy k => by have k : y = b15 := k; omega)
   have hs := hsA.extLt ((Ext.no hEa15).trans hE16 fun _ _ k => k) (fun y hy k => by have k : y = b15 := k; omega)
   have hX := hX.zx1 hE16 fr15
   refine zq2 (zq1 (zq5 (zq0 (wl_p I_ok rfl (wl (zj4 I_ok hb15 rfl ha1.len (wl (zx2 Tryz.call36 rfl rfl rfl rfl rfl rfl (containsId_calls w16 ht (by omega) hbi ha1) fun v17 w17 hr17 => ?_))))))))
   obtain ⟨rfl, hE17⟩ := hr17
   have hb6 := hb6.zq3 hE17
   have hb15 := hb15.zq3 hE17
   have ht := ht.zq3 hE17
   have hs := hs.zq3 hE17
   have hX := hX.zq4 hE17
   refine zq2 (zq1 (c_if rfl (fun hc => ?_) (fun hc => ?_)))
   ·have eb := base_at hi hno hc
    rw [eb] at eB
    refine zq5 (zq0 (wl (zj4 I_ok hb15 rfl ha1.len (wl (zj5 (l' := zq6 ((toHp l).hist x)[i]) I_ok hb6 rfl rfl ha1.len (by rw [zq7, ha1]; rfl) OneC.h fun w18 hb6 hE18 hs18 => ?_)))))
    have hX := hX.zx1 hE18 fr6
    refine wl_p I_ok rfl (zq2 (zq1 (zz8 (zz4 (zx5 (zx5 (zz4 (zx5 (f_ret [_, _, _] ⟨⟨b6, 0, rfl, ld_all I_ok rfl rfl hb6.seg (by rw [zq7, ha1]; rfl)⟩, rfl, rfl, trivial⟩ ?_)))))))))
    exact ⟨by rw [eB, c3]; rfl, hX⟩
   ·refine zx7 ?_
    refine zx6 (zq1 (zq0 (wl_p I_ok rfl ?_)))
    rw [IntWalk.i64_in _ (by omega)]
    refine zq2 ?_
    exact zj7 (i + 1) rfl ⟨⟨⟨by omega, fun k hk hlt => (Nat.lt_or_eq_of_le (Nat.le_of_lt_succ hlt)).elim (fun h => hno k hk h) fun h => by subst h; exact hc⟩, hs, ht⟩, hb6, hX⟩ (by first | omega | (dsimp only; omega))
  ·have h0 : i = ((toHp l).hist x).length := by omega
   subst h0
   have eb := base_no hno
   rw [eb] at eB
   refine c_exit (zx3 (zx3 (zz2 (zq1 (zq5 (zq0 (wl (st_bd I_ok rfl trivial (l' := zq6 idZ) idZ_c.symm (wl (zj5 (l' := zq6 idZ) I_ok hb6 rfl rfl rfl rfl OneC.h fun w19 hb6 hE19 hs19 => ?_))))))))))
   have hX := hX.zx1 hE19 fr6
   refine wl_p I_ok rfl (zq2 (zq1 (zz8 (f_ret [_, _, _] ⟨⟨b6, 0, rfl, ld_all I_ok rfl rfl hb6.seg rfl⟩, rfl, rfl, trivial⟩ ?_))))
   exact ⟨by rw [eB, c3]; rfl, hX⟩
end Go.Proofs.YtoapldhadeoeiaaGreatDoor
namespace Go.Proofs.YtoapldhadeoeiaaGreatDoor
open Go.Vc


theorem mapD_calls (w : World) {p : Option Addr} {c : Nat} {l : List zx8} {x : IdB} (h : HpIn w p l) (hx : IdIn x) :
  zz1 Tryz.prog 19 [.agg #[.slice p l.length c], .agg (zq6 x).toArray] w fun v w' => ∃ q k, v = .tuple #[.agg #[.slice q ((toHp l).map x).length k], .int .i64 ((toHp l).mapE x)] ∧ Own w' q ((toHp l).map x).length k 61 2 (((toHp l).map x).flatMap RowD.cells) ∧ (∀ y, OwnB q y → w.heap.size ≤ y) ∧ Ext No w w' := by
 refine zq9 Tryz.func19 rfl rfl rfl rfl ?_
 have hX := Ext.refl No w
 refine zq5 (zq0 (wl (zj0 I_ok rfl fun b2 w1 hn2 hb2 hE1 => ?_)))
 have hX := hX.zq4 hE1
 have hb2 : Blk w1 b2 30 ([.slice p l.length c]) := hb2
 refine wl (zj0 I_ok rfl fun b3 w2 hn3 hb3 hE2 => ?_)
 have hb2 := hb2.zq3 hE2
 have hX := hX.zq4 hE2
 have hb3 : Blk w2 b3 37 (zq6 x) := hb3
 refine wl (zj0 I_ok rfl fun b4 w3 hn4 hb4 hE3 => ?_)
 have fr4 := Nat.le_trans hX.size hn4
 have hb2 := hb2.zq3 hE3
 have hb3 := hb3.zq3 hE3
 have hX := hX.zq4 hE3
 have hb4 : Blk w3 b4 64 ([.slice none 0 0]) := hb4
 refine wl_p I_ok rfl (zq2 (zq1 (zq5 (c_draw rfl 6 [(0, true), (2, true), (1, false), (3, false), (4, true), (5, true)] [6, 7] (No) (by kernel_rfl) fun w4 hE4 hs4 => ?_))))
 have hd2 := hb2
 have hd3 := hb3
 have hb4 := hb4.zq3 hE4
 have hX := hX.zq4 hE4
 have hC : Ext (No) _ w4 := hE4.no
 refine wd_ldN I_ok rfl rfl (fun w' hw' => (hd2.zq3 hw').seg) rfl ?_
 refine wd_ldN I_ok rfl rfl (fun w' hw' => (hd3.zq3 hw').seg) hx.len ?_
 refine wd_l rfl (zx2 Tryz.call30 rfl rfl rfl rfl rfl rfl (readBk_calls w4 (h.zq3 hX)) fun v5 w5 hr5 => ⟨(by obtain ⟨r, rfl, hrn, hM, hE5⟩ := hr5; exact hC.zq4 hE5), ?_⟩)
 obtain ⟨r, rfl, hrn, hM, hE5⟩ := hr5
 have hb4 := hb4.zq3 hE5
 have hX := hX.zq4 hE5
 have hC := hC.zq4 hE5
 have hXs := hX.size
 refine wd_l rfl (zx2 Tryz.call37 rfl rfl rfl rfl rfl rfl (textsB_calls w5 ⟨h.zq3 hX, hM⟩ hx) fun v6 w6 hr6 => ⟨(by obtain ⟨q, k, rfl, hq, hqn0, hE6⟩ := hr6; exact hC.zq4 hE6), ?_⟩)
 obtain ⟨q, k, rfl, hq, hqn0, hE6⟩ := hr6
 have hb4 := hb4.zq3 hE6
 have hX := hX.zq4 hE6
 have hqn : ∀ y, OwnB q y → w.heap.size ≤ y := fun y hy => Nat.le_trans hXs (hqn0 y hy)
 refine wd_k I_ok 2 rfl (wd_sw ?_)
 have hb4o := hb4
 refine wb rfl (zj5 (l' := [.slice q ((toHp l).map x).length k]) I_ok hb4 rfl rfl rfl rfl OneC.h fun w7 hb4 hE7 hs7 => ?_)
 have hq := hq.zx9 hE7 hb4o (by decide)
 have hX := hX.zx1 hE7 fr4
 refine wb rfl (st_p I_ok rfl rfl rfl (zj2 (zq1 (zz8 (f_ret [_, _] ⟨⟨b4, 0, rfl, ld_all I_ok rfl rfl hb4.seg rfl⟩, rfl, trivial⟩ ?_)))))
 exact ⟨q, k, rfl, hq, hqn, hX⟩
end Go.Proofs.YtoapldhadeoeiaaGreatDoor
namespace Go.Proofs.YtoapldhadeoeiaaGreatDoor
open Go.Vc
theorem wk_all : (wkI.length = 3 ∧ wkH.length = 5) ∧ ((wkH.waveGo (wkL (wkC 1)) (wkL (wkC 1))).length = (wkL (wkC 1)).length) ∧ ((wkH.waveGo (wkL (wkC 2)) (wkL (wkC 2))).length = (wkL (wkC 2)).length) ∧
 (wkH.kErr (wkC 1) 3 = 0 ∧ wkH.kErr (wkC 2) 3 = 0) ∧ (∀ y ∈ wkL (wkC 1), wkH.Good y) ∧ (∀ y ∈ wkL (wkC 2), wkH.Good y) ∧ (histC wkH (wkL (wkC 1)) = [wkC 1, wkC 0]) ∧ ((histC wkH (wkL (wkC 1))).find? (fun x => decide (x ∈ histC wkH (wkL (wkC 2)))) = some (wkC 0)) ∧
 (wkH.mapE (wkH.getD 1 ([], objZ)).1 = 0) ∧ ((wkH.map (wkH.getD 1 ([], objZ)).1).map (fun r => (r.path, r.text)) = [([97], [49])]) := by
 have h := wk_ok
 unfold wkOk at h
 simp only [Bool.and_eq_true, decide_eq_true_eq, List.all_eq_true] at h
 obtain ⟨⟨⟨⟨⟨⟨⟨⟨⟨h1, h2⟩, h3⟩, h4⟩, h5⟩, h6⟩, h7⟩, h8⟩, h9⟩, h10⟩ := h
 exact ⟨h1, h2, h3, h4, h5, h6, h7, h8, h9, h10⟩
theorem wk_len : wkI.length = 3 := wk_all.1.1
theorem wk_hlen : wkH.length = 5 := wk_all.1.2
theorem wk_led1 : wkH.led (wkC 1) = wkL (wkC 1) := Hp.led_of 3 (by unfold wkL; rfl) wk_all.2.1
theorem wk_led2 : wkH.led (wkC 2) = wkL (wkC 2) := Hp.led_of 3 (by unfold wkL; rfl) wk_all.2.2.1
theorem wk_hist1 : wkH.hist (wkC 1) = [wkC 1, wkC 0] := by
 rw [Hp.hist, wk_led1]
 exact wk_all.2.2.2.2.2.2.1
theorem wk_hist2 : wkH.hist (wkC 2) = histC wkH (wkL (wkC 2)) := by rw [Hp.hist, wk_led2]; unfold histC; rfl
theorem wk_base : wkH.base (wkC 1) (wkC 2) = some (wkC 0) := by
 have h := wk_all.2.2.2.2.2.2.2.1
 rw [wk_all.2.2.2.2.2.2.1] at h
 rw [Hp.base, wk_hist1, wk_hist2]
 exact h
theorem wk_cl1 : wkH.closed (wkC 1) = 0 := by
 rw [Hp.closed, if_neg fun k => k wk_all.2.2.2.1.1, wk_led1, if_pos wk_all.2.2.2.2.1]
theorem wk_cl2 : wkH.closed (wkC 2) = 0 := by
 rw [Hp.closed, if_neg fun k => k wk_all.2.2.2.1.2, wk_led2, if_pos wk_all.2.2.2.2.2.1]
theorem wk_baseE : baseE wkH (wkC 1) (wkC 2) = 0 := by rw [baseE, if_neg fun k => k wk_cl1]; exact wk_cl2
theorem wk_baseO : baseO wkH (wkC 1) (wkC 2) = some (wkC 0) := by rw [baseO, if_pos wk_baseE]; exact wk_base
theorem wk_histE : histE wkH (wkC 1) = [wkC 1, wkC 0] := by rw [histE, if_pos wk_cl1]; exact wk_hist1
def wkT : IdB := (wkH.getD 1 ([], objZ)).1
theorem wk_mapE : wkH.mapE wkT = 0 := wk_all.2.2.2.2.2.2.2.2.1
theorem wk_map : wkH.map wkT = [⟨[97], [49]⟩] := by
 have h := wk_all.2.2.2.2.2.2.2.2.2
 show wkH.map (wkH.getD 1 ([], objZ)).1 = _
 generalize wkH.map (wkH.getD 1 ([], objZ)).1 = l at h ⊢
 rcases l with _ | ⟨⟨p, t⟩, _ | ⟨b, r⟩⟩
 ·cases h
 ·have h := (List.cons.inj h).1
  have h1 := congrArg Prod.fst h
  have h2 := congrArg Prod.snd h
  dsimp only at h1 h2
  rw [h1, h2]
 ·cases (List.cons.inj h).2
theorem wk_ids {ids : List IdB} (h : ids = wkI) (hi : ∀ y ∈ ids, IdIn y) : IdIn (wkC 0) ∧ IdIn (wkC 1) ∧ IdIn (wkC 2) := by
 subst h
 have hl := wk_len
 have key : ∀ i, i < 3 → IdIn (wkC i) := fun i hi2 => by
  unfold wkC
  rw [List.getD_eq_getElem?_getD, List.getElem?_eq_getElem (by omega)]
  exact hi _ (List.getElem_mem _)
 exact ⟨key 0 (by decide), key 1 (by decide), key 2 (by decide)⟩
theorem wkC_at {i : Nat} (h : i < wkI.length) : wkI[i] = wkC i := by
 unfold wkC
 rw [List.getD_eq_getElem?_getD, List.getElem?_eq_getElem h]; rfl
theorem wkT_at {m : List zx8} (hM : toHp m = wkH) (h : 1 < m.length) : m[1].id = wkT := by
 rw [wkT, ← hM, toHp, List.getD_eq_getElem?_getD, List.getElem?_map, List.getElem?_eq_getElem h]
 rfl
theorem sl_lt {w : World} {p : Option Addr} {n sz : Nat} {xs : List Value} (h : Sl w p n sz xs) (hn : 0 < n * sz) {b off : Nat} (e : p = some ⟨b, off, none⟩) : b < w.heap.size := by
 obtain ⟨hl, h | ⟨b2, o2, e2, hs⟩⟩ := h
 ·rw [h, Nat.zero_mul] at hn; cases hn
 ·rw [e2] at e; cases e
  exact hs.lt fun k => by rw [k] at hl; have : 0 = n * sz := hl; omega
/-- what was made stays, but for what is new -/
theorem MadeQ.round {W w : World} {q : Option Addr} {k : Nat} {m : List zx8} {qi : Option Addr} {ki : Nat} {ids : List IdB} (h : MadeQ W w q m qi ki ids) : MadeR w.heap.size w.heap.size w.heap.size ⟨m, q, k, ids, qi, ki⟩ w := by
 refine ⟨Nat.le_refl _, h.hp.sub fun x hx k => ?_, fun w' hE => h.own.ext hE fun x hx k => ?_⟩
 ·rcases k with (k | k | k) | k
  ·omega
  ·omega
  ·exact k
  ·omega
 ·have := h.own.lt hx
  rcases k with (k | k) | k <;> omega
theorem wk_history {w : World} {p : Option Addr} {c : Nat} {l : List zx8} (h : HpIn w p l) (hM : toHp l = wkH) (hi : IdIn (wkC 1)) :
  zz1 Tryz.prog 16 [.agg #[.slice p l.length c], .agg (zq6 (wkC 1)).toArray] w fun v w' => ∃ q k, v = .tuple #[.slice q 2 k, .int .i64 0] ∧ Sl w' q 2 32 ([wkC 1, wkC 0].flatMap zq6) ∧ Ext No w w' :=
 (historyD_calls w h hi).mono fun v w' hr => by
  obtain ⟨q, k, e, hs, hE⟩ := hr
  rw [hM, wk_histE] at hs
  rw [hM, wk_histE, wk_cl1] at e
  exact ⟨q, k, e, hs, hE⟩
theorem wk_baseC {w : World} {p : Option Addr} {c : Nat} {l : List zx8} (h : HpIn w p l) (hM : toHp l = wkH) (hi : IdIn (wkC 1)) (hj : IdIn (wkC 2)) :
  zz1 Tryz.prog 18 [.agg #[.slice p l.length c], .agg (zq6 (wkC 1)).toArray, .agg (zq6 (wkC 2)).toArray] w fun v w' => v = .tuple #[.agg (zq6 (wkC 0)).toArray, .bool true, .int .i64 0] ∧ Ext No w w' :=
 (baseD_calls w h hi hj).mono fun v w' hr => by
  obtain ⟨e, hE⟩ := hr
  rw [hM, wk_baseO, wk_baseE] at e
  exact ⟨e, hE⟩
theorem wk_mapC {w : World} {p : Option Addr} {c : Nat} {l : List zx8} (h : HpIn w p l) (hM : toHp l = wkH) (hi : IdIn wkT) :
  zz1 Tryz.prog 19 [.agg #[.slice p l.length c], .agg (zq6 wkT).toArray] w fun v w' => ∃ q k, v = .tuple #[.agg #[.slice q 1 k], .int .i64 0] ∧ Sl w' q 1 2 (([⟨[97], [49]⟩] : List RowD).flatMap RowD.cells) ∧ (∀ b off, q = some ⟨b, off, none⟩ → w.heap.size ≤ b) ∧ Ext No w w' :=
 (mapD_calls w h hi).mono fun v w' hr => by
  obtain ⟨q, k, e, hs, hn, hE⟩ := hr
  rw [hM, wk_map] at hs
  rw [hM, wk_map, wk_mapE] at e
  exact ⟨q, k, e, hs.sl, own_newS hs hn, hE⟩
def wkR : List RowD := [⟨[97], [49]⟩]
theorem wkR_in : RowsIn wkR := fun r hr => by rw [List.mem_singleton.1 hr]; exact ⟨by decide, by decide⟩
def wkTs (b12 b18 b21 : Nat) : List StepT := [⟨some ⟨b12, 0, none⟩, 1, wkR, none, 0, [], []⟩, ⟨some ⟨b12, 0, none⟩, 1, wkR, some ⟨b18, 0, none⟩, 1, [0], [97]⟩, ⟨some ⟨b12, 0, none⟩, 1, wkR, some ⟨b21, 0, none⟩, 1, [0], [98]⟩]
theorem wakes_calls (w : World) : zz1 Tryz.prog 5 [] w fun v w' => v = .bool true ∧ Ext No w w' := by
 refine zq9 Tryz.func5 rfl rfl rfl rfl ?_
 have hX := Ext.refl No w
 refine zq5 (zq0 (wl_p I_ok rfl (zq2 (zq1 (zq5 (zq0 (wl (st_bd I_ok rfl ⟨⟨rfl, by decide⟩, ⟨rfl, by decide⟩, trivial⟩ (l' := RowD.cells ⟨[97], [49]⟩) (by rw [rowZ_c]; rfl) ?_))))))))
 refine wl (st_bs I_ok rfl 2 rfl rowZ_c rfl (by decide) (by decide) ⟨⟨rfl, by decide⟩, trivial⟩ (l' := wkR.flatMap RowD.cells) rfl fun b12 w1 hn12 hb12 hE1 hs1 => ?_)
 have hX := hX.zq4 hE1
 refine wl (st_bd I_ok rfl ⟨⟨rfl, by decide⟩, trivial⟩ (l' := [.slice (some ⟨b12, 0, none⟩) wkR.length 1]) rfl (wl (zj0 I_ok rfl fun b1 w2 hn1 hb1 hE2 => ?_)))
 have ne12_1 : b12 ≠ b1 := Nat.ne_of_lt (Nat.lt_of_lt_of_le hb12.lt hn1)
 have fr1 := Nat.le_trans hX.size hn1
 have hb12 := hb12.zq3 hE2
 have hX := hX.zq4 hE2
 refine wl (zj5 (l' := [.slice (some ⟨b12, 0, none⟩) wkR.length 1]) I_ok hb1 rfl rfl rfl rfl OneC.h fun w3 hb1 hE3 hs3 => ?_)
 have hb12 := hb12.ext1 hE3 ne12_1
 have hX := hX.zx1 hE3 fr1
 refine zq2 (zq1 (zq5 (zq0 (wl (zj4 I_ok hb1 rfl rfl (wl (st_bd I_ok rfl ⟨⟨rfl, by decide⟩, trivial⟩ (l' := stepC ⟨some ⟨b12, 0, none⟩, 1, wkR, none, 0, [], []⟩) rfl (wl (zj4 I_ok hb1 rfl rfl ?_)))))))))
 refine wl (st_bs I_ok rfl 1 rfl rfl rfl (by decide) (by decide) ⟨⟨rfl, by decide⟩, trivial⟩ (l' := [.int .i64 0]) rfl fun b18 w4 hn18 hb18 hE4 hs4 => ?_)
 have hb12 := hb12.zq3 hE4
 have hb1 := hb1.zq3 hE4
 have hX := hX.zq4 hE4
 refine wl (st_bd I_ok rfl ⟨⟨rfl, by decide⟩, ⟨rfl, by decide⟩, ⟨rfl, by decide⟩, trivial⟩ (l' := stepC ⟨some ⟨b12, 0, none⟩, 1, wkR, some ⟨b18, 0, none⟩, 1, [0], [97]⟩) rfl (wl (zj4 I_ok hb1 rfl rfl ?_)))
 refine wl (st_bs I_ok rfl 1 rfl rfl rfl (by decide) (by decide) ⟨⟨rfl, by decide⟩, trivial⟩ (l' := [.int .i64 0]) rfl fun b21 w5 hn21 hb21 hE5 hs5 => ?_)
 have hb12 := hb12.zq3 hE5
 have hb1 := hb1.zq3 hE5
 have hb18 := hb18.zq3 hE5
 have hX := hX.zq4 hE5
 refine wl (st_bd I_ok rfl ⟨⟨rfl, by decide⟩, ⟨rfl, by decide⟩, ⟨rfl, by decide⟩, trivial⟩ (l' := stepC ⟨some ⟨b12, 0, none⟩, 1, wkR, some ⟨b21, 0, none⟩, 1, [0], [98]⟩) rfl ?_)
 refine wl (st_bs I_ok rfl 3 rfl rfl rfl (by decide) (by decide) ⟨⟨rfl, by decide⟩, ⟨rfl, by decide⟩, ⟨rfl, by decide⟩, trivial⟩ (l' := (wkTs b12 b18 b21).flatMap stepC) rfl fun b23 w6 hn23 hb23 hE6 hs6 => ?_)
 have hb12 := hb12.zq3 hE6
 have hb1 := hb1.zq3 hE6
 have hb18 := hb18.zq3 hE6
 have hb21 := hb21.zq3 hE6
 have hX := hX.zq4 hE6
 refine wl (st_bd I_ok rfl ⟨⟨rfl, by decide⟩, trivial⟩ (l' := [.slice (some ⟨b23, 0, none⟩) (wkTs b12 b18 b21).length 3, .slice none ([] : List TurnD).length 0]) rfl ?_)
 have hsin : ∀ s ∈ wkTs b12 b18 b21, StepIn w6 s := fun s hs => by
  have h12 : Sl w6 (some ⟨b12, 0, none⟩) wkR.length 2 (wkR.flatMap RowD.cells) := ⟨rfl, .inr ⟨b12, 0, rfl, hb12.seg⟩⟩
  rcases List.mem_cons.1 hs with rfl | hs
  ·exact ⟨h12, (by show 1 < 9223372036854775808; decide), Sl.nil _ _ _, (by show 0 < 9223372036854775808; decide)⟩
  rcases List.mem_cons.1 hs with rfl | hs
  ·exact ⟨h12, (by show 1 < 9223372036854775808; decide), ⟨rfl, .inr ⟨b18, 0, rfl, hb18.seg⟩⟩, (by show 1 < 9223372036854775808; decide)⟩
  rw [List.mem_singleton.1 hs]
  exact ⟨h12, (by show 1 < 9223372036854775808; decide), ⟨rfl, .inr ⟨b21, 0, rfl, hb21.seg⟩⟩, (by show 1 < 9223372036854775808; decide)⟩
 refine wl (zx2 Tryz.call6 rfl rfl rfl rfl rfl rfl (made_calls w6 (steps := wkTs b12 b18 b21) (turns := []) ⟨rfl, .inr ⟨b23, 0, rfl, hb23.seg⟩⟩ hsin (show 3 < 9223372036854775808 by decide) (Sl.nil _ _ _) (fun _ h => (by cases h)) (by decide)) fun v7 w7 hr7 => ?_)
 obtain ⟨q, k, m, qi, ki, ids, rfl, hMQ, hMD, hE7⟩ := hr7
 have hb12 := hb12.zq3 hE7
 have hb1 := hb1.zq3 hE7
 have hX := hX.zq4 hE7
 have hMD := hMD rfl
 have hMD : (toHp m, ids) = madeD wkS := hMD
 have hM : toHp m = wkH := (congrArg Prod.fst hMD).trans wkH_eq
 have hI : ids = wkI := (congrArg Prod.snd hMD).trans wkI_eq
 have hil : ids.length = 3 := by rw [hI, wk_len]
 have hml : m.length = 5 := by have := congrArg List.length hM; rw [wk_hlen, toHp, List.length_map] at this; exact this
 obtain ⟨hi0, hi1, hi2⟩ := wk_ids hI hMQ.iin
 obtain ⟨ib, io, rfl, hir⟩ := hMQ.own.sl.rowAll (fun r hr => (hMQ.iin r hr : IdIn r).len) (by omega)
 have hid : ∀ i, i < 3 → Seg w7 ib (io + i * 32) (zq6 (wkC i)) := fun i hi => by
  have h := hir i (by omega)
  have e : ids[i]'(by omega) = wkC i := by
   have := wkC_at (i := i) (by rw [wk_len]; exact hi)
   rw [← this]; congr 1
  rw [e] at h; exact h
 have hR := MadeQ.round (k := k) hMQ
 obtain ⟨N, hN⟩ : ∃ N, N = w7.heap.size := ⟨_, rfl⟩
 rw [← hN] at hR
 refine wl_p I_ok rfl ?_
 have hR0 := hR.n
 have hid0 := hid 0 (by decide)
 refine wl (zj0 I_ok rfl fun b2 w8 hn2 hb2 hE8 => ?_)
 have ne12_2 : b12 ≠ b2 := Nat.ne_of_lt (Nat.lt_of_lt_of_le hb12.lt hn2)
 have ne1_2 : b1 ≠ b2 := Nat.ne_of_lt (Nat.lt_of_lt_of_le hb1.lt hn2)
 have fr2 := Nat.le_trans hX.size hn2
 have hb12 := hb12.zq3 hE8
 have hb1 := hb1.zq3 hE8
 have hR := hR.no hE8
 have hid := fun i hi => (hid i hi).zq3 hE8
 have hX := hX.zq4 hE8
 have fN2 := Nat.le_trans hR0 hn2
 have nib2 : ib ≠ b2 := fun e => by have := hid0.lt (by intro e; have := congrArg List.length e; rw [zq7, hi0] at this; cases this); omega
 refine wl (zj5 (l' := [.slice q m.length k]) I_ok hb2 rfl rfl rfl rfl OneC.h fun w9 hb2 hE9 hs9 => ?_)
 have hb12 := hb12.ext1 hE9 ne12_2
 have hb1 := hb1.ext1 hE9 ne1_2
 have hR := hR.one hE9 fN2
 have hid := fun i hi => (hid i hi).ext hE9 (fun e => (by have e : ib = b2 := e; exact nib2 e))
 have hX := hX.zx1 hE9 fr2
 refine wl_p I_ok rfl (zq2 (zq1 (zq5 (c_draw rfl 10 [(0, true), (1, true), (2, true), (3, true), (4, false), (5, true), (6, true), (7, true), (8, true), (9, true)] [] (No) (by kernel_rfl) fun w10 hE10 hs10 => ?_))))
 have hd1 := hb1
 have hd2 := hb2
 have hRd := hR
 have hidd := hid
 have hb12 := hb12.zq3 hE10
 have hb1 := hb1.zq3 hE10
 have hb2 := hb2.zq3 hE10
 have hR := hR.no hE10
 have hid := fun i hi => (hid i hi).zq3 hE10
 have hX := hX.zq4 hE10
 have hC : Ext (No) _ w10 := hE10.no
 refine wd_ldN I_ok rfl rfl (fun w' hw' => (hd2.zq3 hw').seg) rfl ?_
 refine wd_k I_ok 1 rfl (wd_ix I_ok rfl rfl 32 rfl 1 rfl (by omega) (io + 1 * 32) rfl (wd_ldN I_ok rfl rfl (fun w' hw' => ((hidd 1 (by decide)).zq3 hw')) hi1.len ?_))
 refine wd_l rfl (zx2 Tryz.call16 rfl rfl rfl rfl rfl rfl (wk_history (l := m) hR.hp.now hM hi1) fun v11 w11 hr11 => ⟨(by obtain ⟨q4, k4, rfl, h4, hE11⟩ := hr11; exact hC.zq4 hE11), ?_⟩)
 obtain ⟨q4, k4, rfl, h4, hE11⟩ := hr11
 have hb12 := hb12.zq3 hE11
 have hb1 := hb1.zq3 hE11
 have hb2 := hb2.zq3 hE11
 have hR := hR.no hE11
 have hid := fun i hi => (hid i hi).zq3 hE11
 have hX := hX.zq4 hE11
 have hC := hC.zq4 hE11
 refine wd_k I_ok 5 rfl (wd_sw (zj2 (zq1 ?_)))
 have hltc12 := hb12.lt
 have hltc1 := hb1.lt
 have hltc2 := hb2.lt
 have hszc := hX.size
 refine c_cutK (α := (Unit) × Nat) [1, 2, 3, 4, 5] rfl (fun z => [(6, .pointer (some ⟨z.2, 0, none⟩)), (7, .bool true), (8, .int .i64 0)]) (fun z u => ((∀ i, i < 3 → Seg u ib (io + i * 32) (zq6 (wkC i))) ∧ Sl u q4 2 32 ([wkC 1, wkC 0].flatMap zq6) ∧ MadeR N N N ⟨m, q, k, ids, (some ⟨ib, io, none⟩), ki⟩ u) ∧ Blk u b12 61 (wkR.flatMap RowD.cells) ∧ Blk u b1 64 ([.slice (some ⟨b12, 0, none⟩) wkR.length 1]) ∧ Blk u b2 30 ([.slice q m.length k]) ∧ Blk u z.2 37 (zq6 (wkC 0)) ∧ w11.heap.size ≤ z.2 ∧ Ext No w u) ?_ ?_
 ·have hQ := Nat.le_refl w11.heap.size
  refine c_drawX rfl 16 16 [] (No) (by kernel_rfl) fun w12 hE12 hs12 => ?_
  have hd2 := hb2
  have hidd := hid
  have hb12 := hb12.zq3 hE12
  have hb1 := hb1.zq3 hE12
  have hb2 := hb2.zq3 hE12
  have hR := hR.no hE12
  have hid := fun i hi => (hid i hi).zq3 hE12
  have h4 := h4.zq3 hE12
  have hQ := Nat.le_trans hQ hE12.size
  have hX := hX.zq4 hE12
  have hC : Ext No _ w12 := hE12
  refine wx_plan [(0, true), (1, true), (2, true), (3, true), (4, true), (5, true), (6, true)] 9 rfl (by kernel_rfl) (wd_ldN I_ok rfl rfl (fun w' hw' => (hd2.zq3 hw').seg) rfl ?_)
  refine wd_k I_ok 1 rfl (wd_ix I_ok rfl rfl 32 rfl 1 rfl (by omega) (io + 1 * 32) rfl (wd_ldN I_ok rfl rfl (fun w' hw' => ((hidd 1 (by decide)).zq3 hw')) hi1.len ?_))
  refine wd_k I_ok 1 rfl (wd_ix I_ok rfl rfl 32 rfl 2 rfl (by omega) (io + 2 * 32) rfl (wd_ldN I_ok rfl rfl (fun w' hw' => ((hidd 2 (by decide)).zq3 hw')) hi2.len ?_))
  refine wd_tail rfl (wx_alt [7, 12] rfl (by kernel_rfl) ⟨⟨_, rfl, ?_⟩, ⟨_, rfl, ?_⟩, trivial⟩)
  ·refine zx2 Tryz.call18 rfl rfl rfl rfl rfl rfl (wk_baseC (l := m) hR.hp.now hM hi1 hi2) fun v13 w13 hr13 => ⟨(by obtain ⟨rfl, hE13⟩ := hr13; exact hC.zq4 hE13), ?_⟩
   obtain ⟨rfl, hE13⟩ := hr13
   have hb12 := hb12.zq3 hE13
   have hb1 := hb1.zq3 hE13
   have hb2 := hb2.zq3 hE13
   have hR := hR.no hE13
   have hid := fun i hi => (hid i hi).zq3 hE13
   have h4 := h4.zq3 hE13
   have hQ := Nat.le_trans hQ hE13.size
   have hX := hX.zq4 hE13
   have hC := hC.zq4 hE13
   refine wx_plan [(8, true), (9, true), (10, true), (11, true), (12, false), (13, false), (14, true), (15, true)] 0 rfl (by kernel_rfl) (wd_k I_ok 4 rfl ?_)
   have hR0 := hR.n
   have hid0 := hid 0 (by decide)
   have h40 := h4
   refine wd_l rfl (zj0 I_ok rfl fun b6 w14 hn6 hb6 hE14 => ⟨hC.zq4 hE14, ?_⟩)
   have ne12_6 : b12 ≠ b6 := Nat.ne_of_lt (Nat.lt_of_lt_of_le hb12.lt hn6)
   have ne1_6 : b1 ≠ b6 := Nat.ne_of_lt (Nat.lt_of_lt_of_le hb1.lt hn6)
   have ne2_6 : b2 ≠ b6 := Nat.ne_of_lt (Nat.lt_of_lt_of_le hb2.lt hn6)
   have fr6 := Nat.le_trans hX.size hn6
   have frhQ6 := Nat.le_trans hQ hn6
   have frhC6 := Nat.le_trans hC.size hn6
   have hb12 := hb12.zq3 hE14
   have hb1 := hb1.zq3 hE14
   have hb2 := hb2.zq3 hE14
   have hR := hR.no hE14
   have hid := fun i hi => (hid i hi).zq3 hE14
   have h4 := h4.zq3 hE14
   have hQ := Nat.le_trans hQ hE14.size
   have hX := hX.zq4 hE14
   have hC := hC.zq4 hE14
   have fN6 := Nat.le_trans hR0 hn6
   have nib6 : ib ≠ b6 := fun e => by have := hid0.lt (by intro e; have := congrArg List.length e; rw [zq7, hi0] at this; cases this); omega
   have n4_6 : ∀ b off, q4 = some ⟨b, off, none⟩ → ¬ b = b6 := fun b off e k => by have := (sl_lt h40 (by decide) e); omega
   refine wd_l rfl (zj5 (l' := zq6 (wkC 0)) I_ok hb6 rfl rfl hi0.len (by rw [zq7, hi0]; rfl) OneC.h fun w15 hb6 hE15 hs15 => ⟨hC.zx1 hE15 frhC6, ?_⟩)
   have hb12 := hb12.ext1 hE15 ne12_6
   have hb1 := hb1.ext1 hE15 ne1_6
   have hb2 := hb2.ext1 hE15 ne2_6
   have hR := hR.one hE15 fN6
   have hid := fun i hi => (hid i hi).ext hE15 (fun e => (by have e : ib = b6 := e; exact nib6 e))
   have h4 := h4.ext hE15 (fun b off e => n4_6 b off e)
   have hQ := Nat.le_trans hQ hE15.size
   have hX := hX.zx1 hE15 fr6
   refine wd_k I_ok 2 rfl (wd_sw (zj2 ?_))
   exact zz5 ((()), b6) rfl ⟨⟨hid, h4, hR⟩, hb12, hb1, hb2, hb6, frhQ6, hX⟩
  ·have hR0 := hR.n
   have hid0 := hid 0 (by decide)
   have h40 := h4
   refine zj0 I_ok rfl fun b6 w16 hn6 hb6 hE16 => ⟨hC.zq4 hE16, ?_⟩
   have ne12_6 : b12 ≠ b6 := Nat.ne_of_lt (Nat.lt_of_lt_of_le hb12.lt hn6)
   have ne1_6 : b1 ≠ b6 := Nat.ne_of_lt (Nat.lt_of_lt_of_le hb1.lt hn6)
   have ne2_6 : b2 ≠ b6 := Nat.ne_of_lt (Nat.lt_of_lt_of_le hb2.lt hn6)
   have fr6 := Nat.le_trans hX.size hn6
   have frhQ6 := Nat.le_trans hQ hn6
   have frhC6 := Nat.le_trans hC.size hn6
   have hb12 := hb12.zq3 hE16
   have hb1 := hb1.zq3 hE16
   have hb2 := hb2.zq3 hE16
   have hR := hR.no hE16
   have hid := fun i hi => (hid i hi).zq3 hE16
   have h4 := h4.zq3 hE16
   have hQ := Nat.le_trans hQ hE16.size
   have hX := hX.zq4 hE16
   have hC := hC.zq4 hE16
   have fN6 := Nat.le_trans hR0 hn6
   have nib6 : ib ≠ b6 := fun e => by have := hid0.lt (by intro e; have := congrArg List.length e; rw [zq7, hi0] at this; cases this); omega
   have n4_6 : ∀ b off, q4 = some ⟨b, off, none⟩ → ¬ b = b6 := fun b off e k => by have := (sl_lt h40 (by decide) e); omega
   refine wx_plan [(7, false), (8, true), (9, true), (10, true), (11, true), (13, false), (14, true), (15, true)] 0 rfl (by kernel_rfl) ?_
   refine wd_l rfl (zx2 Tryz.call18 rfl rfl rfl rfl rfl rfl (wk_baseC (l := m) hR.hp.now hM hi1 hi2) fun v17 w17 hr17 => ⟨(by obtain ⟨rfl, hE17⟩ := hr17; exact hC.zq4 hE17), ?_⟩)
   obtain ⟨rfl, hE17⟩ := hr17
   have hb12 := hb12.zq3 hE17
   have hb1 := hb1.zq3 hE17
   have hb2 := hb2.zq3 hE17
   have hb6 := hb6.zq3 hE17
   have hR := hR.no hE17
   have hid := fun i hi => (hid i hi).zq3 hE17
   have h4 := h4.zq3 hE17
   have hQ := Nat.le_trans hQ hE17.size
   have hX := hX.zq4 hE17
   have hC := hC.zq4 hE17
   refine wd_k I_ok 4 rfl (wd_l rfl (zj5 (l' := zq6 (wkC 0)) I_ok hb6 rfl rfl hi0.len (by rw [zq7, hi0]; rfl) OneC.h fun w18 hb6 hE18 hs18 => ⟨hC.zx1 hE18 frhC6, ?_⟩))
   have hb12 := hb12.ext1 hE18 ne12_6
   have hb1 := hb1.ext1 hE18 ne1_6
   have hb2 := hb2.ext1 hE18 ne2_6
   have hR := hR.one hE18 fN6
   have hid := fun i hi => (hid i hi).ext hE18 (fun e => (by have e : ib = b6 := e; exact nib6 e))
   have h4 := h4.ext hE18 (fun b off e => n4_6 b off e)
   have hQ := Nat.le_trans hQ hE18.size
   have hX := hX.zx1 hE18 fr6
   refine wd_k I_ok 2 rfl (wd_sw (zj2 ?_))
   exact zz5 ((()), b6) rfl ⟨⟨hid, h4, hR⟩, hb12, hb1, hb2, hb6, frhQ6, hX⟩
 rintro ⟨z, b6⟩ w19 ⟨⟨hid, h4, hR⟩, hb12, hb1, hb2, hb6, hn6, hX⟩
 try dsimp only
 dsimp only at hb6 hn6
 have hltc12 := hb12.lt
 have hltc1 := hb1.lt
 have hltc2 := hb2.lt
 have hltc6 := hb6.lt
 have hszc := hX.size
 refine c_cutK (α := (Option Addr × Nat) × Nat) [1, 3, 4, 5, 6, 7, 8] rfl (fun z => [(9, .pointer (some ⟨z.2, 0, none⟩)), (10, .int .i64 0)]) (fun z u => ((∀ i, i < 3 → Seg u ib (io + i * 32) (zq6 (wkC i))) ∧ Sl u q4 2 32 ([wkC 1, wkC 0].flatMap zq6) ∧ Sl u z.1.1 1 2 (([⟨[97], [49]⟩] : List RowD).flatMap RowD.cells)) ∧ Blk u b12 61 (wkR.flatMap RowD.cells) ∧ Blk u b1 64 ([.slice (some ⟨b12, 0, none⟩) wkR.length 1]) ∧ Blk u b2 30 ([.slice q m.length k]) ∧ Blk u b6 37 (zq6 (wkC 0)) ∧ Blk u z.2 64 ([.slice z.1.1 1 z.1.2]) ∧ w19.heap.size ≤ z.2 ∧ Ext No w u) ?_ ?_
 ·have hQ := Nat.le_refl w19.heap.size
  refine c_drawX rfl 13 13 [] (No) (by kernel_rfl) fun w20 hE20 hs20 => ?_
  have hd2 := hb2
  have hRd := hR
  have hb12 := hb12.zq3 hE20
  have hb1 := hb1.zq3 hE20
  have hb2 := hb2.zq3 hE20
  have hb6 := hb6.zq3 hE20
  have hR := hR.no hE20
  have hid := fun i hi => (hid i hi).zq3 hE20
  have h4 := h4.zq3 hE20
  have hQ := Nat.le_trans hQ hE20.size
  have hX := hX.zq4 hE20
  have hC : Ext No _ w20 := hE20
  obtain ⟨mb, mo, hmq, hmr⟩ := (hRd.hp.now).sl.rowAll (hRd.hp.now).c (by dsimp only; omega)
  dsimp only at hmq
  subst hmq
  have hmr1 := held_id (hmr 1 (by dsimp only; omega))
  rw [wkT_at hM] at hmr1
  have hTi : IdIn wkT := by have := ((hRd.hp.now).ins _ (List.getElem_mem (show 1 < m.length by omega))).id; rw [wkT_at hM] at this; exact this
  refine wx_plan [(0, true), (1, true), (2, true), (3, true), (4, true), (5, true)] 7 rfl (by kernel_rfl) (wd_ldN I_ok rfl rfl (fun w' hw' => (hd2.zq3 hw').seg) rfl ?_)
  refine wd_k I_ok 1 rfl (zv2 I_ok rfl rfl (fun w' hw' => (hd2.zq3 hw').cell rfl) ?_)
  refine wd_ix I_ok rfl rfl 105 rfl 1 rfl (by omega) (mo + 1 * 105) rfl (wd_k I_ok 1 rfl (wd_ldN I_ok rfl rfl (fun w' hw' => (hmr1.zq3 hw')) hTi.len ?_))
  refine wd_tail rfl (wx_alt [6, 10] rfl (by kernel_rfl) ⟨⟨_, rfl, ?_⟩, ⟨_, rfl, ?_⟩, trivial⟩)
  ·try have hb9L := hb9.lt
   refine zx2 Tryz.call19 rfl rfl rfl rfl rfl rfl (wk_mapC (l := m) hR.hp.now hM hTi) fun v21 w21 hr21 => ⟨(by obtain ⟨q9, k9, rfl, h9, h9n, hE21⟩ := hr21; exact hC.zq4 hE21), ?_⟩
   obtain ⟨q9, k9, rfl, h9, h9n, hE21⟩ := hr21
   have hb12 := hb12.zq3 hE21
   have hb1 := hb1.zq3 hE21
   have hb2 := hb2.zq3 hE21
   have hb6 := hb6.zq3 hE21
   have hR := hR.no hE21
   have hid := fun i hi => (hid i hi).zq3 hE21
   have h4 := h4.zq3 hE21
   have hQ := Nat.le_trans hQ hE21.size
   have hX := hX.zq4 hE21
   have hC := hC.zq4 hE21
   try have n9_9 : ∀ b off, q9 = some ⟨b, off, none⟩ → ¬ b = b9 := fun b off e k => by have := h9n b off e; omega
   refine wx_plan [(7, true), (8, true), (9, true), (10, false), (11, false), (12, true)] 0 rfl (by kernel_rfl) (wd_k I_ok 3 rfl ?_)
   have hR0 := hR.n
   have hid0 := hid 0 (by decide)
   have h40 := h4
   try have h90 := h9
   refine wd_l rfl (zj0 I_ok rfl fun b9 w22 hn9 hb9 hE22 => ⟨hC.zq4 hE22, ?_⟩)
   have ne12_9 : b12 ≠ b9 := Nat.ne_of_lt (Nat.lt_of_lt_of_le hb12.lt hn9)
   have ne1_9 : b1 ≠ b9 := Nat.ne_of_lt (Nat.lt_of_lt_of_le hb1.lt hn9)
   have ne2_9 : b2 ≠ b9 := Nat.ne_of_lt (Nat.lt_of_lt_of_le hb2.lt hn9)
   have ne6_9 : b6 ≠ b9 := Nat.ne_of_lt (Nat.lt_of_lt_of_le hb6.lt hn9)
   have fr9 := Nat.le_trans hX.size hn9
   have frhQ9 := Nat.le_trans hQ hn9
   have frhC9 := Nat.le_trans hC.size hn9
   have hb12 := hb12.zq3 hE22
   have hb1 := hb1.zq3 hE22
   have hb2 := hb2.zq3 hE22
   have hb6 := hb6.zq3 hE22
   have hid := fun i hi => (hid i hi).zq3 hE22
   have h4 := h4.zq3 hE22
   have h9 := h9.zq3 hE22
   have hQ := Nat.le_trans hQ hE22.size
   have hX := hX.zq4 hE22
   have hC := hC.zq4 hE22
   have fN9 := Nat.le_trans hR0 hn9
   have nib9 : ib ≠ b9 := fun e => by have := hid0.lt (by intro e; have := congrArg List.length e; rw [zq7, hi0] at this; cases this); omega
   have n4_9 : ∀ b off, q4 = some ⟨b, off, none⟩ → ¬ b = b9 := fun b off e k => by have := (sl_lt h40 (by decide) e); omega
   try have n9_9 : ∀ b off, q9 = some ⟨b, off, none⟩ → ¬ b = b9 := fun b off e k => by have := (sl_lt h90 (by decide) e); omega
   refine wd_l rfl (zj5 (l' := [.slice q9 1 k9]) I_ok hb9 rfl rfl rfl rfl OneC.h fun w23 hb9 hE23 hs23 => ⟨hC.zx1 hE23 frhC9, ?_⟩)
   have hb12 := hb12.ext1 hE23 ne12_9
   have hb1 := hb1.ext1 hE23 ne1_9
   have hb2 := hb2.ext1 hE23 ne2_9
   have hb6 := hb6.ext1 hE23 ne6_9
   have hid := fun i hi => (hid i hi).ext hE23 (fun e => (by have e : ib = b9 := e; exact nib9 e))
   have h4 := h4.ext hE23 (fun b off e => n4_9 b off e)
   have h9 := h9.ext hE23 (fun b off e => n9_9 b off e)
   have hQ := Nat.le_trans hQ hE23.size
   have hX := hX.zx1 hE23 fr9
   refine wd_k I_ok 1 rfl (wd_sw (zj2 ?_))
   exact zz5 ((q9, k9), b9) rfl ⟨⟨hid, h4, h9⟩, hb12, hb1, hb2, hb6, hb9, frhQ9, hX⟩
  ·have hR0 := hR.n
   have hid0 := hid 0 (by decide)
   have h40 := h4
   try have h90 := h9
   refine zj0 I_ok rfl fun b9 w24 hn9 hb9 hE24 => ⟨hC.zq4 hE24, ?_⟩
   have ne12_9 : b12 ≠ b9 := Nat.ne_of_lt (Nat.lt_of_lt_of_le hb12.lt hn9)
   have ne1_9 : b1 ≠ b9 := Nat.ne_of_lt (Nat.lt_of_lt_of_le hb1.lt hn9)
   have ne2_9 : b2 ≠ b9 := Nat.ne_of_lt (Nat.lt_of_lt_of_le hb2.lt hn9)
   have ne6_9 : b6 ≠ b9 := Nat.ne_of_lt (Nat.lt_of_lt_of_le hb6.lt hn9)
   have fr9 := Nat.le_trans hX.size hn9
   have frhQ9 := Nat.le_trans hQ hn9
   have frhC9 := Nat.le_trans hC.size hn9
   have hb12 := hb12.zq3 hE24
   have hb1 := hb1.zq3 hE24
   have hb2 := hb2.zq3 hE24
   have hb6 := hb6.zq3 hE24
   have hR := hR.no hE24
   have hid := fun i hi => (hid i hi).zq3 hE24
   have h4 := h4.zq3 hE24
   have hQ := Nat.le_trans hQ hE24.size
   have hX := hX.zq4 hE24
   have hC := hC.zq4 hE24
   have fN9 := Nat.le_trans hR0 hn9
   have nib9 : ib ≠ b9 := fun e => by have := hid0.lt (by intro e; have := congrArg List.length e; rw [zq7, hi0] at this; cases this); omega
   have n4_9 : ∀ b off, q4 = some ⟨b, off, none⟩ → ¬ b = b9 := fun b off e k => by have := (sl_lt h40 (by decide) e); omega
   try have n9_9 : ∀ b off, q9 = some ⟨b, off, none⟩ → ¬ b = b9 := fun b off e k => by have := (sl_lt h90 (by decide) e); omega
   refine wx_plan [(6, false), (7, true), (8, true), (9, true), (11, false), (12, true)] 0 rfl (by kernel_rfl) ?_
   try have hb9L := hb9.lt
   refine wd_l rfl (zx2 Tryz.call19 rfl rfl rfl rfl rfl rfl (wk_mapC (l := m) hR.hp.now hM hTi) fun v25 w25 hr25 => ⟨(by obtain ⟨q9, k9, rfl, h9, h9n, hE25⟩ := hr25; exact hC.zq4 hE25), ?_⟩)
   obtain ⟨q9, k9, rfl, h9, h9n, hE25⟩ := hr25
   have hb12 := hb12.zq3 hE25
   have hb1 := hb1.zq3 hE25
   have hb2 := hb2.zq3 hE25
   have hb6 := hb6.zq3 hE25
   have hb9 := hb9.zq3 hE25
   have hid := fun i hi => (hid i hi).zq3 hE25
   have h4 := h4.zq3 hE25
   have hQ := Nat.le_trans hQ hE25.size
   have hX := hX.zq4 hE25
   have hC := hC.zq4 hE25
   try have n9_9 : ∀ b off, q9 = some ⟨b, off, none⟩ → ¬ b = b9 := fun b off e k => by have := h9n b off e; omega
   refine wd_k I_ok 3 rfl (wd_l rfl (zj5 (l' := [.slice q9 1 k9]) I_ok hb9 rfl rfl rfl rfl OneC.h fun w26 hb9 hE26 hs26 => ⟨hC.zx1 hE26 frhC9, ?_⟩))
   have hb12 := hb12.ext1 hE26 ne12_9
   have hb1 := hb1.ext1 hE26 ne1_9
   have hb2 := hb2.ext1 hE26 ne2_9
   have hb6 := hb6.ext1 hE26 ne6_9
   have hid := fun i hi => (hid i hi).ext hE26 (fun e => (by have e : ib = b9 := e; exact nib9 e))
   have h4 := h4.ext hE26 (fun b off e => n4_9 b off e)
   have h9 := h9.ext hE26 (fun b off e => n9_9 b off e)
   have hQ := Nat.le_trans hQ hE26.size
   have hX := hX.zx1 hE26 fr9
   refine wd_k I_ok 1 rfl (wd_sw (zj2 ?_))
   exact zz5 ((q9, k9), b9) rfl ⟨⟨hid, h4, h9⟩, hb12, hb1, hb2, hb6, hb9, frhQ9, hX⟩
 rintro ⟨⟨q9, k9⟩, b9⟩ w27 ⟨⟨hid, h4, h9⟩, hb12, hb1, hb2, hb6, hb9, hn9, hX⟩
 try dsimp only
 dsimp only at hb9 hn9
 refine c_cutK (α := Unit) [] rfl (fun z => [(0, .bool true)]) (fun z u => Ext No w u) ?_ ?_
 ·refine c_draw rfl 40 [(0, true), (1, true), (2, true), (3, true), (4, true), (5, true), (6, true), (7, true), (8, true), (9, true), (10, true), (11, true), (12, true), (13, true), (14, true), (15, true), (16, true), (17, true), (18, true), (19, true), (20, true), (21, true), (22, true), (23, true), (24, true), (25, true), (26, true), (27, true), (28, true), (29, true), (30, true), (31, true), (32, true), (33, true), (34, true), (35, true), (36, true), (37, false), (38, true), (39, true)] [] (No) (by kernel_rfl) fun w28 hE28 hs28 => ?_
  have hd1 := hb1
  have hd6 := hb6
  have hd9 := hb9
  have hidd := hid
  have h4d := h4
  have hb12 := hb12.zq3 hE28
  have hid := fun i hi => (hid i hi).zq3 hE28
  have h9 := h9.zq3 hE28
  have hX := hX.zq4 hE28
  have hC : Ext (No) _ w28 := hE28.no
  obtain ⟨hb_, ho_, hq4, h4r⟩ := (show Sl _ q4 [wkC 1, wkC 0].length 32 _ from h4d).rowAll (fun r hr => by rcases List.mem_cons.1 hr with rfl | hr; exact hi1.len; rw [List.mem_singleton.1 hr]; exact hi0.len) (by decide)
  subst hq4
  refine wd_k I_ok 3 rfl (wd_caseD 60 rfl (fun hg => ?_) (fun hg => ?_))
  ·refine wd_k I_ok 4 rfl ?_
   refine wd_caseD 64 rfl (fun hg => ?_) (fun hg => ?_)
   ·refine wd_k I_ok 4 rfl ?_
    refine wd_caseD 68 rfl (fun hg => ?_) (fun hg => ?_)
    ·refine wd_k I_ok 3 rfl ?_
     refine wd_case 71 rfl (fun hg => ?_) (fun hg => ?_)
     ·refine wd_ldN I_ok rfl rfl (fun w' hw' => (hd6.zq3 hw').seg) hi0.len ?_
      refine wd_k I_ok 1 rfl (wd_ix I_ok rfl rfl 32 rfl 0 rfl (by omega) (io + 0 * 32) rfl (wd_ldN I_ok rfl rfl (fun w' hw' => ((hidd 0 (by decide)).zq3 hw')) hi0.len ?_))
      refine wd_eqK rfl rfl gId 10 (by decide) kId (idForm hi0) (idForm hi0) (idKey hi0) (idKey hi0) idLits_inj ?_
      simp only [if_true]
      refine wd_k I_ok 2 rfl (wd_caseD 78 rfl (fun hg => ?_) (fun hg => ?_))
      ·refine wd_k I_ok 5 rfl ?_
       refine wd_caseD 83 rfl (fun hg => ?_) (fun hg => ?_)
       ·refine wd_k I_ok 1 rfl ?_
        refine wd_ix I_ok rfl rfl 32 rfl 0 rfl (by decide) (ho_ + 0 * 32) rfl (wd_ldN I_ok rfl rfl (fun w' hw' => ((h4r 0 (by decide)).zq3 hw')) hi1.len ?_)
        refine wd_k I_ok 1 rfl (wd_ix I_ok rfl rfl 32 rfl 1 rfl (by omega) (io + 1 * 32) rfl (wd_ldN I_ok rfl rfl (fun w' hw' => ((hidd 1 (by decide)).zq3 hw')) hi1.len ?_))
        refine wd_eqK rfl rfl gId 10 (by decide) kId (idForm hi1) (idForm hi1) (idKey hi1) (idKey hi1) idLits_inj ?_
        simp only [if_true]
        refine wd_k I_ok 2 rfl (wd_caseD 92 rfl (fun hg => ?_) (fun hg => ?_))
        ·refine wd_ldN I_ok rfl rfl (fun w' hw' => (hd1.zq3 hw').seg) rfl ?_
         refine wd_ldN I_ok rfl rfl (fun w' hw' => (hd9.zq3 hw').seg) rfl ?_
         refine wd_l rfl (zx2 Tryz.call20 rfl rfl rfl rfl rfl rfl (same5_calls w28 (l := wkR) (m := wkR) ⟨rfl, .inr ⟨b12, 0, rfl, hb12.seg⟩⟩ h9 (by decide) wkR_in wkR_in) fun v29 w29 hr29 => ⟨(by obtain ⟨rfl, hE29⟩ := hr29; exact hC.zq4 hE29), ?_⟩)
         obtain ⟨rfl, hE29⟩ := hr29
         have hid := fun i hi => (hid i hi).zq3 hE29
         have hX := hX.zq4 hE29
         rw [show decide (wkR = wkR) = true from decide_eq_true rfl]
         refine wd_k I_ok 2 rfl (wd_sw (zj2 ?_))
         exact zz5 (()) rfl hX
        ·exact absurd trivial hg
       ·exact absurd rfl hg
      ·exact absurd trivial hg
     ·exact absurd hg (by decide)
    ·exact absurd rfl hg
   ·exact absurd rfl hg
  ·exact absurd rfl hg
 rintro z w30 hX
 refine zz8 (zz0 rfl rfl ?_)
 exact ⟨rfl, hX⟩
end Go.Proofs.YtoapldhadeoeiaaGreatDoor
namespace Go.Proofs.YtoapldhadeoeiaaGreatDoor
open Go.Vc
end Go.Proofs.YtoapldhadeoeiaaGreatDoor
namespace Go.Proofs.YtoapldhadeoeiaaGreatDoor
open Go.Vc
/-- rows of its own, whatever stands there -/
def OwnX (w : World) (p : Option Addr) (n c T sz : Nat) : Prop := ∃ xs, Own w p n c T sz xs
theorem OwnX.zq3 {w w' : World} {p : Option Addr} {n c T sz : Nat} (h : OwnX w p n c T sz) (hE : Ext No w w') : OwnX w' p n c T sz := by obtain ⟨xs, h⟩ := h; exact ⟨xs, h.ext hE fun _ _ => id⟩
theorem OwnX.zx9 {w w' : World} {p : Option Addr} {n c T sz : Nat} (h : OwnX w p n c T sz) {b U : Nat} {m : List Value} (hE : Ext (One b) w w') (hb : Blk w b U m) (hT : T ≠ U) : OwnX w' p n c T sz := by obtain ⟨xs, h⟩ := h; exact ⟨xs, h.zx9 hE hb hT⟩
abbrev ObjF (a : ObjP) : Nat → Prop := fun y => OwnB a.lp y ∨ OwnB a.pp y ∨ OwnB a.rp y
theorem spoil_calls (w : World) {x : ObjD} {a : ObjP} (hx : ObjIn x) (hl : OwnX w a.lp x.leaves.length a.lc 84 33) (hp : OwnX w a.pp x.parents.length a.pc 37 32) (hr : OwnX w a.rp x.rows.length a.rc 87 3) (h1 : x.leaves.length < 1000000000) (h2 : x.parents.length < 1000000000) (h3 : x.rows.length < 1000000000) :
  zz1 Tryz.prog 13 [.agg (objC x a).toArray] w fun v w' => v = .tuple #[] ∧ Ext (ObjF a) w w' := by
 obtain ⟨lp, lc, pp, pc, rp, rc⟩ := a
 dsimp only at hl hp hr
 have hol := hl
 have hop := hp
 have hor := hr
 refine zq9 Tryz.func13 rfl rfl rfl rfl ?_
 have hX := Ext.refl (ObjF ⟨lp, lc, pp, pc, rp, rc⟩) w
 refine zq5 (zq0 (wl (zj0 I_ok rfl fun b1 w1 hn1 hb1 hE1 => ?_)))
 have hol := hol.zq3 hE1
 have hop := hop.zq3 hE1
 have hor := hor.zq3 hE1
 have hX := hX.zq4 hE1
 have hb1 : Blk w1 b1 43 (objC x ⟨lp, lc, pp, pc, rp, rc⟩) := hb1
 refine zq2 (zq1 (zq5 (zq5 (zq0 (wl_p I_ok rfl (wl (st_ldb I_ok hb1 rfl rfl (wl_p I_ok rfl (zq2 (zq1 (zx4 ?_)))))))))))
 refine zv1 (α := Nat) [1, 7] rfl (fun z => [(8, .int .i64 (z : Int))]) (fun z u => (z ≤ x.leaves.length ∧ OwnX u lp x.leaves.length lc 84 33 ∧ OwnX u pp x.parents.length pc 37 32 ∧ OwnX u rp x.rows.length rc 87 3) ∧ Blk u b1 43 (objC x ⟨lp, lc, pp, pc, rp, rc⟩) ∧ Ext (ObjF ⟨lp, lc, pp, pc, rp, rc⟩) w u) (fun z u => x.leaves.length - z) (0) rfl ⟨⟨Nat.zero_le _, hol, hop, hor⟩, hb1, hX⟩ ?_
 rintro i w2 ⟨⟨hi, hol, hop, hor⟩, hb1, hX⟩
 refine zq5 (zq0 (wl_p I_ok rfl (zq2 (zq1 (zq5 (c_if rfl (fun hc => ?_) (fun hc => ?_)))))))
 ·have hi : i < x.leaves.length := by omega
  obtain ⟨xs, hxs⟩ := hol
  obtain ⟨bl, L, hp, hbl, hL, hnc, hcm, htk⟩ := hxs.opened (by omega)
  subst hp
  refine zx7 (zq1 (zq5 (zx4 (zq5 (zq0 (wl_p I_ok rfl (zq2 (zq1 (zq0 (wl_p I_ok rfl (wl (st_ldb I_ok hb1 rfl rfl (wl_p I_ok rfl (wl (st_ix I_ok rfl 33 rfl i rfl hi (0 + i * 33) rfl ?_)))))))))))))))
  rw [Nat.zero_add]
  refine wl_p I_ok rfl ?_
  have hblo := hbl
  have hXo := hX
  refine wl (st_set I_ok hbl rfl rfl (by rw [hL]; have := Nat.mul_le_mul_right 33 hnc; omega) fun w3 hbl hE3 hs3 => ?_)
  have hb1 := hb1.ext1 hE3 (hb1.ne hblo (by decide))
  have hX := hXo.trans hE3 fun y hy hF => .inl (by rw [show y = bl from hF])
  have hop := hop.zx9 hE3 hblo (by decide)
  have hor := hor.zx9 hE3 hblo (by decide)
  have hol : OwnX w3 (some ⟨bl, 0, none⟩) x.leaves.length lc 84 33 := ⟨_, Own.setB hL hnc hcm htk hbl⟩
  refine zq2 (zx6 (zq1 (zq0 (wl_p I_ok rfl ?_))))
  rw [IntWalk.i64_in _ (by omega)]
  refine zq2 ?_
  exact zj7 (i + 1) rfl ⟨⟨hi, hol, hop, hor⟩, hb1, hX⟩ (by first | omega | (dsimp only; omega))
 ·refine c_exit ?_
  refine zx3 (zx3 (zz2 (zq1 (zq5 (zq5 (zq0 (wl_p I_ok rfl (wl (st_ld I_ok rfl (hb1.seg.obj hx).parents (wl_p I_ok rfl (zq2 (zq1 (zx4 ?_)))))))))))))
  refine zv1 (α := Nat) [1, 19] rfl (fun z => [(20, .int .i64 (z : Int))]) (fun z u => (z ≤ x.parents.length ∧ OwnX u lp x.leaves.length lc 84 33 ∧ OwnX u pp x.parents.length pc 37 32 ∧ OwnX u rp x.rows.length rc 87 3) ∧ Blk u b1 43 (objC x ⟨lp, lc, pp, pc, rp, rc⟩) ∧ Ext (ObjF ⟨lp, lc, pp, pc, rp, rc⟩) w u) (fun z u => x.parents.length - z) (0) rfl ⟨⟨Nat.zero_le _, hol, hop, hor⟩, hb1, hX⟩ ?_
  rintro j w4 ⟨⟨hj, hol, hop, hor⟩, hb1, hX⟩
  refine zq5 (zq0 (wl_p I_ok rfl (zq2 (zq1 (zq5 (c_if rfl (fun hc => ?_) (fun hc => ?_)))))))
  ·have hj : j < x.parents.length := by omega
   obtain ⟨xs, hxs⟩ := hop
   obtain ⟨bl, L, hp, hbl, hL, hnc, hcm, htk⟩ := hxs.opened (by omega)
   subst hp
   refine zx7 (zq1 (zq5 (zx4 (zq5 (zq0 (wl_p I_ok rfl (zq2 (zq1 (zq0 (wl_p I_ok rfl (wl (st_ld I_ok rfl (hb1.seg.obj hx).parents (wl_p I_ok rfl (wl (st_bd I_ok rfl trivial (l' := zq6 idZ) idZ_c.symm ?_)))))))))))))))
   refine wl (st_ix I_ok rfl 32 rfl j rfl hj (0 + j * 32) rfl ?_)
   rw [Nat.zero_add]
   have hblo := hbl
   have hXo := hX
   refine wl (st_stN I_ok hbl rfl (by rw [zz3]; rfl) (by show j * 32 + 32 ≤ _; rw [hL]; have := Nat.mul_le_mul_right 32 hnc; omega) (by rw [zz3]; exact OneC.h) fun w5 hbl hE5 hs5 => ?_)
   have hb1 := hb1.ext1 hE5 (hb1.ne hblo (by decide))
   have hX := hXo.trans hE5 fun y hy hF => .inr <| .inl (by rw [show y = bl from hF])
   have hol := hol.zx9 hE5 hblo (by decide)
   have hor := hor.zx9 hE5 hblo (by decide)
   have hop : OwnX w5 (some ⟨bl, 0, none⟩) x.parents.length pc 37 32 := ⟨_, Own.putB hL hnc hcm htk (by rw [zz3, zq7]; show j * 32 + 32 ≤ _; omega) hbl⟩
   refine zq2 (zx6 (zq1 (zq0 (wl_p I_ok rfl ?_))))
   rw [IntWalk.i64_in _ (by omega)]
   refine zq2 ?_
   exact zj7 (j + 1) rfl ⟨⟨hj, hol, hop, hor⟩, hb1, hX⟩ (by first | omega | (dsimp only; omega))
  ·refine c_exit ?_
   refine zx3 (zx3 (zz2 (zq1 (zq5 (zq0 (wl_p I_ok rfl (wl (st_ld I_ok rfl (hb1.seg.obj hx).rows (wl_p I_ok rfl (zq2 (zq1 (zx4 ?_))))))))))))
   refine zv1 (α := Nat) [1, 32] rfl (fun z => [(33, .int .i64 (z : Int))]) (fun z u => (z ≤ x.rows.length ∧ OwnX u lp x.leaves.length lc 84 33 ∧ OwnX u pp x.parents.length pc 37 32 ∧ OwnX u rp x.rows.length rc 87 3) ∧ Blk u b1 43 (objC x ⟨lp, lc, pp, pc, rp, rc⟩) ∧ Ext (ObjF ⟨lp, lc, pp, pc, rp, rc⟩) w u) (fun z u => x.rows.length - z) (0) rfl ⟨⟨Nat.zero_le _, hol, hop, hor⟩, hb1, hX⟩ ?_
   rintro k w6 ⟨⟨hk, hol, hop, hor⟩, hb1, hX⟩
   refine zq5 (zq0 (wl_p I_ok rfl (zq2 (zq1 (zq5 (c_if rfl (fun hc => ?_) (fun hc => ?_)))))))
   ·have hk : k < x.rows.length := by omega
    obtain ⟨xs, hxs⟩ := hor
    obtain ⟨bl, L, hp, hbl, hL, hnc, hcm, htk⟩ := hxs.opened (by omega)
    subst hp
    refine zx7 (zq1 (zq5 (zx4 (zq5 (zq0 (wl_p I_ok rfl (zq2 (zq1 (zq0 (wl_p I_ok rfl (wl (st_ld I_ok rfl (hb1.seg.obj hx).rows (wl_p I_ok rfl (wl (st_ix I_ok rfl 3 rfl k rfl hk (0 + k * 3) rfl ?_)))))))))))))))
    rw [Nat.zero_add]
    refine wl_p I_ok rfl ?_
    have hblo := hbl
    have hXo := hX
    refine wl (st_set I_ok hbl rfl rfl (by rw [hL]; have := Nat.mul_le_mul_right 3 hnc; omega) fun w7 hbl hE7 hs7 => ?_)
    have hb1 := hb1.ext1 hE7 (hb1.ne hblo (by decide))
    have hX := hXo.trans hE7 fun y hy hF => .inr <| .inr (by rw [show y = bl from hF])
    have hol := hol.zx9 hE7 hblo (by decide)
    have hop := hop.zx9 hE7 hblo (by decide)
    have hor : OwnX w7 (some ⟨bl, 0, none⟩) x.rows.length rc 87 3 := ⟨_, Own.setB hL hnc hcm htk hbl⟩
    refine zq2 (zx6 (zq1 (zq0 (wl_p I_ok rfl ?_))))
    rw [IntWalk.i64_in _ (by omega)]
    refine zq2 ?_
    exact zj7 (k + 1) rfl ⟨⟨hk, hol, hop, hor⟩, hb1, hX⟩ (by first | omega | (dsimp only; omega))
   ·refine c_exit ?_
    refine zx3 (zx3 (zz2 (f_end0 rfl ?_)))
    exact ⟨rfl, hX⟩
end Go.Proofs.YtoapldhadeoeiaaGreatDoor
namespace Go.Proofs.YtoapldhadeoeiaaGreatDoor
open Go.Vc
/-- it holds, and goes on to hold as long as only what is newer turns -/
structure KS (N : Nat) (w : World) (P : World → Prop) : Prop where
  n : N ≤ w.heap.size
  st : Stb (fun x => N ≤ x) w P
theorem KS.now {N : Nat} {w : World} {P : World → Prop} (h : KS N w P) : P w := h.st.now
theorem KS.ext {N : Nat} {w w' : World} {P : World → Prop} (h : KS N w P) {T : Nat → Prop} (hE : Ext T w w') (hT : ∀ x, x < w.heap.size → T x → N ≤ x) : KS N w' P := ⟨Nat.le_trans h.n hE.size, h.st.step hE hT fun _ _ k => k⟩
theorem KS.no {N : Nat} {w w' : World} {P : World → Prop} (h : KS N w P) (hE : Ext No w w') : KS N w' P := h.ext hE fun _ _ k => k.elim
theorem KS.one {N b : Nat} {w w' : World} {P : World → Prop} (h : KS N w P) (hE : Ext (One b) w w') (hb : N ≤ b) : KS N w' P := h.ext hE fun x _ e => by have e : x = b := e; omega
theorem KS.mk0 {w : World} {P : World → Prop} (h : ∀ u, Ext No w u → P u) : KS w.heap.size w P := ⟨Nat.le_refl _, fun u hu => h u (hu.mono fun x hx k => by omega)⟩
theorem KS.add {N : Nat} {w : World} {P Q : World → Prop} (h : KS N w P) (hQ : ∀ u, Ext No w u → Q u) : KS w.heap.size w (fun u => P u ∧ Q u) := KS.mk0 fun u hu => ⟨(h.no hu).now, hQ u hu⟩
theorem StepIn.zq3 {w w' : World} {s : StepT} (h : StepIn w s) (hE : Ext No w w') : StepIn w' s := ⟨h.rows.zq3 hE, h.rl, h.back.zq3 hE, h.bl⟩
theorem MadeQ.ks {W w : World} {q : Option Addr} {m : List zx8} {qi : Option Addr} {ki : Nat} {ids : List IdB} (h : MadeQ W w q m qi ki ids) : KS w.heap.size w (fun u => HpIn u q m ∧ Sl u qi ids.length 32 (ids.flatMap zq6)) :=
 KS.mk0 fun u hu => ⟨h.hp u (hu.mono fun _ _ k => k.elim), (h.own.sl).zq3 hu⟩
end Go.Proofs.YtoapldhadeoeiaaGreatDoor
namespace Go.Proofs.YtoapldhadeoeiaaGreatDoor
open Go.Vc
theorem kErr_err {h : Hp} {x : IdB} {k : Int} (e : h.kErr x k = 0) : h.err x = 0 ∧ (h.obj x).kind = k ∧ h.kObj x k = h.obj x := by
 unfold Hp.kErr at e
 unfold Hp.kObj
 split at e
 ·cases e
 ·rename_i hn
  rw [if_neg hn]
  exact ⟨e, Decidable.byContradiction fun hk => hn ⟨e, hk⟩, rfl⟩
theorem kErr_of {h : Hp} {x : IdB} {k : Int} (e : h.err x = 0) (hk : (h.obj x).kind = k) : h.kErr x k = 0 := by
 unfold Hp.kErr
 rw [if_neg fun c => c.2 hk]
 exact e
theorem mapE_tree {h : Hp} {x : IdB} (e : h.mapE x = 0) : h.kErr x 2 = 0 ∧ h.txErr (h.obj x).leaves = 0 := by
 unfold Hp.mapE at e
 split at e
 ·rename_i c; exact absurd e c
 ·rename_i c
  have h0 : h.kErr x 2 = 0 := Decidable.not_not.1 c
  refine ⟨h0, ?_⟩
  rw [(kErr_err h0).2.2] at e
  exact e
theorem txErr_all {h : Hp} {L : List zj6} (e : h.txErr L = 0) : ∀ l ∈ L, h.kErr l.id 1 = 0 := by
 unfold Hp.txErr at e
 split at e
 ·rename_i hf
  intro l hl
  have := List.find?_eq_none.1 hf l hl
  simpa using this
 ·rename_i l hf
  have := List.find?_some hf
  simp at this
  exact absurd e this
theorem closed_at {h : Hp} {x : IdB} (e : h.closed x = 0) : h.kErr x 3 = 0 ∧ ∀ y, h.Leads x y → h.Good y := by
 unfold Hp.closed at e
 split at e
 ·rename_i c; exact absurd e c
 ·rename_i c
  split at e
  ·rename_i c2; exact ⟨Decidable.not_not.1 c, fun y hy => c2 y ((h.led_mem x y).2 hy)⟩
  ·cases e
theorem links_com {h : Hp} {y : IdB} (e : h.kErr y 3 = 0) : h.links y = (h.obj y).tree :: (h.obj y).parents := by
 obtain ⟨_, hk, _⟩ := kErr_err e
 unfold Hp.links zz9
 rw [if_neg (by rw [hk]; decide), if_pos hk]
theorem num_obj {h : Hp} {y : IdB} (e : h.kErr y 3 = 0) : h.num y = (h.obj y).number := by rw [Hp.num, (kErr_err e).2.2]
/-- all commits behind a closed one have lesser numbers, and its trees have maps -/
theorem behind {h : Hp} {x : IdB} (e : h.closed x = 0) : ∀ y, h.Leads x y → (h.kErr y 3 = 0 → y = x ∨ h.num y < h.num x) ∧ ((h.obj y).kind = 2 → h.mapE y = 0) := by
 obtain ⟨h3, hg⟩ := closed_at e
 intro y hy
 induction hy with
 | here => exact ⟨fun _ => .inl rfl, fun k => by rw [(kErr_err h3).2.1] at k; cases k⟩
 | @on y z hy hz ih =>
  have gy := hg y hy
  by_cases hc : (h.obj y).kind = 3
  ·have hy3 := kErr_of gy.1 hc
   rw [links_com hy3] at hz
   obtain ⟨hm, hp⟩ := gy.2 hc
   rcases List.mem_cons.1 hz with rfl | hz
   ·have h2 := (mapE_tree hm).1
    refine ⟨fun k => ?_, fun _ => hm⟩
    have := (kErr_err h2).2.1
    rw [(kErr_err k).2.1] at this
    cases this
   ·obtain ⟨p1, p2⟩ := hp.1 z hz
    have hn : h.num z < h.num y := by rw [num_obj hy3]; exact p2
    refine ⟨fun _ => .inr ?_, fun k => by rw [(kErr_err p1).2.1] at k; cases k⟩
    rcases ih.1 hy3 with rfl | hlt
    ·exact hn
    ·omega
  ·by_cases hk : (h.obj y).kind = 2
   ·have hm := (mapE_tree (ih.2 hk)).2
    have hz2 : ∃ l ∈ (h.obj y).leaves, l.id = z := by
     unfold Hp.links zz9 at hz
     rw [if_pos hk] at hz
     exact List.mem_map.1 hz
    obtain ⟨l, hl, rfl⟩ := hz2
    have h1 := (kErr_err (txErr_all hm l hl)).2.1
    exact ⟨fun k => absurd ((kErr_err k).2.1.symm.trans h1) (by decide), fun k => absurd (k.symm.trans h1) (by decide)⟩
   ·unfold Hp.links zz9 at hz
    rw [if_neg hk, if_neg hc] at hz
    cases hz
end Go.Proofs.YtoapldhadeoeiaaGreatDoor
namespace Go.Proofs.YtoapldhadeoeiaaGreatDoor
open Go.Vc
def cutLeaf8 (r : zj6) : zj6 := ⟨r.path.take 60, r.id⟩
def cutChg8 (r : ChgD) : ChgD := ⟨r.path.take 60, r.is, r.text.take 100⟩
def cutL8 (o : ObjD) : ObjD := { cutN o with leaves := o.leaves.take 8 }
def cutP8 (o : ObjD) : ObjD := { cutL8 o with parents := o.parents.take 4 }
def cutO8 (o : ObjD) : ObjD := { cutP8 o with rows := o.rows.take 8 }
/-- an object cut short -/
def objO8 (o : ObjD) : ObjD := { cutO8 o with leaves := (o.leaves.take 8).map cutLeaf8, rows := (o.rows.take 8).map cutChg8 }
theorem cutL8_in {o : ObjD} (h : ObjIn o) : ObjIn (cutL8 o) := ⟨h.tree, h.base, h.parents, fun r hr => h.leaves r (List.mem_of_mem_take hr), h.rows, h.number, h.author⟩
theorem cutP8_in {o : ObjD} (h : ObjIn o) : ObjIn (cutP8 o) := ⟨h.tree, h.base, fun r hr => h.parents r (List.mem_of_mem_take hr), fun r hr => h.leaves r (List.mem_of_mem_take hr), h.rows, h.number, h.author⟩
theorem cutO8_in {o : ObjD} (h : ObjIn o) : ObjIn (cutO8 o) := ⟨h.tree, h.base, fun r hr => h.parents r (List.mem_of_mem_take hr), fun r hr => h.leaves r (List.mem_of_mem_take hr), fun r hr => h.rows r (List.mem_of_mem_take hr), h.number, h.author⟩
/-- its lists reach as far as they are long -/
structure ObjCap (x : ObjD) (a : ObjP) : Prop where
  leaves : x.leaves.length ≤ a.lc
  parents : x.parents.length ≤ a.pc
  rows : x.rows.length ≤ a.rc
theorem objC_cutN {x : ObjD} {a : ObjP} (h : ObjIn x) : (objC (cutT x) a).set (68 + 4) (strV (x.note.take 201)) = objC (cutN x) a := objC_set (cutT_in h) 4 _
theorem objC_cutP8 {x : ObjD} {a : ObjP} (h : ObjIn x) : (objC (cutL8 x) a).set (68 + 0) (.slice a.pp (x.parents.take 4).length a.pc) = objC (cutP8 x) a := objC_set (cutL8_in h) 0 _
theorem objC_cutO8 {x : ObjD} {a : ObjP} (h : ObjIn x) : (objC (cutP8 x) a).set (68 + 1) (.slice a.rp (x.rows.take 8).length a.rc) = objC (cutO8 x) a := objC_set (cutP8_in h) 1 _
theorem objC_objO8 (x : ObjD) (a : ObjP) : objC (objO8 x) a = objC (cutO8 x) a := by
 simp only [objC, objO8, cutO8, List.length_map]; rfl
theorem cutO8_l {w : World} {x : ObjD} {a : ObjP} (h : ObjL w x a) (hx : ObjIn x) : ObjL w (cutO8 x) a :=
 ⟨h.leaves.cut (fun r hr => zj6.len (hx.leaves r hr).2) 8, h.parents.cut (fun r hr => (by rw [zq7]; exact hx.parents r hr)) 4, h.rows.cut (fun r _ => r.len) 8⟩
theorem cutO8_leaves (x : ObjD) : (cutO8 x).leaves.length < 1000000000 := Nat.lt_of_le_of_lt (by show (x.leaves.take 8).length ≤ 8; rw [List.length_take]; omega) (by decide : 8 < 1000000000)
theorem cutO8_parents (x : ObjD) : (cutO8 x).parents.length < 1000000000 := Nat.lt_of_le_of_lt (by show (x.parents.take 4).length ≤ 8; rw [List.length_take]; omega) (by decide : 8 < 1000000000)
theorem cutO8_rows (x : ObjD) : (cutO8 x).rows.length < 1000000000 := Nat.lt_of_le_of_lt (by show (x.rows.take 8).length ≤ 8; rw [List.length_take]; omega) (by decide : 8 < 1000000000)
theorem leaf_cut8 {L : List zj6} (hL : ∀ r ∈ L, r.id.length = 32) {i : Nat} (hi : i < L.length) :
  ((upto cutLeaf8 i L).flatMap zj6.cells).set (i * 33 + 0) (strV ((L[i]).path.take 60)) = (upto cutLeaf8 (i + 1) L).flatMap zj6.cells := by
 have h1 : i < (upto cutLeaf8 i L).length := by rw [upto_len]; exact hi
 have h2 : ∀ r ∈ upto cutLeaf8 i L, (zj6.cells r).length = 33 := upto_mem (fun r hr => zj6.len (hL r hr)) (fun r h => h)
 rw [flat_set h2 h1 (by decide) (y := cutLeaf8 L[i]) (by rw [upto_get hi]; rfl), upto_step hi]
theorem chg_cut8 {L : List ChgD} {i : Nat} (hi : i < L.length) :
  (((upto cutChg8 i L).flatMap ChgD.cells).set (i * 3 + 0) (strV ((L[i]).path.take 60))).set (i * 3 + 2) (strV ((L[i]).text.take 100)) = (upto cutChg8 (i + 1) L).flatMap ChgD.cells := by
 have h1 : i < (upto cutChg8 i L).length := by rw [upto_len]; exact hi
 rw [flat_set (fun r _ => r.len) h1 (by decide) (y := ⟨(L[i]).path.take 60, (L[i]).is, (L[i]).text⟩) (by rw [upto_get hi]; rfl),
  flat_set (fun r _ => r.len) (by rw [List.length_set]; exact h1) (by decide) (y := cutChg8 L[i]) (by rw [List.getElem_set_self]; rfl), List.set_set, upto_step hi]
theorem Own.row {α : Type} {w : World} {p : Option Addr} {c T sz : Nat} {g : α → α} {f : α → List Value} {i : Nat} {l : List α} (h : Own w p l.length c T sz ((upto g i l).flatMap f)) (hn : ∀ x ∈ upto g i l, (f x).length = sz) {b : Nat} (hp : p = some ⟨b, 0, none⟩) (hi : i < l.length) : Seg w b (i * sz) (f l[i]) := by
 have h1 := h.sl
 have h2 : Sl w p (upto g i l).length sz ((upto g i l).flatMap f) := by rw [upto_len]; exact h1
 have h3 : i < (upto g i l).length := by rw [upto_len]; exact hi
 obtain ⟨b', off, e, hs⟩ := h2.rowAll hn (by omega)
 rw [hp] at e
 cases e
 have := hs i h3
 rw [upto_get hi, Nat.zero_add] at this
 exact this
theorem object8_calls (w : World) {x : ObjD} {a : ObjP} (hx : ObjIn x) (hxl : ObjL w x a) (hcap : ObjCap x a) :
  zz1 Tryz.prog 8 [.agg (objC x a).toArray] w fun v w' => ∃ a', v = .agg (objC (objO8 x) a').toArray ∧ ObjNew w w' (objO8 x) a' ∧ Ext No w w' := by
 refine zq9 Tryz.func8 rfl rfl rfl rfl ?_
 have hX := Ext.refl No w
 refine zq5 (zq0 (wl (zj0 I_ok rfl fun b1 w1 hn1 hb1 hE1 => ?_)))
 have fr1 := Nat.le_trans hX.size hn1
 have hX := hX.zq4 hE1
 have hb1 : Blk w1 b1 43 (objC x a) := hb1
 refine wl (zj0 I_ok rfl fun b2 w2 hn2 hb2 hE2 => ?_)
 have ne1_2 : b1 ≠ b2 := Nat.ne_of_lt (Nat.lt_of_lt_of_le hb1.lt hn2)
 have fr2 := Nat.le_trans hX.size hn2
 have hb1 := hb1.zq3 hE2
 have hX := hX.zq4 hE2
 refine zq2 (zq1 (zq5 ?_))
 refine c_drawL I_ok rfl [] 15 [11, 12, 13] [(0, true), (1, true), (2, true), (3, true), (4, true), (5, true), (6, true), (7, true), (8, true), (9, true), (10, true), (14, true)] [29, 30, 31, 15, 16, 17] (No) (by kernel_rfl) rfl fun w3 hE3 hs3 => ?_
 have hd1 := hb1
 have hb1 := hb1.zq3 hE3
 have hb2 := hb2.zq3 hE3
 have hX := hX.zq4 hE3
 refine wd_k I_ok 1 rfl (zv2 I_ok rfl rfl (fun w' hw' => ((hd1.zq3 hw').seg.obj hx).text) ?_)
 refine wd_k I_ok 1 rfl (zv2 I_ok rfl rfl (fun w' hw' => ((hd1.zq3 hw').seg.obj hx).text) ?_)
 refine wd_k I_ok 2 rfl (wd_ss I_ok rfl rfl 0 (min _ 257) (cutBds _ _) ?_)
 rw [strU_cut]
 refine wd_k I_ok 1 rfl (zv2 I_ok rfl rfl (fun w' hw' => ((hd1.zq3 hw').seg.obj hx).note) ?_)
 refine wd_k I_ok 1 rfl (zv2 I_ok rfl rfl (fun w' hw' => ((hd1.zq3 hw').seg.obj hx).note) ?_)
 refine wd_k I_ok 1 rfl (wd_sw (wbf I_ok (i := 11) rfl rfl rfl rfl rfl (by kernel_rfl) (wbf I_ok (i := 12) rfl rfl rfl rfl rfl (by kernel_rfl) (wb_ss I_ok (i := 13) rfl rfl rfl 0 (min _ 201) (cutBds _ _) (by kernel_rfl) ?_))))
 rw [strU_cut]
 refine wb rfl (st_st I_ok hb1 rfl rfl rfl fun w4 hb1 hE4 hs4 => ?_)
 have hb2 := hb2.ext1 hE4 ne1_2.symm
 have hX := hX.zx1 hE4 fr1
 have hb1 : Blk w4 b1 43 (objC (cutT x) a) := hb1
 refine wb rfl (st_p I_ok rfl rfl rfl ?_)
 refine wb rfl (st_set I_ok hb1 rfl rfl (by rw [zq8 (cutT_in hx)]; decide) fun w5 hb1 hE5 hs5 => ?_)
 have hb2 := hb2.ext1 hE5 ne1_2.symm
 have hX := hX.zx1 hE5 fr1
 have hb1 : Blk w5 b1 43 (objC (cutN x) a) := (by have h : Blk _ b1 _ ((objC (cutT x) a).set (68 + 4) (strV (x.note.take 201))) := hb1; rw [objC_cutN hx] at h; exact h)
 refine zj2 (zq1 (zq5 ?_))
 refine c_drawL I_ok rfl [] 24 [11, 12, 13, 20, 21, 22] [(0, true), (1, true), (2, true), (3, true), (4, true), (5, true), (6, true), (7, true), (8, true), (9, true), (10, true), (14, true), (15, true), (16, true), (17, true), (18, true), (19, true), (23, true)] [41, 42, 43, 50, 51, 52, 24, 25, 26, 27, 28, 29] (No) (by kernel_rfl) rfl fun w6 hE6 hs6 => ?_
 have hd1 := hb1
 have hb1 := hb1.zq3 hE6
 have hb2 := hb2.zq3 hE6
 have hX := hX.zq4 hE6
 refine wd_k I_ok 1 rfl (zv2 I_ok rfl rfl (fun w' hw' => ((hd1.zq3 hw').seg.obj (cutN_in hx)).leaves) ?_)
 refine wd_k I_ok 1 rfl (zv2 I_ok rfl rfl (fun w' hw' => ((hd1.zq3 hw').seg.obj (cutN_in hx)).leaves) ?_)
 refine wd_k I_ok 2 rfl (wd_sl I_ok rfl rfl 0 (min x.leaves.length 8) a.lc 33 rfl (.inr ⟨rfl, rfl⟩) (.inl (congrArg some (minI _ _))) (.inr ⟨rfl, rfl⟩) (Nat.zero_le _) (by have := hcap.leaves; omega) (Nat.le_refl _) ?_)
 rw [slBase_zero, Nat.sub_zero, Nat.sub_zero, min_take]
 refine wd_k I_ok 1 rfl (zv2 I_ok rfl rfl (fun w' hw' => ((hd1.zq3 hw').seg.obj (cutN_in hx)).parents) ?_)
 refine wd_k I_ok 1 rfl (zv2 I_ok rfl rfl (fun w' hw' => ((hd1.zq3 hw').seg.obj (cutN_in hx)).parents) ?_)
 refine wd_k I_ok 2 rfl (zv2 I_ok rfl rfl (fun w' hw' => ((hd1.zq3 hw').seg.obj (cutN_in hx)).rows) ?_)
 refine wd_k I_ok 2 rfl (zv2 I_ok rfl rfl (fun w' hw' => ((hd1.zq3 hw').seg.obj (cutN_in hx)).rows) ?_)
 refine wd_k I_ok 1 rfl (wd_sw (wbf I_ok (i := 11) rfl rfl rfl rfl rfl (by kernel_rfl) (wbf I_ok (i := 12) rfl rfl rfl rfl rfl (by kernel_rfl) ?_)))
 refine wb_sl I_ok (i := 13) rfl rfl rfl 0 (min x.parents.length 4) a.pc 32 rfl (.inr ⟨rfl, rfl⟩) (.inl (congrArg some (minI _ _))) (.inr ⟨rfl, rfl⟩) (Nat.zero_le _) (by have := hcap.parents; omega) (Nat.le_refl _) (by kernel_rfl) ?_
 rw [slBase_zero, Nat.sub_zero, Nat.sub_zero, min_take]
 refine wbf I_ok (i := 20) rfl rfl rfl rfl rfl (by kernel_rfl) (wbf I_ok (i := 21) rfl rfl rfl rfl rfl (by kernel_rfl) ?_)
 refine wb_sl I_ok (i := 22) rfl rfl rfl 0 (min x.rows.length 8) a.rc 3 rfl (.inr ⟨rfl, rfl⟩) (.inl (congrArg some (minI _ _))) (.inr ⟨rfl, rfl⟩) (Nat.zero_le _) (by have := hcap.rows; omega) (Nat.le_refl _) (by kernel_rfl) ?_
 rw [slBase_zero, Nat.sub_zero, Nat.sub_zero, min_take]
 refine wb rfl (st_st I_ok hb1 rfl rfl rfl fun w7 hb1 hE7 hs7 => ?_)
 have hb2 := hb2.ext1 hE7 ne1_2.symm
 have hX := hX.zx1 hE7 fr1
 have hb1 : Blk w7 b1 43 (objC (cutL8 x) a) := hb1
 refine wb rfl (st_p I_ok rfl rfl rfl ?_)
 refine wb rfl (st_set I_ok hb1 rfl rfl (by rw [zq8 (cutL8_in hx)]; decide) fun w8 hb1 hE8 hs8 => ?_)
 have hb2 := hb2.ext1 hE8 ne1_2.symm
 have hX := hX.zx1 hE8 fr1
 have hb1 : Blk w8 b1 43 (objC (cutP8 x) a) := (by have h : Blk _ b1 _ ((objC (cutL8 x) a).set (68 + 0) (.slice a.pp (x.parents.take 4).length a.pc)) := hb1; rw [objC_cutP8 hx] at h; exact h)
 refine wb rfl (st_p I_ok rfl rfl rfl (wb rfl (st_p I_ok rfl rfl rfl ?_)))
 refine wb rfl (st_set I_ok hb1 rfl rfl (by rw [zq8 (cutP8_in hx)]; decide) fun w9 hb1 hE9 hs9 => ?_)
 have hb2 := hb2.ext1 hE9 ne1_2.symm
 have hX := hX.zx1 hE9 fr1
 have hb1 : Blk w9 b1 43 (objC (cutO8 x) a) := (by have h : Blk _ b1 _ ((objC (cutP8 x) a).set (68 + 1) (.slice a.rp (x.rows.take 8).length a.rc)) := hb1; rw [objC_cutO8 hx] at h; exact h)
 refine zj2 (zq1 (zq5 (zq0 (wl (zj4 I_ok hb1 rfl (zq8 (cutO8_in hx)) ?_)))))
 have hX0 := hX
 refine wl (zx2 Tryz.call27 rfl rfl rfl rfl rfl rfl (copy6_calls w9 (cutO8_in hx) (cutO8_l (hxl.zq3 hX) hx) (cutO8_leaves x) (cutO8_parents x) (cutO8_rows x)) fun v10 w10 hr10 => ?_)
 obtain ⟨⟨lp, lc, pp, pc, rp, rc⟩, rfl, hN, hE10⟩ := hr10
 have hb1 := hb1.zq3 hE10
 have hb2 := hb2.zq3 hE10
 have hX := hX.zq4 hE10
 have hnl := fun y hy => Nat.le_trans hX0.size (hN.nl y hy)
 have hnp := fun y hy => Nat.le_trans hX0.size (hN.np y hy)
 have hnr := fun y hy => Nat.le_trans hX0.size (hN.nr y hy)
 have hol : Own w10 lp (x.leaves.take 8).length lc 84 33 ((upto cutLeaf8 0 (x.leaves.take 8)).flatMap zj6.cells) := (upto_zero cutLeaf8 _).symm ▸ hN.ol
 have hop : Own w10 pp (x.parents.take 4).length pc 37 32 ((x.parents.take 4).flatMap zq6) := hN.op
 have hor : Own w10 rp (x.rows.take 8).length rc 87 3 ((upto cutChg8 0 (x.rows.take 8)).flatMap ChgD.cells) := (upto_zero cutChg8 _).symm ▸ hN.or
 have hb1o := hb1
 refine wl (zj5 (l' := objC (cutO8 x) ⟨lp, lc, pp, pc, rp, rc⟩) I_ok hb1 rfl rfl (zq8 (cutO8_in hx)) (by rw [zq8 (cutO8_in hx), zq8 (cutO8_in hx)]) OneC.h fun w11 hb1 hE11 hs11 => ?_)
 have hb2 := hb2.ext1 hE11 ne1_2.symm
 have hol := hol.zx9 hE11 hb1o (by decide)
 have hop := hop.zx9 hE11 hb1o (by decide)
 have hor := hor.zx9 hE11 hb1o (by decide)
 have hX := hX.zx1 hE11 fr1
 refine zq2 (zq1 (zq5 (zq5 (zq0 (wl_p I_ok rfl (wl (st_ldb I_ok hb1 rfl rfl (wl_p I_ok rfl (zq2 (zq1 (zx4 ?_)))))))))))
 refine zv1 (α := Nat) [1, 2, 53] rfl (fun z => [(54, .int .i64 (z : Int))]) (fun z u => (z ≤ (x.leaves.take 8).length ∧ Own u lp (x.leaves.take 8).length lc 84 33 ((upto cutLeaf8 z (x.leaves.take 8)).flatMap zj6.cells) ∧ Own u pp (x.parents.take 4).length pc 37 32 ((x.parents.take 4).flatMap zq6) ∧ Own u rp (x.rows.take 8).length rc 87 3 ((upto cutChg8 0 (x.rows.take 8)).flatMap ChgD.cells)) ∧ Blk u b1 43 (objC (cutO8 x) ⟨lp, lc, pp, pc, rp, rc⟩) ∧ Blk u b2 43 (cellsOf ti43.zero) ∧ Ext No w u) (fun z u => (x.leaves.take 8).length - z) (0) rfl ⟨⟨Nat.zero_le _, hol, hop, hor⟩, hb1, hb2, hX⟩ ?_
 rintro i w12 ⟨⟨hi, hol, hop, hor⟩, hb1, hb2, hX⟩
 refine zq5 (zq0 (wl_p I_ok rfl (zq2 (zq1 (zq5 (c_if rfl (fun hc => ?_) (fun hc => ?_)))))))
 ·have h33 : (x.leaves.take 8).length ≤ 8 := by rw [List.length_take]; omega
  have hi : i < (x.leaves.take 8).length := (by have h : i < (cutO8 x).leaves.length := (by omega); exact h)
  have hLid : ∀ r ∈ (x.leaves.take 8), r.id.length = 32 := fun r hr => (hx.leaves r (List.mem_of_mem_take hr)).2
  obtain ⟨bl, L, hp, hbl, hL, hnc, hcm, htk⟩ := hol.opened (by omega)
  have hrow := Own.row hol (upto_mem (fun r hr => zj6.len (hLid r hr)) (fun r h => h)) hp hi
  subst hp
  refine zx7 (zq1 (zq5 (zx4 (zq5 (zq0 (wl_p I_ok rfl (zq2 (zq1 ?_))))))))
  refine c_draw rfl 20 [(0, true), (1, true), (2, true), (3, true), (4, true), (5, true), (6, true), (7, true), (8, true), (9, true), (10, true), (11, true), (12, true), (13, true), (14, true), (15, true), (16, true), (17, true), (18, true), (19, true)] [20] (No) (by kernel_rfl) fun w13 hE13 hs13 => ?_
  have hd1 := hb1
  have hb1 := hb1.zq3 hE13
  have hb2 := hb2.zq3 hE13
  have hop := hop.ext hE13 fun _ _ => id
  have hor := hor.ext hE13 fun _ _ => id
  have hX := hX.zq4 hE13
  have hbl := hbl.zq3 hE13
  skip
  refine wd_k I_ok 1 rfl (zv2 I_ok rfl rfl (fun w' hw' => (hd1.zq3 hw').cell rfl) ?_)
  refine wd_k I_ok 2 rfl (zv2 I_ok rfl rfl (fun w' hw' => (hd1.zq3 hw').cell rfl) ?_)
  refine wd_k I_ok 1 rfl (wd_ix I_ok rfl rfl 33 rfl i rfl hi (0 + i * 33) rfl ?_)
  rw [Nat.zero_add]
  refine wd_k I_ok 1 rfl (zv2 I_ok rfl rfl (fun w' hw' => ((hrow.zq3 hw') 0 _ rfl)) ?_)
  refine wd_k I_ok 1 rfl (zv2 I_ok rfl rfl (fun w' hw' => (hd1.zq3 hw').cell rfl) ?_)
  refine wd_k I_ok 1 rfl (wd_ix I_ok rfl rfl 33 rfl i rfl hi (0 + i * 33) rfl ?_)
  rw [Nat.zero_add]
  refine wd_k I_ok 1 rfl (zv2 I_ok rfl rfl (fun w' hw' => ((hrow.zq3 hw') 0 _ rfl)) ?_)
  refine wd_k I_ok 2 rfl (wd_ss I_ok rfl rfl 0 (min _ 60) (cutBds _ _) ?_)
  rw [strU_cut]
  refine wd_ix I_ok rfl rfl 33 rfl i rfl hi (0 + i * 33) rfl ?_
  rw [Nat.zero_add]
  refine wd_k I_ok 1 rfl (wd_sw ?_)
  have hblo := hbl
  have hXo := hX
  refine wb rfl (st_set I_ok hbl rfl rfl (by rw [hL]; have := Nat.mul_le_mul_right 33 hnc; omega) fun w14 hbl hE14 hs14 => ?_)
  have ne1 : b1 ≠ bl := hb1.ne hblo (by decide)
  have ne2 : b2 ≠ bl := hb2.ne hblo (by decide)
  have hb1 := hb1.ext1 hE14 ne1
  have hb2 := hb2.ext1 hE14 ne2
  have hX := hXo.zx1 hE14 (hnl bl rfl)
  have hop := hop.zx9 hE14 hblo (by decide)
  have hor := hor.zx9 hE14 hblo (by decide)
  have hol : Own w14 (some ⟨bl, 0, none⟩) (x.leaves.take 8).length lc 84 33 ((upto cutLeaf8 (i + 1) (x.leaves.take 8)).flatMap zj6.cells) := by
   rw [← leaf_cut8 hLid hi]; exact Own.setB hL hnc hcm htk hbl
  refine zj2 (zx6 (zq1 (zq0 (wl_p I_ok rfl ?_))))
  rw [IntWalk.i64_in _ (by omega)]
  refine zq2 ?_
  exact zj7 (i + 1) rfl ⟨⟨hi, hol, hop, hor⟩, hb1, hb2, hX⟩ (by first | omega | (dsimp only; omega))
 ·have hend : (x.leaves.take 8).length ≤ i := (by have h : (cutO8 x).leaves.length ≤ i := (by omega); exact h)
  refine c_exit (zx3 (zx3 (zz2 (zq1 (zq5 (zq5 (zq0 (wl_p I_ok rfl (wl (st_ld I_ok rfl (hb1.seg.obj (cutO8_in hx)).rows (wl_p I_ok rfl (zq2 (zq1 (zx4 ?_))))))))))))))
  refine zv1 (α := Nat) [1, 2, 81] rfl (fun z => [(82, .int .i64 (z : Int))]) (fun z u => (z ≤ (x.rows.take 8).length ∧ Own u lp (x.leaves.take 8).length lc 84 33 ((upto cutLeaf8 i (x.leaves.take 8)).flatMap zj6.cells) ∧ Own u pp (x.parents.take 4).length pc 37 32 ((x.parents.take 4).flatMap zq6) ∧ Own u rp (x.rows.take 8).length rc 87 3 ((upto cutChg8 z (x.rows.take 8)).flatMap ChgD.cells)) ∧ Blk u b1 43 (objC (cutO8 x) ⟨lp, lc, pp, pc, rp, rc⟩) ∧ Blk u b2 43 (cellsOf ti43.zero) ∧ Ext No w u) (fun z u => (x.rows.take 8).length - z) (0) rfl ⟨⟨Nat.zero_le _, hol, hop, hor⟩, hb1, hb2, hX⟩ ?_
  rintro j w15 ⟨⟨hj, hol, hop, hor⟩, hb1, hb2, hX⟩
  refine zq5 (zq0 (wl_p I_ok rfl (zq2 (zq1 (zq5 (c_if rfl (fun hc => ?_) (fun hc => ?_)))))))
  ·have h33 : (x.rows.take 8).length ≤ 8 := by rw [List.length_take]; omega
   have hj : j < (x.rows.take 8).length := (by have h : j < (cutO8 x).rows.length := (by omega); exact h)
   obtain ⟨bl, L, hp, hbl, hL, hnc, hcm, htk⟩ := hor.opened (by omega)
   have hrow := Own.row hor (fun r _ => r.len) hp hj
   subst hp
   refine zx7 (zq1 (zq5 (zx4 (zq5 (zq0 (wl_p I_ok rfl (zq2 (zq1 (zq5 (zq0 (wl_p I_ok rfl (wl (st_ld I_ok rfl (hb1.seg.obj (cutO8_in hx)).rows (wl_p I_ok rfl ?_))))))))))))))
   refine wl (st_ix I_ok rfl 3 rfl j rfl hj (0 + j * 3) rfl ?_)
   rw [Nat.zero_add]
   refine wl_p I_ok rfl (zq2 (zq1 ?_))
   refine c_drawL I_ok rfl [] 26 [1, 21, 22, 23] [(0, true), (2, true), (3, true), (4, true), (5, true), (6, true), (7, true), (8, true), (9, true), (10, true), (11, true), (12, true), (13, true), (14, true), (15, true), (16, true), (17, true), (18, true), (19, true), (20, true), (24, true), (25, true)] [31, 51, 52, 53, 26, 27, 28, 29] (No) (by kernel_rfl) rfl fun w16 hE16 hs16 => ?_
   have hb1 := hb1.zq3 hE16
   have hb2 := hb2.zq3 hE16
   have hol := hol.ext hE16 fun _ _ => id
   have hop := hop.ext hE16 fun _ _ => id
   have hX := hX.zq4 hE16
   have hbl := hbl.zq3 hE16
   refine wd_k I_ok 4 rfl (zv2 I_ok rfl rfl (fun w' hw' => ((hrow.zq3 hw') 0 _ rfl)) ?_)
   refine wd_k I_ok 3 rfl (zv2 I_ok rfl rfl (fun w' hw' => ((hrow.zq3 hw') 0 _ rfl)) ?_)
   refine wd_k I_ok 2 rfl (wd_ss I_ok rfl rfl 0 (min _ 60) (cutBds _ _) ?_)
   rw [strU_cut]
   refine wd_k I_ok 3 rfl (zv2 I_ok rfl rfl (fun w' hw' => ((hrow.zq3 hw') 2 _ rfl)) ?_)
   refine wd_k I_ok 3 rfl (zv2 I_ok rfl rfl (fun w' hw' => ((hrow.zq3 hw') 2 _ rfl)) ?_)
   refine wd_k I_ok 2 rfl (wd_sw (wbf I_ok (i := 1) rfl rfl rfl rfl rfl (by kernel_rfl) (wbf I_ok (i := 21) rfl rfl rfl rfl rfl (by kernel_rfl) (wbf I_ok (i := 22) rfl rfl rfl rfl rfl (by kernel_rfl) ?_))))
   refine wb_ss I_ok (i := 23) rfl rfl rfl 0 (min _ 100) (cutBds _ _) (by kernel_rfl) ?_
   rw [strU_cut]
   have hblo := hbl
   have hXo := hX
   refine wb rfl (st_set I_ok hbl rfl rfl (by rw [hL]; have := Nat.mul_le_mul_right 3 hnc; omega) fun w17 hbl1 hE17 hs17 => ?_)
   have ne1 : b1 ≠ bl := hb1.ne hblo (by decide)
   have ne2 : b2 ≠ bl := hb2.ne hblo (by decide)
   have hb1 := hb1.ext1 hE17 ne1
   have hb2 := hb2.ext1 hE17 ne2
   have hX := hXo.zx1 hE17 (hnr bl rfl)
   have hop := hop.zx9 hE17 hblo (by decide)
   have hol := hol.zx9 hE17 hblo (by decide)
   refine wb rfl (st_p I_ok rfl rfl rfl (wb rfl (st_p I_ok rfl rfl rfl ?_)))
   have hXo := hX
   refine wb rfl (st_set I_ok hbl1 rfl rfl (by show j * 3 + 2 < _; rw [List.length_set, hL]; have := Nat.mul_le_mul_right 3 hnc; omega) fun w18 hbl2 hE18 hs18 => ?_)
   have hb1 := hb1.ext1 hE18 ne1
   have hb2 := hb2.ext1 hE18 ne2
   have hX := hXo.zx1 hE18 (hnr bl rfl)
   have hop := hop.zx9 hE18 hbl1 (by decide)
   have hol := hol.zx9 hE18 hbl1 (by decide)
   have hor : Own w18 (some ⟨bl, 0, none⟩) (x.rows.take 8).length rc 87 3 ((upto cutChg8 (j + 1) (x.rows.take 8)).flatMap ChgD.cells) := by
    rw [← chg_cut8 hj]; exact Own.setB (by rw [List.length_set, hL]) hnc hcm (by rw [List.take_set, htk]) hbl2
   refine zj2 (zx6 (zq1 (zq0 (wl_p I_ok rfl ?_))))
   rw [IntWalk.i64_in _ (by omega)]
   refine zq2 ?_
   exact zj7 (j + 1) rfl ⟨⟨hj, hol, hop, hor⟩, hb1, hb2, hX⟩ (by first | omega | (dsimp only; omega))
  ·have hend2 : (x.rows.take 8).length ≤ j := (by have h : (cutO8 x).rows.length ≤ j := (by omega); exact h)
   refine c_exit (zx3 (zx3 (zz2 (zq1 (zq5 (zq0 (wl (zj4 I_ok hb1 rfl (zq8 (cutO8_in hx)) ?_))))))))
   have hb1o := hb2
   refine wl (zj5 (l' := objC (cutO8 x) ⟨lp, lc, pp, pc, rp, rc⟩) I_ok hb2 rfl rfl (zq8 (cutO8_in hx)) (by rw [zq8 (cutO8_in hx)]; rfl) OneC.h fun w19 hb2 hE19 hs19 => ?_)
   have hol := hol.zx9 hE19 hb1o (by decide)
   have hop := hop.zx9 hE19 hb1o (by decide)
   have hor := hor.zx9 hE19 hb1o (by decide)
   have hX := hX.zx1 hE19 fr2
   refine zq2 (zq1 (zz8 (f_ret [_] ⟨⟨b2, 0, rfl, ld_all I_ok rfl rfl hb2.seg (zq8 (cutO8_in hx))⟩, trivial⟩ ?_)))
   rw [upto_all hend] at hol
   rw [upto_all hend2] at hor
   exact ⟨⟨lp, lc, pp, pc, rp, rc⟩, by rw [objC_objO8]; rfl, ⟨by rw [show (objO8 x).leaves.length = (x.leaves.take 8).length from List.length_map ..]; exact hol, hop, by rw [show (objO8 x).rows.length = (x.rows.take 8).length from List.length_map ..]; exact hor, hnl, hnp, hnr⟩, hX⟩
end Go.Proofs.YtoapldhadeoeiaaGreatDoor
namespace Go.Proofs.YtoapldhadeoeiaaGreatDoor
open Go.Vc
def putE (xs : List ObjX) : Int := if ∀ x ∈ xs, ObjOk x.1 then 0 else 160
theorem HeldNew.extMap {W0 w w' : World} {h : zx8} (k : HeldNew W0 w h) {β : Type} {r : Nat} {enc : β → Value} {g : List UInt8 → Option β} (hm : MapB w r enc g) (hE : Ext (One r) w w') : HeldNew W0 w' h :=
 ⟨k.id, k.o, k.sh, ⟨k.l.ol.extMap hm hE, k.l.op.extMap hm hE, k.l.or.extMap hm hE, k.l.nl, k.l.np, k.l.nr⟩⟩
theorem HeldNew.extNew {W0 w w1 w2 : World} {h : zx8} {b : Nat} (k : HeldNew W0 w h) (hE0 : Ext No w w1) (hE : Ext (One b) w1 w2) (hb : w.heap.size ≤ b) : HeldNew W0 w2 h :=
 have hX : Ext No w w2 := (hE0.trans hE (fun y hy e => by have e : y = b := e; omega))
 k.zq3 hX
theorem ObjNew.lt {W0 w : World} {o : ObjD} {a : ObjP} (h : ObjNew W0 w o a) : ∀ x, ObjF a x → x < w.heap.size := fun x hx => by
 rcases hx with k | k | k
 ·exact h.ol.lt k
 ·exact h.op.lt k
 ·exact h.or.lt k
theorem ObjNew.ge {W0 w : World} {o : ObjD} {a : ObjP} (h : ObjNew W0 w o a) : ∀ x, ObjF a x → W0.heap.size ≤ x := fun x hx => by
 rcases hx with k | k | k
 ·exact h.nl x k
 ·exact h.np x k
 ·exact h.nr x k
/-- what one holds is older than what a later one holds -/
def Apart (L : List zx8) : Prop := L.Pairwise fun x y => ∀ b c, ObjF x.a b → ObjF y.a c → b < c
theorem Apart.snoc {L : List zx8} {x : zx8} {n : Nat} (h : Apart L) (h1 : ∀ y ∈ L, ∀ b, ObjF y.a b → b < n) (h2 : ∀ c, ObjF x.a c → n ≤ c) : Apart (L ++ [x]) :=
 List.pairwise_append.2 ⟨h, List.pairwise_singleton _ _, fun y hy z hz b c hb hc => by
  rw [List.mem_singleton.1 hz] at hc
  have := h1 y hy b hb
  have := h2 c hc
  omega⟩
/-- which Ids a book has -/
def Dom (g : List UInt8 → Option (ObjD × ObjP)) (l : List zx8) : Prop := (∀ x, (g x).isSome = decide (x ∈ l.map zx8.id)) ∧ ∀ x b, g x = some b → ObjIn b.1
theorem dom_book {w : World} {p : Option Addr} {l m : List zx8} (h : HpIn w p l) (hm : toHp m = toHp l) : Dom (bookOf l) m := by
 refine ⟨fun x => ?_, fun x b hb => ?_⟩
 ·have e : m.map zx8.id = l.map zx8.id := by
   have := congrArg (List.map Prod.fst) hm
   unfold toHp at this
   rw [List.map_map, List.map_map] at this
   exact this
  rw [e, Bool.eq_iff_iff, decide_eq_true_eq, bookOf, Option.isSome_map, List.find?_isSome]
  simp [List.mem_map]
 ·unfold bookOf at hb
  obtain ⟨y, hy, rfl⟩ := Option.map_eq_some_iff.1 hb
  exact (h.ins y (List.mem_of_find?_eq_some hy)).o
theorem dom_set {g : List UInt8 → Option (ObjD × ObjP)} {l : List zx8} (h : Dom g l) {x : ObjX} (hx : ObjIn x.1) {y : zx8} (hy : y.id = idOf x.1) : Dom (setM g (idOf x.1) x) (l ++ [y]) := by
 refine ⟨fun z => ?_, fun z b hb => ?_⟩
 ·unfold setM
  rw [List.map_append]
  by_cases e : z = idOf x.1
  ·subst e; simp [hy]
  ·rw [if_neg e, h.1]
   have e2 : ¬ z = y.id := fun k => e (k.trans hy)
   simp [e2]
 ·unfold setM at hb
  split at hb
  ·cases hb; exact hx
  ·exact h.2 z b hb
theorem tell_obj {g : List UInt8 → Option (ObjD × ObjP)} {l : List zx8} (h : Dom g l) (x : IdB) : ∃ o a, ObjIn o ∧ tell objV (.agg (objC objZ noP).toArray) (g x) = .agg (objC o a).toArray := by
 cases hg : g x with
 | none => exact ⟨objZ, noP, objZ_in, rfl⟩
 | some b => exact ⟨b.1, b.2, h.2 x b hg, rfl⟩
theorem putD_take {h : Hp} {xs : List ObjX} {i : Nat} (hi : i < xs.length) : putD h ((xs.take (i + 1)).map Prod.fst) = putO (putD h ((xs.take i).map Prod.fst)) xs[i].1 := by
 rw [List.take_succ_eq_append_getElem hi, List.map_append, putD, List.foldl_append]; rfl
theorem putO_in {h : Hp} {l : List zx8} (e : toHp l = h) {o : ObjD} (hm : idOf o ∈ l.map zx8.id) : putO h o = h := by
 subst e
 unfold putO
 rw [if_pos]
 unfold toHp
 rw [List.map_map]; exact hm
theorem putO_new {h : Hp} {l : List zx8} (e : toHp l = h) {o : ObjD} (hm : ¬ idOf o ∈ l.map zx8.id) (a : ObjP) : toHp (l ++ [⟨idOf o, o, a⟩]) = putO h o := by
 subst e
 unfold putO
 rw [if_neg]
 ·unfold toHp; rw [List.map_append]; rfl
 ·unfold toHp
  rw [List.map_map]; exact hm
theorem putE_ok {xs : List ObjX} (h : ∀ x ∈ xs, ObjOk x.1) : putE xs = 0 := if_pos h
theorem putE_bad {xs : List ObjX} {i : Nat} (hi : i < xs.length) (h : ¬ ObjOk xs[i].1) : putE xs = 160 := if_neg fun k => h (k _ (List.getElem_mem hi))
theorem links_hp (l : List zx8) : (l.flatMap fun e => zz9 e.o) = (toHp l).flatMap fun e => zz9 e.2 := by rw [toHp, List.flatMap_map]
theorem putD_lk : ∀ (xs : List ObjD) (h : Hp), ((putD h xs).flatMap fun e => zz9 e.2).length ≤ (h.flatMap fun e => zz9 e.2).length + (xs.flatMap zz9).length
 | [], h => Nat.le_refl _
 | x :: xs, h => by
  have h1 := putD_lk xs (putO h x)
  have h2 : ((putO h x).flatMap fun e => zz9 e.2).length ≤ (h.flatMap fun e => zz9 e.2).length + (zz9 x).length := by
   unfold putO
   split
   ·omega
   ·rw [List.flatMap_append, List.length_append, List.flatMap_singleton]; exact Nat.le_refl _
  rw [List.flatMap_cons, List.length_append]
  show ((putD (putO h x) xs).flatMap fun e => zz9 e.2).length ≤ _
  omega
theorem hp_links_le {l L : List zx8} {xs : List ObjX} (hp : toHp L = putD (toHp l) (xs.map Prod.fst)) (hlk : (l.flatMap fun e => zz9 e.o).length + (xs.flatMap fun x => zz9 x.1).length < 100000) : (L.flatMap fun e => zz9 e.o).length < 100000 := by
 have h1 := putD_lk (xs.map Prod.fst) (toHp l)
 rw [← hp, ← links_hp, ← links_hp, List.flatMap_map] at h1
 exact Nat.lt_of_le_of_lt h1 hlk
theorem heapZ_c : cellsOf ti30.zero = [.slice none 0 0] := by kernel_rfl
theorem putDag_calls (w : World) {p px : Option Addr} {c cx : Nat} {l : List zx8} {xs : List ObjX} (h : HpIn w p l) (hxs : Sl w px xs.length 73 (xs.flatMap objX)) (hxo : ∀ x ∈ xs, ObjIn x.1) (hxs2 : ∀ x ∈ xs, Short x.1) (hxl : ∀ x ∈ xs, ObjL w x.1 x.2) (hn : l.length + xs.length < 1000000) (hlk : (l.flatMap fun e => zz9 e.o).length + (xs.flatMap fun x => zz9 x.1).length < 100000) (hr : Seg w 0 0 (wordsV rootsW)) :
  zz1 Tryz.prog 10 [.agg #[.slice p l.length c], .slice px xs.length cx] w fun v w' => ∃ q k m, v = .tuple #[.agg #[.slice q m.length k], .int .i64 (putE xs)] ∧ (putE xs = 0 → toHp m = putD (toHp l) (xs.map Prod.fst)) ∧ (putE xs ≠ 0 → m = []) ∧ HpIn w' q m ∧ (∀ x ∈ m, HeldNew w w' x) ∧ (∀ x off, q = some ⟨x, off, none⟩ → w.heap.size ≤ x) ∧ Apart m ∧ Own w' q m.length k 52 105 (m.flatMap zv0) ∧ Ext No w w' := by
 have hlen := h.len
 refine zq9 Tryz.func10 rfl rfl rfl rfl ?_
 have hX := Ext.refl No w
 refine zq5 (zq0 (wl (zj0 I_ok rfl fun b2 w1 hn2 hb2 hE1 => ?_)))
 have hX := hX.zq4 hE1
 have hb2 : Blk w1 b2 30 ([.slice p l.length c]) := hb2
 refine wl (zj0 I_ok rfl fun b4 w2 hn4 hb4 hE2 => ?_)
 have fr4 := Nat.le_trans hX.size hn4
 have hb2 := hb2.zq3 hE2
 have hX := hX.zq4 hE2
 have hb4 : Blk w2 b4 30 ([.slice none 0 0]) := hb4
 refine wl_p I_ok rfl (zq2 (zq1 (zq5 (zq0 (wl (zj4 I_ok hb2 rfl rfl ?_))))))
 have hXr := hX.size
 refine wl (zx2 Tryz.call30 rfl rfl rfl rfl rfl rfl (readBk_calls w2 (h.zq3 hX)) fun v3 w3 hr3 => ?_)
 obtain ⟨r, rfl, hrn, hM, hE3⟩ := hr3
 have hb2 := hb2.zq3 hE3
 have hb4 := hb4.zq3 hE3
 have hX := hX.zq4 hE3
 have hrw : w.heap.size ≤ r := Nat.le_trans hXr hrn
 refine wl_p I_ok rfl (zq2 (zq1 (zq5 (zq0 (wl (zj0 I_ok rfl fun b7 w4 hn7 hb7 hE4 => ?_))))))
 have ne4_7 : b4 ≠ b7 := Nat.ne_of_lt (Nat.lt_of_lt_of_le hb4.lt hn7)
 have fr7 := Nat.le_trans hX.size hn7
 have hb2 := hb2.zq3 hE4
 have hb4 := hb4.zq3 hE4
 have hM := hM.zq3 hE4
 have hX := hX.zq4 hE4
 have hb7 : Blk w4 b7 30 ([.slice none 0 0]) := hb7
 refine zq2 (zq1 (zq5 (zq5 (zq0 (wl_p I_ok rfl (wl (st_ldb I_ok hb2 rfl rfl (wl_p I_ok rfl (zq2 (zq1 (zx4 ?_)))))))))))
 refine zv1 (α := Nat × List zx8 × Option Addr × Nat) [1, 4, 6, 7, 19, 20] rfl (fun z => [(21, .int .i64 (z.1 : Int))]) (fun z u => (((z.1 ≤ l.length ∧ z.2.1.length = z.1 ∧ toHp z.2.1 = toHp (l.take z.1) ∧ Apart z.2.1) ∧ Own u z.2.2.1 z.2.1.length z.2.2.2 52 105 (z.2.1.flatMap zv0) ∧ (∀ y, OwnB z.2.2.1 y → w.heap.size ≤ y) ∧ ∀ h ∈ z.2.1, HeldNew w u h) ∧ MapB u r objV (bookOf l)) ∧ Blk u b4 30 ([.slice none 0 0]) ∧ Blk u b7 30 ([.slice z.2.2.1 z.2.1.length z.2.2.2]) ∧ Ext No w u) (fun z u => l.length - z.1) (0, [], none, 0) rfl ⟨⟨⟨⟨Nat.zero_le _, rfl, rfl, .nil⟩, Own.nil _ _ _, noOwn, fun _ h => by cases h⟩, hM⟩, hb4, hb7, hX⟩ ?_
 rintro ⟨i, L, q, k⟩ w5 ⟨⟨⟨⟨hi, hLl, hsm, hap⟩, hq, hqn, hns⟩, hM⟩, hb4, hb7, hX⟩
 try dsimp only
 dsimp only at hi hLl hsm hap hq hqn hns
 refine zq5 (zq0 (wl_p I_ok rfl (zq2 (zq1 (zq5 (c_if rfl (fun hc => ?_) (fun hc => ?_)))))))
 ·have hi2 : i < l.length := by omega
  obtain ⟨lb, lo, hp1, hs1⟩ := h.sl.rowAll h.c (by omega)
  have hni := h.ins _ (List.getElem_mem hi2)
  have hnsh := hni.sh
  refine wc_put 19 rfl (v' := .slice (some ⟨lb, lo, none⟩) l.length c) (by rw [hp1]) (zx7 (zq1 (zq5 (zx4 (zq5 (zq0 (wl (st_ix I_ok rfl 105 rfl i rfl (by omega) (lo + i * 105) rfl ?_))))))))
  refine wl (st_ldN I_ok rfl ((hs1 i hi2).zq3 hX) hni.c ?_)
  have hq0 := hq
  have nq7 : ¬ OwnB q b7 := fun e => hq0.neTy e hb7 (by decide) rfl
  refine wl (zj0 I_ok rfl fun b9 w6 hn9 hb9 hE6 => ?_)
  have ne4_9 : b4 ≠ b9 := Nat.ne_of_lt (Nat.lt_of_lt_of_le hb4.lt hn9)
  have ne7_9 : b7 ≠ b9 := Nat.ne_of_lt (Nat.lt_of_lt_of_le hb7.lt hn9)
  have fr9 := Nat.le_trans hX.size hn9
  have hb4 := hb4.zq3 hE6
  have hb7 := hb7.zq3 hE6
  have hM := hM.zq3 hE6
  have hq := hq.ext hE6 fun _ _ => id
  have hns := fun h hh => (hns h hh).zq3 hE6
  have hX := hX.zq4 hE6
  have hb9o := hb9
  have ne9 : ∀ y, OwnB q y → y ≠ b9 := fun y hy => Nat.ne_of_lt (Nat.lt_of_lt_of_le (hq0.lt hy) hn9)
  refine wl (zj5 (l' := zv0 l[i]) I_ok hb9 rfl rfl hni.c (by rw [hni.c]; rfl) OneC.h fun w7 hb9 hE7 hs7 => ?_)
  have hb4 := hb4.ext1 hE7 ne4_9
  have hb7 := hb7.ext1 hE7 ne7_9
  have hM := hM.ext1 hE7 hb9o
  have hq := hq.ext hE7 (fun y hy => ne9 y hy)
  have hns := fun h hh => (hns h hh).ext1 hE7 hb9o (by decide) (by decide) (by decide)
  have hX := hX.zx1 hE7 fr9
  refine zq2 (zq1 (c_draw rfl 11 [(0, true), (1, true), (2, true), (3, true), (4, true), (5, true), (6, false), (7, true), (8, false), (9, false), (10, true)] [11] (OwnB q) (by kernel_rfl) fun w8 hE8 hs8 => ?_))
  have hd7 := hb7
  have hd9 := hb9
  have hb4 := hb4.zq3 hE8
  have hb7 := hb7.zq3 hE8
  have hM := hM.zq3 hE8
  have hq := hq.ext hE8 fun _ _ => id
  have hns := fun h hh => (hns h hh).zq3 hE8
  have hX := hX.zq4 hE8
  have hC : Ext (OwnB q) _ w8 := hE8.no
  refine wd_k I_ok 1 rfl (zv2 I_ok rfl rfl (fun w' hw' => ((hd7.ext hw' nq7).cell rfl)) ?_)
  refine wd_k I_ok 1 rfl (wd_ldN I_ok rfl rfl (fun w' hw' => (held_id (hd9.ext hw' fun e => ne9 _ e rfl).seg)) (IdIn.len hni.id) ?_)
  refine wd_k I_ok 1 rfl (wd_ldN I_ok rfl rfl (fun w' hw' => (held_obj (hd9.ext hw' fun e => ne9 _ e rfl).seg hni.id)) (zq8 hni.o) ?_)
  have hXc := hX.size
  have hltL : ∀ h ∈ L, ∀ b, ObjF h.a b → b < w8.heap.size := fun h hh => (hns h hh).l.lt
  refine wd_l rfl (zx2 Tryz.call31 rfl rfl rfl rfl rfl rfl (owned_calls w8 hni.o (hni.l.zq3 hX) hni.sh) fun v9 w9 hr9 => ⟨(by obtain ⟨a2, rfl, hN, hE9⟩ := hr9; exact hC.zq4 hE9), ?_⟩)
  obtain ⟨a2, rfl, hN, hE9⟩ := hr9
  have hb4 := hb4.zq3 hE9
  have hb7 := hb7.zq3 hE9
  have hM := hM.zq3 hE9
  have hq := hq.ext hE9 fun _ _ => id
  have hns := fun h hh => (hns h hh).zq3 hE9
  have hX := hX.zq4 hE9
  have hC := hC.zq4 hE9
  have hap2 : Apart (L ++ [(⟨l[i].id, l[i].o, a2⟩ : zx8)]) := hap.snoc hltL hN.ge
  refine wd_bd I_ok rfl rfl ⟨⟨by rw [zz3, zq7, hni.id], by decide⟩, ⟨by rw [zz3]; exact zq8 hni.o, by decide⟩, trivial⟩ (l' := zv0 ⟨l[i].id, l[i].o, a2⟩) (by rw [heldZ_c]; exact held_build (hni.id) hni.o) ?_
  refine wd_l rfl (st_bs I_ok rfl 105 rfl heldZ_c (by rw [List.length_append, zq7, zq8 objZ_in]; rfl) (by decide) (by decide) ⟨⟨by rw [zz3]; exact heldC_len (h := ⟨l[i].id, l[i].o, a2⟩) (hni.id) hni.o, by decide⟩, trivial⟩ (l' := zv0 ⟨l[i].id, l[i].o, a2⟩) (one_held (h := ⟨l[i].id, l[i].o, a2⟩) (heldC_len (hni.id) hni.o)) fun b33 w10 hn33 hb33 hE10 hs10 => ⟨hC.zq4 hE10, ?_⟩)
  have hb4 := hb4.zq3 hE10
  have hb7 := hb7.zq3 hE10
  have hM := hM.zq3 hE10
  have hq := hq.ext hE10 fun _ _ => id
  have hns := fun h hh => (hns h hh).zq3 hE10
  have hN := hN.zq3 hE10
  have hX := hX.zq4 hE10
  have hC := hC.zq4 hE10
  have hX1 := hX
  have hs33 : Sl w10 (some ⟨b33, 0, none⟩) 1 105 (zv0 ⟨l[i].id, l[i].o, a2⟩) := ⟨heldC_len (h := ⟨l[i].id, l[i].o, a2⟩) (hni.id) hni.o, .inr ⟨b33, 0, rfl, hb33.seg⟩⟩
  have hr1 : L.length + 1 ≤ maxLen := room_ml (by omega)
  have hr2 : (L.length + 1) * 224 ≤ 140737488355328 := by omega
  refine wd_l rfl (zj8 I_ok rfl 105 224 rfl rfl rfl (by decide) hq (Src.slice (m := 1) hs33 OneC.h) hr1 hr2 fun p11 c11 w11 ho11 hE11 hB11 => ⟨hC.then hE11, ?_⟩)
  dsimp only at ho11 hE11 hB11 ⊢
  have hX := hX1.trans hE11 fun y hy hF => by have := hqn y hF; omega
  have hb4 := hb4.zx0 hq hE11 (by decide)
  have hb7 := hb7.zx0 hq hE11 (by decide)
  have hM := hM.zx0 hq hE11
  have hsz1 := hX1.size
  have hN := (HeldNew.mk (W0 := _) (h := ⟨l[i].id, l[i].o, a2⟩) (hni.id) hni.o hnsh hN).zx0 hq hE11 (by decide) (by decide) (by decide)
  have hns := fun h hh => (hns h hh).zx0 hq hE11 (by decide) (by decide) (by decide)
  have hns2 : ∀ h ∈ L ++ [(⟨l[i].id, l[i].o, a2⟩ : zx8)], HeldNew w w11 h := fun h hh => by
   rcases List.mem_append.1 hh with hh | hh
   ·exact hns h hh
   ·rw [List.mem_singleton.1 hh]; exact hN.older (by omega)
  obtain ⟨q2, k2, e1, e2, hq2⟩ : ∃ q2 k2, q2 = p11 ∧ k2 = c11 ∧ Own w11 q2 (L ++ [(⟨l[i].id, l[i].o, a2⟩ : zx8)]).length k2 52 105 ((L ++ [(⟨l[i].id, l[i].o, a2⟩ : zx8)]).flatMap zv0) := ⟨_, _, rfl, rfl, by
   rw [List.flatMap_append, List.length_append, List.flatMap_singleton]
   exact ho11⟩
  rw [← e1] at hB11
  rw [← e1, ← e2]
  have hqn2 : (∀ y, OwnB q2 y → w.heap.size ≤ y) := fun x hx => (hB11 x hx).elim (fun h => hqn x h) fun h => by omega
  refine wd_k I_ok 1 rfl (wd_sw ?_)
  have hb7o := hb7
  refine wb rfl (st_st I_ok hb7 rfl rfl rfl fun w12 hb7 hE12 hs12 => ?_)
  have hb4 := hb4.ext1 hE12 ne4_7
  have hM := hM.ext1 hE12 hb7o
  have hq2 := hq2.zx9 hE12 hb7o (by decide)
  have hns2 := fun h hh => (hns2 h hh).ext1 hE12 hb7o (by decide) (by decide) (by decide)
  have hX := hX.zx1 hE12 fr7
  have hb7 : Blk w12 b7 30 ([.slice q2 (L ++ [(⟨l[i].id, l[i].o, a2⟩ : zx8)]).length k2]) := (by
   rw [List.length_append]
   exact hb7)
  refine zj2 (zx6 (zq1 (zq0 (wl_p I_ok rfl ?_))))
  rw [IntWalk.i64_in _ (by omega)]
  refine zq2 (fin_put 19 rfl (v' := .slice p l.length c) (by rw [hp1]) ?_)
  exact zj7 (i + 1, L ++ [⟨l[i].id, l[i].o, a2⟩], q2, k2) rfl ⟨⟨⟨⟨hi2, by rw [List.length_append, hLl]; rfl, hp_take hi2 hsm a2, hap2⟩, hq2, hqn2, hns2⟩, hM⟩, hb4, hb7, hX⟩ (by first | omega | (dsimp only; omega))
 ·have h0 : i = l.length := by omega
  subst h0
  rw [List.take_length] at hsm
  refine c_exit (zx3 (zx3 (zz2 (zq1 (zq5 (zq5 (zq0 (wl_p I_ok rfl (zq2 (zq1 (zx4 ?_)))))))))))
  refine zv1 (α := (Nat × List zx8 × Option Addr × Nat) × (List UInt8 → Option (ObjD × ObjP))) [4, 6, 7, 37, 38] rfl (fun z => [(39, .int .i64 (z.1.1 : Int))]) (fun z u => (((z.1.1 ≤ xs.length ∧ (∀ x ∈ xs.take z.1.1, ObjOk x.1) ∧ toHp z.1.2.1 = putD (toHp l) ((xs.take z.1.1).map Prod.fst) ∧ z.1.2.1.length ≤ l.length + z.1.1 ∧ Dom z.2 z.1.2.1 ∧ Apart z.1.2.1) ∧ Own u z.1.2.2.1 z.1.2.1.length z.1.2.2.2 52 105 (z.1.2.1.flatMap zv0) ∧ (∀ y, OwnB z.1.2.2.1 y → w.heap.size ≤ y) ∧ ∀ h ∈ z.1.2.1, HeldNew w u h) ∧ MapB u r objV z.2) ∧ Blk u b4 30 ([.slice none 0 0]) ∧ Blk u b7 30 ([.slice z.1.2.2.1 z.1.2.1.length z.1.2.2.2]) ∧ Ext No w u) (fun z u => xs.length - z.1.1) (⟨⟨0, L, q, k⟩, bookOf l⟩) rfl ⟨⟨⟨⟨Nat.zero_le _, fun _ hx => (by cases hx), hsm, by dsimp only; omega, dom_book h hsm, hap⟩, hq, hqn, hns⟩, hM⟩, hb4, hb7, hX⟩ ?_
  rintro ⟨⟨j, L, q, k⟩, g⟩ w13 ⟨⟨⟨⟨hj, hok, hpd, hLl2, hdm, hap⟩, hq, hqn, hns⟩, hM⟩, hb4, hb7, hX⟩
  try dsimp only
  dsimp only at hj hok hpd hLl2 hdm hap hq hqn hns hM
  refine zq5 (zq0 (wl_p I_ok rfl (zq2 (zq1 (zq5 (c_if rfl (fun hc => ?_) (fun hc => ?_)))))))
  ·have hj2 : j < xs.length := by omega
   obtain ⟨xb, xo, hp2, hs2⟩ := hxs.rowAll (objX_len hxo) (by omega)
   have hxoi := hxo _ (List.getElem_mem hj2)
   have hnsh := hxs2 _ (List.getElem_mem hj2)
   have hxli := hxl _ (List.getElem_mem hj2)
   refine wc_put 37 rfl (v' := .slice (some ⟨xb, xo, none⟩) xs.length cx) (by rw [hp2]) (zx7 (zq1 ?_))
   refine c_cutK (α := List zx8 × Option Addr × Nat × (List UInt8 → Option (ObjD × ObjP))) [4, 6, 7, 37, 38, 39] rfl (fun z => []) (fun z u => ((((∀ x ∈ xs.take (j + 1), ObjOk x.1) ∧ toHp z.1 = putD (toHp l) ((xs.take (j + 1)).map Prod.fst) ∧ z.1.length ≤ l.length + (j + 1) ∧ Dom z.2.2.2 z.1 ∧ Apart z.1) ∧ Own u z.2.1 z.1.length z.2.2.1 52 105 (z.1.flatMap zv0) ∧ (∀ y, OwnB z.2.1 y → w.heap.size ≤ y) ∧ ∀ h ∈ z.1, HeldNew w u h) ∧ MapB u r objV z.2.2.2) ∧ Blk u b4 30 ([.slice none 0 0]) ∧ Blk u b7 30 ([.slice z.2.1 z.1.length z.2.2.1]) ∧ Ext No w u) ?_ ?_
   ·refine zx4 ?_
    refine zq5 (zq0 (wl (st_ix I_ok rfl 73 rfl j rfl (by omega) (xo + j * 73) rfl (wl (st_ldN I_ok rfl ((hs2 j hj2).zq3 hX) (zq8 hxoi) (wl (zj0 I_ok rfl fun b11 w14 hn11 hb11 hE14 => ?_)))))))
    have ne4_11 : b4 ≠ b11 := Nat.ne_of_lt (Nat.lt_of_lt_of_le hb4.lt hn11)
    have ne7_11 : b7 ≠ b11 := Nat.ne_of_lt (Nat.lt_of_lt_of_le hb7.lt hn11)
    have fr11 := Nat.le_trans hX.size hn11
    have hb4 := hb4.zq3 hE14
    have hb7 := hb7.zq3 hE14
    have hM := hM.zq3 hE14
    have hq := hq.ext hE14 fun _ _ => id
    have hns := fun h hh => (hns h hh).zq3 hE14
    have hX := hX.zq4 hE14
    have hb11o := hb11
    refine wl (zj5 (l' := objX xs[j]) I_ok hb11 rfl rfl (zq8 hxoi) (by rw [zq8 hxoi]; rfl) OneC.h fun w15 hb11 hE15 hs15 => ?_)
    have hb4 := hb4.ext1 hE15 ne4_11
    have hb7 := hb7.ext1 hE15 ne7_11
    have hM := hM.ext1 hE15 hb11o
    have hq := hq.zx9 hE15 hb11o (by decide)
    have hns := fun h hh => (hns h hh).ext1 hE15 hb11o (by decide) (by decide) (by decide)
    have hX := hX.zx1 hE15 fr11
    refine zq2 (zq1 (zq5 (zq0 (wl (zj4 I_ok hb11 rfl (zq8 hxoi) (wl (zx2 Tryz.call32 rfl rfl rfl rfl rfl rfl (idObj_calls w15 hxoi (hxli.zq3 hX) hnsh (hr.zq3 hX)) fun v16 w16 hr16 => ?_)))))))
    obtain ⟨rfl, hE16⟩ := hr16
    have hb4 := hb4.zq3 hE16
    have hb7 := hb7.zq3 hE16
    have hb11 := hb11.zq3 hE16
    have hM := hM.zq3 hE16
    have hq := hq.ext hE16 fun _ _ => id
    have hns := fun h hh => (hns h hh).zq3 hE16
    have hX := hX.zq4 hE16
    have hidb : IdIn (idB xs[j].1) := by unfold idB; split; exact zj9 _; rfl
    refine wl_p I_ok rfl ?_
    have hns0 := hns
    refine wl (zj0 I_ok rfl fun b12 w17 hn12 hb12 hE17 => ?_)
    have ne4_12 : b4 ≠ b12 := Nat.ne_of_lt (Nat.lt_of_lt_of_le hb4.lt hn12)
    have ne7_12 : b7 ≠ b12 := Nat.ne_of_lt (Nat.lt_of_lt_of_le hb7.lt hn12)
    have ne11_12 : b11 ≠ b12 := Nat.ne_of_lt (Nat.lt_of_lt_of_le hb11.lt hn12)
    have fr12 := Nat.le_trans hX.size hn12
    have hb4 := hb4.zq3 hE17
    have hb7 := hb7.zq3 hE17
    have hb11 := hb11.zq3 hE17
    have hM := hM.zq3 hE17
    have hq := hq.ext hE17 fun _ _ => id
    have hns := fun h hh => (hns h hh).zq3 hE17
    have hX := hX.zq4 hE17
    have hb12o := hb12
    have hE0 := hE17
    have hn0 := hn12
    refine wl (zj5 (l' := zq6 (idB xs[j].1)) I_ok hb12 rfl rfl hidb.len (by rw [zq7, hidb]; rfl) OneC.h fun w18 hb12 hE18 hs18 => ?_)
    have hb4 := hb4.ext1 hE18 ne4_12
    have hb7 := hb7.ext1 hE18 ne7_12
    have hb11 := hb11.ext1 hE18 ne11_12
    have hM := hM.ext1 hE18 hb12o
    have hq := hq.zx9 hE18 hb12o (by decide)
    have hns := fun h hh => (hns0 h hh).extNew hE0 hE18 hn0
    have hX := hX.zx1 hE18 fr12
    refine wl_p I_ok rfl (zq2 (zq1 (zq5 (zq5 (zq0 (wl_p I_ok rfl (zq2 (zq1 (c_if rfl (fun hc => ?_) (fun hc => ?_))))))))))
    ·have hk : ¬ ObjOk xs[j].1 := fun k => hc (if_pos k)
     have hEb := putE_bad hj2 hk
     have eo : objE xs[j].1 = 160 := if_neg hk
     rw [eo]
     refine zq5 (zq0 (wl (st_bd I_ok rfl trivial (l' := [.slice none 0 0]) heapZ_c (wl_p I_ok rfl ?_))))
     have hb4o := hb4
     refine wl (zj5 (l' := [.slice none 0 0]) I_ok hb4 rfl rfl rfl rfl OneC.h fun w19 hb4 hE19 hs19 => ?_)
     have hns := fun h hh => (hns h hh).ext1 hE19 hb4o (by decide) (by decide) (by decide)
     have hX := hX.zx1 hE19 fr4
     refine wl_p I_ok rfl (zq2 (zq1 (zz8 (zx5 (zz4 (zx5 (zx5 (zz4 (zx5 (f_ret [_, _] ⟨⟨b4, 0, rfl, ld_all I_ok rfl rfl hb4.seg rfl⟩, rfl, trivial⟩ ?_))))))))))
     exact ⟨none, 0, [], by rw [hEb]; rfl, fun k => (by rw [hEb] at k; cases k), fun _ => rfl, ⟨Sl.nil _ _ _, fun _ hx => (by cases hx), by show 0 < 1000000; decide, by show 0 < 100000; decide⟩, fun _ hx => (by cases hx), fun x off e => (by cases e), .nil, Own.nil _ _ _, hX⟩
    ·have hk : ObjOk xs[j].1 := (if_zero (by decide)).1 (Decidable.not_not.1 hc)
     have hie : idB xs[j].1 = idOf xs[j].1 := if_pos hk
     rw [hie] at hb12
     have hok2 : ∀ x ∈ xs.take (j + 1), ObjOk x.1 := fun x hx => by
      rw [List.take_succ_eq_append_getElem hj2] at hx
      rcases List.mem_append.1 hx with hx | hx
      ·exact hok x hx
      ·rw [List.mem_singleton.1 hx]; exact hk
     refine zx7 (zq1 (zq5 (zq0 (wl_p I_ok rfl (wl (zj4 I_ok hb12 rfl (by rw [zq7, zj9]) (wl (st_lu I_ok rfl idK (zj9 _) rfl hM ?_))))))))
     simp only [if_true]
     obtain ⟨o3, a3, ho3, ht3⟩ := tell_obj hdm (idOf xs[j].1)
     rw [show tell objV ti43.zero (g (idOf xs[j].1)) = .agg (objC o3 a3).toArray from by rw [← ht3]; rfl]
     rw [hdm.1]
     refine wl_p I_ok rfl (wl (zj0 I_ok rfl fun b14 w20 hn14 hb14 hE20 => ?_))
     have ne4_14 : b4 ≠ b14 := Nat.ne_of_lt (Nat.lt_of_lt_of_le hb4.lt hn14)
     have ne7_14 : b7 ≠ b14 := Nat.ne_of_lt (Nat.lt_of_lt_of_le hb7.lt hn14)
     have ne11_14 : b11 ≠ b14 := Nat.ne_of_lt (Nat.lt_of_lt_of_le hb11.lt hn14)
     have ne12_14 : b12 ≠ b14 := Nat.ne_of_lt (Nat.lt_of_lt_of_le hb12.lt hn14)
     have fr14 := Nat.le_trans hX.size hn14
     have hb4 := hb4.zq3 hE20
     have hb7 := hb7.zq3 hE20
     have hb11 := hb11.zq3 hE20
     have hb12 := hb12.zq3 hE20
     have hM := hM.zq3 hE20
     have hq := hq.ext hE20 fun _ _ => id
     have hns := fun h hh => (hns h hh).zq3 hE20
     have hX := hX.zq4 hE20
     have hb14o := hb14
     refine wl (zj5 (l' := objC o3 a3) I_ok hb14 rfl rfl (zq8 ho3) (by rw [zq8 ho3]; rfl) OneC.h fun w21 hb14 hE21 hs21 => ?_)
     have hb4 := hb4.ext1 hE21 ne4_14
     have hb7 := hb7.ext1 hE21 ne7_14
     have hb11 := hb11.ext1 hE21 ne11_14
     have hb12 := hb12.ext1 hE21 ne12_14
     have hM := hM.ext1 hE21 hb14o
     have hq := hq.zx9 hE21 hb14o (by decide)
     have hns := fun h hh => (hns h hh).ext1 hE21 hb14o (by decide) (by decide) (by decide)
     have hX := hX.zx1 hE21 fr14
     refine wl_p I_ok rfl (zq2 (zq1 (zq5 (zq0 (wl_p I_ok rfl (zq2 (zq1 (c_cond rfl (fun hc => ?_) (fun hc => ?_)))))))))
     ·have hnm : ¬ idOf xs[j].1 ∈ L.map zx8.id := by simpa using hc
      refine zq5 (zq0 (wl_p I_ok rfl (wl (zj4 I_ok hb12 rfl (by rw [zq7, zj9]) (wl (zj4 I_ok hb11 rfl (zq8 hxoi) ?_))))))
      refine wl (st_mu I_ok rfl idK (zj9 _) rfl hM (b := (xs[j] : ObjD × ObjP)) rfl fun w22 hM2 hE22 hs22 => ?_)
      have hb4 := hb4.extMap hM hE22
      have hb7 := hb7.extMap hM hE22
      have hb11 := hb11.extMap hM hE22
      have hb12 := hb12.extMap hM hE22
      have hq := hq.extMap hM hE22
      have hns := fun h hh => (hns h hh).extMap hM hE22
      have hX := hX.zx1 hE22 hrw
      have hM := hM2
      have nq7 : ¬ OwnB q b7 := fun e => hq.neTy e hb7 (by decide) rfl
      have nq11 : ¬ OwnB q b11 := fun e => hq.neTy e hb11 (by decide) rfl
      have nq12 : ¬ OwnB q b12 := fun e => hq.neTy e hb12 (by decide) rfl
      refine zq2 (zq1 (c_draw rfl 9 [(0, true), (1, true), (2, true), (3, true), (4, false), (5, true), (6, false), (7, false), (8, true)] [9] (OwnB q) (by kernel_rfl) fun w23 hE23 hs23 => ?_))
      have hd7 := hb7
      have hd11 := hb11
      have hd12 := hb12
      have hb4 := hb4.zq3 hE23
      have hb7 := hb7.zq3 hE23
      have hM := hM.zq3 hE23
      have hq := hq.ext hE23 fun _ _ => id
      have hns := fun h hh => (hns h hh).zq3 hE23
      have hX := hX.zq4 hE23
      have hC : Ext (OwnB q) _ w23 := hE23.no
      refine wd_k I_ok 1 rfl (zv2 I_ok rfl rfl (fun w' hw' => ((hd7.ext hw' nq7).cell rfl)) ?_)
      refine wd_ldN I_ok rfl rfl (fun w' hw' => ((hd12.ext hw' nq12).seg)) (by rw [zq7, zj9]) ?_
      refine wd_ldN I_ok rfl rfl (fun w' hw' => ((hd11.ext hw' nq11).seg)) (zq8 hxoi) ?_
      have hXc := hX.size
      have hltL : ∀ h ∈ L, ∀ b, ObjF h.a b → b < w23.heap.size := fun h hh => (hns h hh).l.lt
      refine wd_l rfl (zx2 Tryz.call31 rfl rfl rfl rfl rfl rfl (owned_calls w23 hxoi (hxli.zq3 hX) hnsh) fun v24 w24 hr24 => ⟨(by obtain ⟨a2, rfl, hN, hE24⟩ := hr24; exact hC.zq4 hE24), ?_⟩)
      obtain ⟨a2, rfl, hN, hE24⟩ := hr24
      have hb4 := hb4.zq3 hE24
      have hb7 := hb7.zq3 hE24
      have hM := hM.zq3 hE24
      have hq := hq.ext hE24 fun _ _ => id
      have hns := fun h hh => (hns h hh).zq3 hE24
      have hX := hX.zq4 hE24
      have hC := hC.zq4 hE24
      have hap2 : Apart (L ++ [(⟨idOf xs[j].1, xs[j].1, a2⟩ : zx8)]) := hap.snoc hltL hN.ge
      refine wd_bd I_ok rfl rfl ⟨⟨by rw [zz3, zq7, zj9 _], by decide⟩, ⟨by rw [zz3]; exact zq8 hxoi, by decide⟩, trivial⟩ (l' := zv0 ⟨idOf xs[j].1, xs[j].1, a2⟩) (by rw [heldZ_c]; exact held_build (zj9 _) hxoi) ?_
      refine wd_l rfl (st_bs I_ok rfl 105 rfl heldZ_c (by rw [List.length_append, zq7, zq8 objZ_in]; rfl) (by decide) (by decide) ⟨⟨by rw [zz3]; exact heldC_len (h := ⟨idOf xs[j].1, xs[j].1, a2⟩) (zj9 _) hxoi, by decide⟩, trivial⟩ (l' := zv0 ⟨idOf xs[j].1, xs[j].1, a2⟩) (one_held (h := ⟨idOf xs[j].1, xs[j].1, a2⟩) (heldC_len (zj9 _) hxoi)) fun b69 w25 hn69 hb69 hE25 hs25 => ⟨hC.zq4 hE25, ?_⟩)
      have hb4 := hb4.zq3 hE25
      have hb7 := hb7.zq3 hE25
      have hM := hM.zq3 hE25
      have hq := hq.ext hE25 fun _ _ => id
      have hns := fun h hh => (hns h hh).zq3 hE25
      have hN := hN.zq3 hE25
      have hX := hX.zq4 hE25
      have hC := hC.zq4 hE25
      have hX1 := hX
      have hs69 : Sl w25 (some ⟨b69, 0, none⟩) 1 105 (zv0 ⟨idOf xs[j].1, xs[j].1, a2⟩) := ⟨heldC_len (h := ⟨idOf xs[j].1, xs[j].1, a2⟩) (zj9 _) hxoi, .inr ⟨b69, 0, rfl, hb69.seg⟩⟩
      have hr1 : L.length + 1 ≤ maxLen := room_ml (by omega)
      have hr2 : (L.length + 1) * 224 ≤ 140737488355328 := by omega
      refine wd_l rfl (zj8 I_ok rfl 105 224 rfl rfl rfl (by decide) hq (Src.slice (m := 1) hs69 OneC.h) hr1 hr2 fun p26 c26 w26 ho26 hE26 hB26 => ⟨hC.then hE26, ?_⟩)
      dsimp only at ho26 hE26 hB26 ⊢
      have hX := hX1.trans hE26 fun y hy hF => by have := hqn y hF; omega
      have hb4 := hb4.zx0 hq hE26 (by decide)
      have hb7 := hb7.zx0 hq hE26 (by decide)
      have hM := hM.zx0 hq hE26
      have hsz1 := hX1.size
      have hN := (HeldNew.mk (W0 := _) (h := ⟨idOf xs[j].1, xs[j].1, a2⟩) (zj9 _) hxoi hnsh hN).zx0 hq hE26 (by decide) (by decide) (by decide)
      have hns := fun h hh => (hns h hh).zx0 hq hE26 (by decide) (by decide) (by decide)
      have hns2 : ∀ h ∈ L ++ [(⟨idOf xs[j].1, xs[j].1, a2⟩ : zx8)], HeldNew w w26 h := fun h hh => by
       rcases List.mem_append.1 hh with hh | hh
       ·exact hns h hh
       ·rw [List.mem_singleton.1 hh]; exact hN.older (by omega)
      obtain ⟨q2, k2, e1, e2, hq2⟩ : ∃ q2 k2, q2 = p26 ∧ k2 = c26 ∧ Own w26 q2 (L ++ [(⟨idOf xs[j].1, xs[j].1, a2⟩ : zx8)]).length k2 52 105 ((L ++ [(⟨idOf xs[j].1, xs[j].1, a2⟩ : zx8)]).flatMap zv0) := ⟨_, _, rfl, rfl, by
       rw [List.flatMap_append, List.length_append, List.flatMap_singleton]
       exact ho26⟩
      rw [← e1] at hB26
      rw [← e1, ← e2]
      have hqn2 : (∀ y, OwnB q2 y → w.heap.size ≤ y) := fun x hx => (hB26 x hx).elim (fun h => hqn x h) fun h => by omega
      refine wd_k I_ok 1 rfl (wd_sw ?_)
      have hb7o := hb7
      refine wb rfl (st_st I_ok hb7 rfl rfl rfl fun w27 hb7 hE27 hs27 => ?_)
      have hb4 := hb4.ext1 hE27 ne4_7
      have hM := hM.ext1 hE27 hb7o
      have hq2 := hq2.zx9 hE27 hb7o (by decide)
      have hns2 := fun h hh => (hns2 h hh).ext1 hE27 hb7o (by decide) (by decide) (by decide)
      have hX := hX.zx1 hE27 fr7
      have hb7 : Blk w27 b7 30 ([.slice q2 (L ++ [(⟨idOf xs[j].1, xs[j].1, a2⟩ : zx8)]).length k2]) := (by
       rw [List.length_append]
       exact hb7)
      refine zj2 ?_
      exact zx6 (zz5 (L ++ [⟨idOf xs[j].1, xs[j].1, a2⟩], q2, k2, setM g (idOf xs[j].1) xs[j]) rfl ⟨⟨⟨⟨hok2, by rw [putD_take hj2, putO_new hpd hnm], by dsimp only; rw [List.length_append]; show L.length + 1 ≤ _; omega, dom_set hdm hxoi rfl, hap2⟩, hq2, hqn2, hns2⟩, hM⟩, hb4, hb7, hX⟩)
     ·have hnm : idOf xs[j].1 ∈ L.map zx8.id := by simpa using hc
      have hpd2 : toHp L = putD (toHp l) ((xs.take (j + 1)).map Prod.fst) := by rw [putD_take hj2, putO_in hpd hnm, hpd]
      refine zx7 ?_
      exact zx6 (zz5 (L, q, k, g) rfl ⟨⟨⟨⟨hok2, hpd2, by dsimp only; omega, hdm, hap⟩, hq, hqn, hns⟩, hM⟩, hb4, hb7, hX⟩)
   rintro ⟨L2, q2, k2, g2⟩ w28 ⟨⟨⟨⟨hok2, hpd2, hLl3, hdm2, hap3⟩, hq2, hqn2, hns2⟩, hM2⟩, hb4, hb7, hX⟩
   try dsimp only
   dsimp only at hok2 hpd2 hLl3 hdm2 hap3 hq2 hqn2 hns2 hM2
   refine zq0 (wl_p I_ok rfl ?_)
   rw [IntWalk.i64_in _ (by omega)]
   refine zq2 (fin_put 37 rfl (v' := .slice px xs.length cx) (by rw [hp2]) ?_)
   exact zj7 (⟨⟨j + 1, L2, q2, k2⟩, g2⟩) rfl ⟨⟨⟨⟨hj2, hok2, hpd2, hLl3, hdm2, hap3⟩, hq2, hqn2, hns2⟩, hM2⟩, hb4, hb7, hX⟩ (by first | omega | (dsimp only; omega))
  ·have h0 : j = xs.length := by omega
   subst h0
   rw [List.take_length] at hok hpd
   have hE0 := putE_ok hok
   have hLlk := hp_links_le hpd hlk
   refine c_exit (zx3 (zx3 (zz2 (zq1 (zq5 (zq0 (wl (zj4 I_ok hb7 rfl rfl ?_))))))))
   have hb4o := hb4
   refine wl (zj5 (l' := [.slice q L.length k]) I_ok hb4 rfl rfl rfl rfl OneC.h fun w29 hb4 hE29 hs29 => ?_)
   have hq := hq.zx9 hE29 hb4o (by decide)
   have hns := fun h hh => (hns h hh).ext1 hE29 hb4o (by decide) (by decide) (by decide)
   have hX := hX.zx1 hE29 fr4
   refine wl_p I_ok rfl (zq2 (zq1 (zz8 (f_ret [_, _] ⟨⟨b4, 0, rfl, ld_all I_ok rfl rfl hb4.seg rfl⟩, rfl, trivial⟩ ?_))))
   exact ⟨q, k, L, by rw [hE0]; rfl, fun _ => hpd, fun k => absurd hE0 k, ⟨hq.sl, fun x hx => (hns x hx).held, by omega, hLlk⟩, hns, own_newS hq hqn, hap, hq, hX⟩
end Go.Proofs.YtoapldhadeoeiaaGreatDoor
namespace Go.Proofs.YtoapldhadeoeiaaGreatDoor
open Go.Vc
section
variable {h n : Hp} {x : IdB}
end
theorem objO8_links (o : ObjD) : (zz9 (objO8 o)).length ≤ 9 := by
 unfold zz9
 have e1 : (objO8 o).leaves.length ≤ 8 := by show ((o.leaves.take 8).map cutLeaf8).length ≤ 8; rw [List.length_map, List.length_take]; omega
 have e2 : (objO8 o).parents.length ≤ 4 := by show (o.parents.take 4).length ≤ 4; rw [List.length_take]; omega
 split
 ·rw [List.length_map]; omega
 ·split
  ·rw [List.length_cons]; omega
  ·exact Nat.zero_le _
end Go.Proofs.YtoapldhadeoeiaaGreatDoor
namespace Go.Proofs.YtoapldhadeoeiaaGreatDoor
open Go.Vc
/-- an object as it is given -/
structure ObjArg (w : World) (x : ObjD) (a : ObjP) : Prop where
  i : ObjIn x
  l : ObjL w x a
  c : ObjCap x a
theorem objO8_sh (x : ObjD) : Short (objO8 x) :=
  ⟨Nat.lt_of_le_of_lt (by show ((x.leaves.take 8).map cutLeaf8).length ≤ 8; rw [List.length_map, List.length_take]; omega) (by decide : 8 < 1000000000),
   Nat.lt_of_le_of_lt (by show (x.parents.take 4).length ≤ 8; rw [List.length_take]; omega) (by decide : 8 < 1000000000),
   Nat.lt_of_le_of_lt (by show ((x.rows.take 8).map cutChg8).length ≤ 8; rw [List.length_map, List.length_take]; omega) (by decide : 8 < 1000000000),
   fun r hr => by obtain ⟨y, _, rfl⟩ := List.mem_map.1 hr; exact Nat.lt_of_le_of_lt (by show (y.path.take 60).length ≤ 60; rw [List.length_take]; omega) (by decide : 60 < 1000000000),
   fun r hr => by obtain ⟨y, _, rfl⟩ := List.mem_map.1 hr; exact Nat.lt_of_le_of_lt (by show (y.path.take 60).length ≤ 60; rw [List.length_take]; omega) (by decide : 60 < 1000000000)⟩
theorem objO8_in {x : ObjD} (h : ObjIn x) : ObjIn (objO8 x) :=
 ⟨h.tree, h.base, fun r hr => h.parents r (List.mem_of_mem_take hr), fun r hr => (by
  obtain ⟨y, hy, rfl⟩ := List.mem_map.1 hr
  have := h.leaves y (List.mem_of_mem_take hy)
  exact ⟨Nat.le_trans (by show (y.path.take 60).length ≤ y.path.length; rw [List.length_take]; omega) this.1, this.2⟩), fun r hr => (by
  obtain ⟨y, hy, rfl⟩ := List.mem_map.1 hr
  have := h.rows y (List.mem_of_mem_take hy)
  exact ⟨Nat.le_trans (by show (y.path.take 60).length ≤ y.path.length; rw [List.length_take]; omega) this.1, Nat.le_trans (by show (y.text.take 100).length ≤ y.text.length; rw [List.length_take]; omega) this.2⟩), h.number, h.author⟩
theorem ObjNew.zx0 {W0 w w' : World} {x : ObjD} {a : ObjP} (k : ObjNew W0 w x a) {q : Option Addr} {n c T sz : Nat} {xs : List Value} (ho : Own w q n c T sz xs) (hE : Ext (OwnB q) w w') (h1 : T ≠ 84) (h2 : T ≠ 37) (h3 : T ≠ 87) : ObjNew W0 w' x a :=
 ⟨k.ol.zx0 ho hE h1, k.op.zx0 ho hE h2, k.or.zx0 ho hE h3, k.nl, k.np, k.nr⟩
/-- objects cut short, in a row -/
def cuts (os : List ObjX) (i : Nat) : List ObjD := (os.take (min i 8)).map fun x => objO8 x.1
structure InQ (W w : World) (N : Nat) (os : List ObjX) (i : Nat) (q : Option Addr) (k : Nat) (L : List ObjX) : Prop where
  e : L.map Prod.fst = cuts os i
  own : Own w q L.length k 43 73 (L.flatMap objX)
  nw : ∀ y, OwnB q y → N ≤ y
  new : ∀ x ∈ L, ObjNew W w x.1 x.2
theorem cuts_len (os : List ObjX) (i : Nat) : (cuts os i).length ≤ 8 := by
 unfold cuts
 rw [List.length_map, List.length_take]
 omega
section
variable {W w : World} {N i k : Nat} {os : List ObjX} {q : Option Addr} {L : List ObjX}
theorem InQ.len (h : InQ W w N os i q k L) : L.length ≤ 8 := by
 rw [← List.length_map (f := Prod.fst), h.e]
 exact cuts_len os i
theorem InQ.of (h : InQ W w N os i q k L) : ∀ x ∈ L, ∃ y ∈ os, x.1 = objO8 y.1 := fun x hx => by
 have : x.1 ∈ L.map Prod.fst := List.mem_map_of_mem hx
 rw [h.e] at this
 obtain ⟨y, hy, e⟩ := List.mem_map.1 this
 exact ⟨y, List.mem_of_mem_take hy, e.symm⟩
theorem InQ.ins (h : InQ W w N os i q k L) (ho : ∀ x ∈ os, ObjIn x.1) : ∀ x ∈ L, ObjIn x.1 := fun x hx => by
 obtain ⟨y, hy, e⟩ := h.of x hx
 rw [e]; exact objO8_in (ho y hy)
theorem InQ.shs (h : InQ W w N os i q k L) : ∀ x ∈ L, Short x.1 := fun x hx => by
 obtain ⟨y, _, e⟩ := h.of x hx
 rw [e]; exact objO8_sh _
theorem InQ.ls (h : InQ W w N os i q k L) : ∀ x ∈ L, ObjL w x.1 x.2 := fun x hx => (h.new x hx).l
theorem InQ.lk (h : InQ W w N os i q k L) : (L.flatMap fun x => zz9 x.1).length ≤ 72 := by
 have h1 := flat_few (f := fun e : ObjX => zz9 e.1) (L := L) (n := 9) fun x hx => by
  obtain ⟨y, _, e⟩ := h.of x hx
  rw [e]; exact objO8_links _
 have := h.len
 have := Nat.mul_le_mul_right 9 this
 omega
theorem InQ.zq3 {w' : World} (h : InQ W w N os i q k L) (hE : Ext No w w') : InQ W w' N os i q k L := ⟨h.e, h.own.ext hE fun _ _ => id, h.nw, fun x hx => (h.new x hx).zq3 hE⟩
theorem InQ.start (W w : World) (N : Nat) (os : List ObjX) : InQ W w N os 0 none 0 [] := ⟨by simp [cuts], Own.nil _ _ _, noOwn, fun _ hx => (by cases hx)⟩
theorem InQ.app (h : InQ W w N os i q k L) (hi : i < os.length) (h8 : i < 8) {w1 w' : World} {a : ObjP} (hN : ObjNew w1 w (objO8 os[i].1) a) (hW : W.heap.size ≤ w1.heap.size) {q' : Option Addr} {k' : Nat} (hE : Ext (OwnB q) w w') (ho : Own w' q' (L.length + 1) k' 43 73 (L.flatMap objX ++ objC (objO8 os[i].1) a)) (hB : ∀ x, OwnB q' x → OwnB q x ∨ w.heap.size ≤ x) (hN2 : N ≤ w.heap.size) : InQ W w' N os (i + 1) q' k' (L ++ [(objO8 os[i].1, a)]) :=
  ⟨by
    rw [List.map_append, h.e]
    unfold cuts
    rw [show min i 8 = i from by omega, show min (i + 1) 8 = i + 1 from by omega, List.take_succ_eq_append_getElem hi, List.map_append]
    rfl,
   by rw [List.flatMap_append, List.length_append, List.flatMap_singleton]; exact ho,
   fun y hy => (hB y hy).elim (h.nw y) fun k => Nat.le_trans hN2 k,
   fun x hx => by
    rcases List.mem_append.1 hx with hx | hx
    · exact (h.new x hx).zx0 h.own hE (by decide) (by decide) (by decide)
    · rw [List.mem_singleton.1 hx]; exact (hN.older hW).zx0 h.own hE (by decide) (by decide) (by decide)⟩
end
theorem same_len {l m : List zx8} (h : toHp l = toHp m) : l.length = m.length := by
 have := congrArg List.length h
 unfold toHp at this
 rw [List.length_map, List.length_map] at this
 exact this
theorem made_few {W w : World} {q qi : Option Addr} {m : List zx8} {ki : Nat} {ids : List IdB} (h : MadeQ W w q m qi ki ids) : (m.flatMap fun e => zz9 e.o).length ≤ 2400 := by
 have h1 := flat_few (f := fun e : zx8 => zz9 e.o) (n := 40) h.lks
 have := Nat.mul_le_mul_right 40 h.few
 omega
end Go.Proofs.YtoapldhadeoeiaaGreatDoor
namespace Go.Vc
open Go.WideShapes Go.ChangeShapes Go.RowKit

section
variable {H : Type} {enc : TypeId × Value → H} {P : Program} {w w' : World}

theorem Ext.sameAt (hE : Ext No w w') {p : MemPlace} (hp : p.block < w.heap.size) : w.sameAt w' p := by
 cases p with
 | cell b off =>
  have := hE.same b hp id
  show w'.cell? ⟨b, off, none⟩ = w.cell? ⟨b, off, none⟩
  unfold World.cell?
  rw [this]
 | map b => exact hE.same b hp id

theorem trodAll_carry {base : Nat} {sp : Nat → Bool} {held : Bool} : ∀ {ts : List TypeId} {vs : List Value} {ds : List (DataW H)} {ps : List MemPlace}, DataW.TrodAll enc P w base sp held ts vs ds ps → (∀ p ∈ ps, w.sameAt w' p) → DataW.TrodAll enc P w' base sp held ts vs ds ps
 | [], [], [], _, h, _ => h
 | _ :: _, _ :: _, _ :: _, _, ⟨p, q, ⟨n, h1⟩, h2, e⟩, hs => ⟨p, q, ⟨n, DataW.trod_carry n _ _ _ h1 fun x hx => hs x (by rw [e]; exact List.mem_append_left _ hx)⟩, trodAll_carry h2 fun x hx => hs x (by rw [e]; exact List.mem_append_right _ hx), e⟩

/-- what came in reads as it read; of what is frozen only that is asked which lay there before -/
theorem post_of_old {f : Func} {s : ChangeSpec} {apart fresh handsOn again : Bool} {W W' : World} {args : Array Value} {v : Value} {ds gs : List (DataW H)} {before pa pv : List MemPlace}
  (hW : DataW.Whole enc P f.params.toList s.vars apart W args.toList ds gs before)
  (hres : ∀ (b : Nat) (sp : Nat → Bool) (hd : Bool), DataW.TrodAll enc P W' b sp hd f.resultTypes.toList (v.resultList f.resultTypes.size) (s.fn H (ds ++ gs)).results [])
  (hargs : ∀ sp : Nat → Bool, (∀ p ∈ before, sp p.block = true) → DataW.TrodAll enc P W' 0 sp true f.params.toList args.toList (s.fn H (ds ++ gs)).args pa)
  (hvars : ∀ sp : Nat → Bool, (∀ p ∈ before, sp p.block = true) → DataW.TrodVars enc P W' sp s.vars (s.fn H (ds ++ gs)).vars pv)
  (hps : before = pa ++ pv) (hk : W.keptBut W' (· ∈ before)) (hfz : ∀ a : Addr, a.block < W.heap.size → W'.frozen? a = W.frozen? a)
  (hok : ∀ (j : Nat) (t : TypeId) (r : Value), f.resultTypes[j]? = some t → (v.resultList f.resultTypes.size)[j]? = some r → Value.okWide P W' .any 0 t r) :
  s.post enc P f apart fresh handsOn again W args v W' := by
 have hlt : ∀ p ∈ before, p.block < W.heap.size := fun p hp => hW.lt p hp
 have hold : ∀ p ∈ before, (fun b => decide (b < W.heap.size)) p.block = true := fun p hp => by simpa using hlt p hp
 have e1 : ∀ p, p ∈ [] ++ pa ++ pv ↔ p ∈ before := fun p => by rw [hps, List.nil_append]
 refine ⟨ds, gs, before, [], pa, pv, hW, hres _ _ _, hargs _ hold, hvars _ hold, World.keptBut_mono (fun p hp => ⟨hp, .inr (List.mem_append.1 (hps ▸ hp))⟩) hk, fun _ => ?_⟩
 obtain ⟨_, _, _, _, _, hz, hn⟩ := hW
 refine ⟨hok, _, _, ([] ++ pa) ++ pv, ⟨[] ++ pa, pv, trodAll_append (hargs _ (fun _ _ => rfl)) (hres _ _ _), hvars _ (fun _ _ => rfl), rfl, fun b off hp => ?_, fun ha => ?_⟩, fun p hp _ => (e1 p).1 hp⟩
 ·have hb := (e1 _).1 hp
  rw [hfz _ (hlt _ hb)]
  exact hz b off hb
 ·have := hn ha
  rw [hps] at this
  exact this
/-- a law that returns true and leaves all that was there -/
theorem post_true {f : Func} {s : ChangeSpec} {fresh handsOn again : Bool} {W W' : World} {args : Array Value} {ds gs : List (DataW H)} {before : List MemPlace} (hl : laidOutB P = true) (hm : mapsRowed P = true) (hz : ((List.range P.types.size).all fun t => match P.underlying t with | some (.slice e) => decide (0 < P.cellsOf e) | _ => true) = true)
  (hW : DataW.Whole enc P f.params.toList s.vars false W args.toList ds gs before) (hv : s.vars = []) (hts : f.params.toList.all (fun t => decide (t < P.types.size)) = true)
  {tb : TypeId} (hrt : f.resultTypes = #[tb]) (htb : P.underlying tb = some .bool) (hr : (s.fn H (ds ++ gs)).results = [.lit (.bool true)]) (ha : (s.fn H (ds ++ gs)).args = ds) (hvr : (s.fn H (ds ++ gs)).vars = []) (hE : Ext No W W') :
  s.post enc P f false fresh handsOn again W args (.bool true) W' := by
 have hW0 := hW
 obtain ⟨p, q, hA, hV, rfl, _, _⟩ := hW
 rw [hv] at hV
 obtain ⟨rfl, rfl⟩ := trodVars_none hV
 refine post_of_old (pa := p) (pv := []) hW0 (fun _ _ _ => ?_) (fun sp hsp => ?_) (fun _ _ => ?_) (by simp) (World.keptBut_mono (fun _ f => f.elim) (hE.kept fun _ _ => id)) (fun a ha => hE.froz ha id) ?_
 ·rw [hrt, hr]
  exact trodAll_cons_mk (RowKit.shut_bool htb true) trodAll_mk0
 ·rw [ha]
  refine trodAll_carry (hA.respare (kids_rows hl hm) (slices_full_of P hz) (fun t ht => by simpa using List.all_eq_true.1 hts t ht) fun x hx => hsp x (by simpa using hx)) fun x hx => ?_
  exact hE.sameAt (hA.lt x hx)
 ·rw [hv, hvr]; rfl
 ·exact ok_one hrt rfl (RowKit.okWide_bool_mk htb true)

/-- cells that were read stand in a row -/
theorem cells?_seg {a : Addr} {m : Nat} {r : List Value} (h : w.cells? 0 a m = some r) (hm : 0 < m) : a = ⟨a.block, a.off, none⟩ ∧ r.length = m ∧ Seg w a.block a.off r ∧ a.block < w.heap.size := by
 have hlt := World.cells?_block h hm
 unfold World.cells? at h
 rw [if_pos (Nat.zero_le _)] at h
 have hlen := mapM_some_length h
 have hget : ∀ i, i < m → w.cell? (a.add i) = r[i]? := fun i hi => mapM_some_get h i i (by simp [hi])
 simp only [List.length_range] at hlen
 have hspot : a.spot = none := by
  have h0 := hget 0 hm
  have hr0 : r[0]? = some r[0] := by simp
  rw [hr0] at h0
  have e : a.add 0 = a := by simp [Addr.add]
  rw [e] at h0
  unfold World.cell? at h0
  split at h0
  ·split at h0
   ·cases h0
   ·rename_i hs; simpa using hs
  ·cases h0
 have ha : a = ⟨a.block, a.off, none⟩ := by rw [← hspot]
 refine ⟨ha, hlen, fun i v hv => ?_, hlt⟩
 have hi : i < m := by
  have := (List.getElem?_eq_some_iff.1 hv).1
  omega
 have hi' := hget i hi
 rw [hv] at hi'
 have e : a.add i = ⟨a.block, a.off + i, none⟩ := by rw [ha]; exact addr_add _ _ _
 rw [e] at hi'
 exact hi'

theorem rows_seg {b m : Nat} : ∀ {L : List (List Value)} {off : Nat}, Uni m L → (∀ (i : Nat) (r : List Value), L[i]? = some r → Seg w b (off + i * m) r) → Seg w b off L.flatten
 | [], _, _, _ => fun i v hv => by simp at hv
 | r :: L, off, hu, h => by
  rw [List.flatten_cons, Seg.append]
  have hr := hu r (by simp)
  refine ⟨by simpa using h 0 r rfl, ?_⟩
  rw [hr]
  refine rows_seg (fun x hx => hu x (by simp [hx])) fun i x hx => ?_
  have := h (i + 1) x (by simpa using hx)
  rwa [show off + (i + 1) * m = off + m + i * m from by rw [Nat.succ_mul]; omega] at this

/-- a slice that the statement reads: its rows -/
theorem open_rows {sp : Nat → Bool} {held : Bool} {fuel : Nat} {t e m : Nat} {cs : List Value} {x : DataW H × List MemPlace} (ht : P.underlying t = some (.slice e)) (hm : P.cellsOf e = m) (hm0 : 0 < m) (h : DataW.trod enc P w 0 sp held fuel t cs = some x) :
  ∃ (p : Option Addr) (n c : Nat) (L : List (List Value)), cs = [.slice p n c] ∧ n ≤ c ∧ c ≤ maxLen ∧ L.length = n ∧ Uni m L ∧ Sl w p n m L.flatten ∧ (n ≠ 0 → ∀ b off, p = some ⟨b, off, none⟩ → b < w.heap.size) ∧
   ∀ r ∈ L, ∃ k y, DataW.trod enc P w 0 sp held k e r = some y := by
 subst hm
 rcases DataW.trod_slice ht h with ⟨hcs, _⟩ | ⟨a, len, cap, elems, rest, n, _, hcs, _, _, hl, hc, hlen, hel, _⟩
 ·exact ⟨none, 0, 0, [], hcs, Nat.le_refl _, by unfold maxLen; omega, rfl, Uni.nil _, Sl.nil _ _ _, fun h => absurd rfl h, fun r hr => by cases hr⟩
 ·have hrow : ∀ i, i < len → ∃ r y, w.cells? 0 (a.add (i * P.cellsOf e)) (P.cellsOf e) = some r ∧ DataW.trod enc P w 0 sp held n e r = some y := by
   intro i hi
   have := hel i hi
   rw [List.getElem?_eq_getElem (by omega), Option.bind_eq_some_iff] at this
   obtain ⟨r, h1, h2⟩ := this
   exact ⟨r, _, h1, h2⟩
  have hrow' : ∀ i : _root_.Fin len, ∃ r y, w.cells? 0 (a.add (i.1 * P.cellsOf e)) (P.cellsOf e) = some r ∧ DataW.trod enc P w 0 sp held n e r = some y := fun i => hrow i.1 i.2
  let L : List (List Value) := List.ofFn fun i : _root_.Fin len => Classical.choose (hrow' i)
  have hL : ∀ (i : Nat) (r : List Value), L[i]? = some r → i < len ∧ w.cells? 0 (a.add (i * P.cellsOf e)) (P.cellsOf e) = some r ∧ ∃ y, DataW.trod enc P w 0 sp held n e r = some y := by
   intro i r hr
   have hi : i < len := by
    have := (List.getElem?_eq_some_iff.1 hr).1
    simpa [L] using this
   have : r = Classical.choose (hrow' ⟨i, hi⟩) := by
    simp only [L, List.getElem?_ofFn, hi, dif_pos, Option.some.injEq] at hr
    exact hr.symm
   subst this
   obtain ⟨y, h1, h2⟩ := Classical.choose_spec (hrow' ⟨i, hi⟩)
   exact ⟨hi, h1, y, h2⟩
  have hLlen : L.length = len := by simp [L]
  have hu : Uni (P.cellsOf e) L := fun r hr => by
   obtain ⟨i, hi, rfl⟩ := List.mem_iff_getElem.1 hr
   have := hL i L[i] (by simp)
   exact (cells?_seg this.2.1 hm0).2.1
  refine ⟨some a, len, cap, L, hcs, hl, hc, hLlen, hu, ⟨by rw [rows_length hu, hLlen], ?_⟩, ?_, fun r hr => ?_⟩
  ·rcases Nat.eq_zero_or_pos len with h0 | h0
   ·exact .inl h0
   ·right
    have h00 := hL 0 L[0] (by simp)
    have e0 : a.add (0 * P.cellsOf e) = a := by simp [Addr.add]
    rw [e0] at h00
    have ha := (cells?_seg h00.2.1 hm0).1
    refine ⟨a.block, a.off, congrArg some ha, rows_seg hu fun i r hr => ?_⟩
    have hi := hL i r hr
    have := (cells?_seg hi.2.1 hm0).2.2.1
    have e1 : a.add (i * P.cellsOf e) = ⟨a.block, a.off + i * P.cellsOf e, none⟩ := by
     conv => lhs; rw [ha]
     exact addr_add _ _ _
    rw [e1] at this
    exact this
  ·intro hn b off hb
   have h00 := hL 0 (L[0]'(by omega)) (by simp)
   have e0 : a.add (0 * P.cellsOf e) = a := by simp [Addr.add]
   rw [e0] at h00
   have := (cells?_seg h00.2.1 hm0).2.2.2
   simp only [Option.some.injEq] at hb
   rw [hb] at this
   exact this
  ·obtain ⟨i, hi, rfl⟩ := List.mem_iff_getElem.1 hr
   obtain ⟨_, _, y, hy⟩ := hL i L[i] (by simp)
   exact ⟨n, y, hy⟩
end
end Go.Vc
namespace Go.Proofs.YtoapldhadeoeiaaGreatDoor
open Go.Vc Go.WideShapes Go.ChangeShapes
section
variable {H : Type} {enc : TypeId × Value → H} {W : World} {sp : Nat → Bool} {held : Bool}

theorem list_of {α β : Type} {R : α → β → Prop} : ∀ (L : List β), (∀ r ∈ L, ∃ a, R a r) → ∃ l : List α, l.length = L.length ∧ ∀ (i : Nat) (a : α) (r : β), l[i]? = some a → L[i]? = some r → R a r
 | [], _ => ⟨[], rfl, fun i a r h => by simp at h⟩
 | r :: L, h => by
  obtain ⟨a, ha⟩ := h r (by simp)
  obtain ⟨l, h1, h2⟩ := list_of L fun x hx => h x (by simp [hx])
  refine ⟨a :: l, by simp [h1], fun i b x hb hx => ?_⟩
  cases i with
  | zero => simp at hb hx; subst hb; subst hx; exact ha
  | succ i => exact h2 i b x (by simpa using hb) (by simpa using hx)
/-- a slice of rows, each opened -/
theorem open_list {α : Type} {cells : α → List Value} {ok : α → Prop} {fuel t e m : Nat} {cs : List Value} {x : DataW H × List MemPlace} (ht : Tryz.prog.underlying t = some (.slice e)) (hm : Tryz.prog.cellsOf e = m) (hm0 : 0 < m)
  (hrow : ∀ {k : Nat} {r : List Value} {y : DataW H × List MemPlace}, DataW.trod enc Tryz.prog W 0 sp held k e r = some y → ∃ a, r = cells a ∧ ok a)
  (h : DataW.trod enc Tryz.prog W 0 sp held fuel t cs = some x) :
  ∃ (p : Option Addr) (l : List α) (c : Nat), cs = [.slice p l.length c] ∧ l.length ≤ c ∧ c ≤ maxLen ∧ Sl W p l.length m (l.flatMap cells) ∧ (∀ a ∈ l, ok a) ∧ (l ≠ [] → ∀ b off, p = some ⟨b, off, none⟩ → b < W.heap.size) := by
 obtain ⟨p, n, c, L, rfl, hn, hc, hL, hu, hs, hlt, hr⟩ := open_rows ht hm hm0 h
 obtain ⟨l, h1, h2⟩ := list_of (R := fun a r => r = cells a ∧ ok a) L fun r hr' => by
  obtain ⟨k, y, hy⟩ := hr r hr'
  exact hrow hy
 have e : L = l.map cells := by
  apply List.ext_getElem?
  intro i
  rw [List.getElem?_map]
  by_cases hi : i < l.length
  ·have hi' : i < L.length := by omega
   have := (h2 i l[i] L[i] (by simp) (by simp)).1
   simp [hi, hi', this]
  ·rw [List.getElem?_eq_none (by omega), List.getElem?_eq_none (by omega)]; rfl
 have hln : l.length = n := by omega
 subst hln
 refine ⟨p, l, c, rfl, hn, hc, by rw [List.flatMap_def, ← e]; exact hs, fun a ha => ?_, fun hne => hlt fun h0 => hne (List.eq_nil_of_length_eq_zero h0)⟩
 obtain ⟨i, hi, rfl⟩ := List.mem_iff_getElem.1 ha
 have hi' : i < L.length := by omega
 exact (h2 i l[i] L[i] (by simp) (by simp)).2
theorem open_byte {fuel : Nat} {cs : List Value} {x : DataW H × List MemPlace} (h : DataW.trod enc Tryz.prog W 0 sp held fuel 5 cs = some x) : ∃ b : UInt8, cs = [byteV b] := by
 obtain ⟨n, rfl, _, hw⟩ := DataW.trod_int Tryz.underlying5 h
 have hw : 0 ≤ n ∧ n ≤ 255 := by simpa [Lit.wf, IntKind.min, IntKind.max, IntKind.signed, IntKind.bits] using hw
 refine ⟨UInt8.ofNat n.toNat, ?_⟩
 show _ = [Value.int .u8 ((UInt8.ofNat n.toNat).toNat : Int)]
 have e : (UInt8.ofNat n.toNat).toNat = n.toNat := UInt8.toNat_ofNat_of_lt' (by show n.toNat < 256; omega)
 rw [e, Int.toNat_of_nonneg hw.1]
theorem open_str {fuel : Nat} {cs : List Value} {x : DataW H × List MemPlace} (h : DataW.trod enc Tryz.prog W 0 sp held fuel 9 cs = some x) : ∃ s : Str, cs = [strV s] ∧ s.length ≤ maxLen := by
 obtain ⟨s, rfl, _, hw⟩ := DataW.trod_string Tryz.underlying9 h
 exact ⟨s.data.toList, by show _ = [Value.string (strU s.data.toList)]; rw [strU_of], hw⟩
theorem open_id {fuel : Nat} {cs : List Value} {x : DataW H × List MemPlace} (h : DataW.trod enc Tryz.prog W 0 sp held fuel 37 cs = some x) : ∃ l : List UInt8, cs = zq6 l ∧ l.length = 32 := by
 obtain ⟨xs, m, rfl, _, hlen, hn, hel⟩ := DataW.trod_array Tryz.underlying37 h
 have c5 : Tryz.prog.cellsOf 5 = 1 := by kernel_rfl
 have c26 : Tryz.prog.cellsOf 37 = 32 := by kernel_rfl
 rw [c26] at hlen
 obtain ⟨l, h1, h2⟩ := list_of (R := fun (b : UInt8) v => v = byteV b) cs fun v hv => by
  obtain ⟨i, hi, rfl⟩ := List.mem_iff_getElem.1 hv
  have hi32 : i < 32 := by omega
  have h0 := hel i hi32
  rw [c5, Nat.mul_one, List.getElem?_eq_getElem (show i < xs.length by rw [hn]; exact hi32)] at h0
  obtain ⟨b, hb⟩ := open_byte h0
  rw [List.drop_eq_getElem_cons hi, List.take_succ_cons, List.take_zero] at hb
  exact ⟨b, (List.cons.inj hb).1⟩
 refine ⟨l, ?_, by omega⟩
 apply List.ext_getElem?
 intro i
 rw [zq6, List.getElem?_map]
 by_cases hi : i < l.length
 ·have hi' : i < cs.length := by omega
  have := h2 i l[i] cs[i] (by simp) (by simp)
  simp [hi, hi', this]
 ·rw [List.getElem?_eq_none (by omega), List.getElem?_eq_none (by omega)]; rfl
theorem split_at (cs : List Value) (o n : Nat) : cs.drop o = (cs.drop o).take n ++ cs.drop (o + n) := by
 rw [← List.drop_drop, List.take_append_drop]
theorem open_leaf {fuel : Nat} {cs : List Value} {x : DataW H × List MemPlace} (h : DataW.trod enc Tryz.prog W 0 sp held fuel 84 cs = some x) : ∃ r : zj6, cs = r.cells ∧ r.path.length ≤ maxLen ∧ r.id.length = 32 := by
 obtain ⟨xs, k, rfl, _, hlen, hxs, hf⟩ := DataW.trod_struct Tryz.underlying84 h
 have k76 : Tryz.prog.cellsOf 84 = 33 := by kernel_rfl
 have k9 : Tryz.prog.cellsOf 9 = 1 := by kernel_rfl
 have k26 : Tryz.prog.cellsOf 37 = 32 := by kernel_rfl
 have hxs : xs.length = 2 := hxs
 have g0 : DataW.trod enc Tryz.prog W 0 sp held k 9 ((cs.drop 0).take (Tryz.prog.cellsOf 9)) = _ := hf 0 _ rfl
 have g1 : DataW.trod enc Tryz.prog W 0 sp held k 37 ((cs.drop 1).take (Tryz.prog.cellsOf 37)) = _ := hf 1 _ rfl
 rw [k9, List.getElem?_eq_getElem (by omega)] at g0
 rw [k26, List.getElem?_eq_getElem (by omega)] at g1
 obtain ⟨s, e0, h0⟩ := open_str g0
 obtain ⟨l, e1, h1⟩ := open_id g1
 rw [k76] at hlen
 refine ⟨⟨s, l⟩, ?_, h0, h1⟩
 have e : cs = cs.drop 0 := rfl
 rw [e, split_at cs 0 1, e0, split_at cs (0 + 1) 32, e1, List.drop_eq_nil_of_le (by omega), List.append_nil]
 rfl
theorem open_chg {fuel : Nat} {cs : List Value} {x : DataW H × List MemPlace} (h : DataW.trod enc Tryz.prog W 0 sp held fuel 87 cs = some x) : ∃ r : ChgD, cs = r.cells ∧ r.path.length ≤ maxLen ∧ r.text.length ≤ maxLen := by
 obtain ⟨xs, k, rfl, _, hlen, hxs, hf⟩ := DataW.trod_struct Tryz.underlying87 h
 have k82 : Tryz.prog.cellsOf 87 = 3 := by kernel_rfl
 have k9 : Tryz.prog.cellsOf 9 = 1 := by kernel_rfl
 have k4 : Tryz.prog.cellsOf 4 = 1 := by kernel_rfl
 have hxs : xs.length = 3 := hxs
 have g0 : DataW.trod enc Tryz.prog W 0 sp held k 9 ((cs.drop 0).take (Tryz.prog.cellsOf 9)) = _ := hf 0 _ rfl
 have g1 : DataW.trod enc Tryz.prog W 0 sp held k 4 ((cs.drop 1).take (Tryz.prog.cellsOf 4)) = _ := hf 1 _ rfl
 have g2 : DataW.trod enc Tryz.prog W 0 sp held k 9 ((cs.drop 2).take (Tryz.prog.cellsOf 9)) = _ := hf 2 _ rfl
 rw [k9, List.getElem?_eq_getElem (by omega)] at g0 g2
 rw [k4, List.getElem?_eq_getElem (by omega)] at g1
 obtain ⟨s, e0, h0⟩ := open_str g0
 obtain ⟨b, e1, _⟩ := DataW.trod_bool Tryz.underlying4 g1
 obtain ⟨t, e2, h2⟩ := open_str g2
 rw [k82] at hlen
 refine ⟨⟨s, b, t⟩, ?_, h0, h2⟩
 have e : cs = cs.drop 0 := rfl
 rw [e, split_at cs 0 1, e0, split_at cs (0 + 1) 1, e1, split_at cs (0 + 1 + 1) 1, e2, List.drop_eq_nil_of_le (by omega), List.append_nil]
 rfl
theorem open_row {fuel : Nat} {cs : List Value} {x : DataW H × List MemPlace} (h : DataW.trod enc Tryz.prog W 0 sp held fuel 61 cs = some x) : ∃ r : RowD, cs = r.cells ∧ r.path.length ≤ maxLen ∧ r.text.length ≤ maxLen := by
 obtain ⟨xs, k, rfl, _, hlen, hxs, hf⟩ := DataW.trod_struct Tryz.underlying61 h
 have k78 : Tryz.prog.cellsOf 61 = 2 := by kernel_rfl
 have k9 : Tryz.prog.cellsOf 9 = 1 := by kernel_rfl
 have hxs : xs.length = 2 := hxs
 have g0 : DataW.trod enc Tryz.prog W 0 sp held k 9 ((cs.drop 0).take (Tryz.prog.cellsOf 9)) = _ := hf 0 _ rfl
 have g1 : DataW.trod enc Tryz.prog W 0 sp held k 9 ((cs.drop 1).take (Tryz.prog.cellsOf 9)) = _ := hf 1 _ rfl
 rw [k9, List.getElem?_eq_getElem (by omega)] at g0 g1
 obtain ⟨s, e0, h0⟩ := open_str g0
 obtain ⟨t, e1, h1⟩ := open_str g1
 rw [k78] at hlen
 refine ⟨⟨s, t⟩, ?_, h0, h1⟩
 have e : cs = cs.drop 0 := rfl
 rw [e, split_at cs 0 1, e0, split_at cs (0 + 1) 1, e1, List.drop_eq_nil_of_le (by omega), List.append_nil]
 rfl
theorem open_u32 {fuel : Nat} {cs : List Value} {x : DataW H × List MemPlace} (h : DataW.trod enc Tryz.prog W 0 sp held fuel 41 cs = some x) : ∃ n : Nat, cs = [.int .u32 (n : Int)] ∧ n < 2 ^ 32 := by
 obtain ⟨n, rfl, _, hw⟩ := DataW.trod_int Tryz.underlying41 h
 have hw : 0 ≤ n ∧ n ≤ 4294967295 := by simpa [Lit.wf, IntKind.min, IntKind.max, IntKind.signed, IntKind.bits] using hw
 exact ⟨n.toNat, by rw [Int.toNat_of_nonneg hw.1], by omega⟩
/-- an object that the statement reads -/
theorem open_obj {fuel : Nat} {cs : List Value} {x : DataW H × List MemPlace} (h : DataW.trod enc Tryz.prog W 0 sp held fuel 43 cs = some x) : ∃ (o : ObjD) (a : ObjP), cs = objC o a ∧ ObjArg W o a := by
 obtain ⟨xs, k, rfl, _, hlen, hxs, hf⟩ := DataW.trod_struct Tryz.underlying43 h
 have k33 : Tryz.prog.cellsOf 43 = 73 := by kernel_rfl
 have k3 : Tryz.prog.cellsOf 3 = 1 := by kernel_rfl
 have k9 : Tryz.prog.cellsOf 9 = 1 := by kernel_rfl
 have k24 : Tryz.prog.cellsOf 35 = 1 := by kernel_rfl
 have k27 : Tryz.prog.cellsOf 31 = 1 := by kernel_rfl
 have k26 : Tryz.prog.cellsOf 37 = 32 := by kernel_rfl
 have k30 : Tryz.prog.cellsOf 40 = 1 := by kernel_rfl
 have k28 : Tryz.prog.cellsOf 38 = 1 := by kernel_rfl
 have k31 : Tryz.prog.cellsOf 41 = 1 := by kernel_rfl
 have hxs : xs.length = 11 := hxs
 have g0 : DataW.trod enc Tryz.prog W 0 sp held k 3 ((cs.drop 0).take (Tryz.prog.cellsOf 3)) = _ := hf 0 _ rfl
 have g1 : DataW.trod enc Tryz.prog W 0 sp held k 9 ((cs.drop 1).take (Tryz.prog.cellsOf 9)) = _ := hf 1 _ rfl
 have g2 : DataW.trod enc Tryz.prog W 0 sp held k 35 ((cs.drop 2).take (Tryz.prog.cellsOf 35)) = _ := hf 2 _ rfl
 have g3 : DataW.trod enc Tryz.prog W 0 sp held k 3 ((cs.drop 3).take (Tryz.prog.cellsOf 3)) = _ := hf 3 _ rfl
 have g4 : DataW.trod enc Tryz.prog W 0 sp held k 37 ((cs.drop 4).take (Tryz.prog.cellsOf 37)) = _ := hf 4 _ rfl
 have g5 : DataW.trod enc Tryz.prog W 0 sp held k 37 ((cs.drop 36).take (Tryz.prog.cellsOf 37)) = _ := hf 5 _ rfl
 have g6 : DataW.trod enc Tryz.prog W 0 sp held k 31 ((cs.drop 68).take (Tryz.prog.cellsOf 31)) = _ := hf 6 _ rfl
 have g7 : DataW.trod enc Tryz.prog W 0 sp held k 40 ((cs.drop 69).take (Tryz.prog.cellsOf 40)) = _ := hf 7 _ rfl
 have g8 : DataW.trod enc Tryz.prog W 0 sp held k 41 ((cs.drop 70).take (Tryz.prog.cellsOf 41)) = _ := hf 8 _ rfl
 have g9 : DataW.trod enc Tryz.prog W 0 sp held k 41 ((cs.drop 71).take (Tryz.prog.cellsOf 41)) = _ := hf 9 _ rfl
 have g10 : DataW.trod enc Tryz.prog W 0 sp held k 9 ((cs.drop 72).take (Tryz.prog.cellsOf 9)) = _ := hf 10 _ rfl
 rw [k3, List.getElem?_eq_getElem (by omega)] at g0 g3
 rw [k9, List.getElem?_eq_getElem (by omega)] at g1 g10
 rw [k24, List.getElem?_eq_getElem (by omega)] at g2
 rw [k26, List.getElem?_eq_getElem (by omega)] at g4 g5
 rw [k27, List.getElem?_eq_getElem (by omega)] at g6
 rw [k30, List.getElem?_eq_getElem (by omega)] at g7
 rw [k31, List.getElem?_eq_getElem (by omega)] at g8 g9
 obtain ⟨kind, e0, _, _⟩ := DataW.trod_int Tryz.underlying3 g0
 obtain ⟨tx, e1, _⟩ := open_str g1
 obtain ⟨lp, ll, lc, e2, hlc, _, hls, hli, _⟩ := open_list (cells := zj6.cells) (ok := fun r => r.path.length ≤ maxLen ∧ r.id.length = 32) Tryz.underlying35 (by kernel_rfl : Tryz.prog.cellsOf 84 = 33) (by decide) (fun h => open_leaf h) g2
 obtain ⟨st, e3, _, _⟩ := DataW.trod_int Tryz.underlying3 g3
 obtain ⟨tree, e4, ht⟩ := open_id g4
 obtain ⟨base, e5, hb⟩ := open_id g5
 obtain ⟨pp, pl, pc, e6, hpc, _, hps, hpi, _⟩ := open_list (cells := zq6) (ok := fun r => r.length = 32) Tryz.underlying31 k26 (by decide) (fun h => open_id h) g6
 obtain ⟨xs2, k2, _, _, hlen2, hxs2, hf2⟩ := DataW.trod_struct Tryz.underlying40 g7
 have hxs2 : xs2.length = 1 := hxs2
 have g7' : DataW.trod enc Tryz.prog W 0 sp held k2 38 (((((cs.drop 69).take 1)).drop 0).take (Tryz.prog.cellsOf 38)) = _ := hf2 0 _ rfl
 rw [k28, List.getElem?_eq_getElem (by omega)] at g7'
 obtain ⟨rp, rl, rc, e7, hrc, _, hrs, hri, _⟩ := open_list (cells := ChgD.cells) (ok := fun r => r.path.length ≤ maxLen ∧ r.text.length ≤ maxLen) Tryz.underlying38 (by kernel_rfl : Tryz.prog.cellsOf 87 = 3) (by decide) (fun h => open_chg h) g7'
 have e7 : (cs.drop 69).take 1 = [.slice rp rl.length rc] := by rw [← e7, List.drop_zero, List.take_take]; rfl
 obtain ⟨nu, e8, h8⟩ := open_u32 g8
 obtain ⟨au, e9, h9⟩ := open_u32 g9
 obtain ⟨no, e10, _⟩ := open_str g10
 rw [k33] at hlen
 refine ⟨⟨kind, tx, ll, st, tree, base, pl, rl, nu, au, no⟩, ⟨lp, lc, pp, pc, rp, rc⟩, ?_, ⟨⟨ht, hb, hpi, hli, hri, h8, h9⟩, ⟨hls, hps, hrs⟩, ⟨hlc, hpc, hrc⟩⟩⟩
 have e : cs = cs.drop 0 := rfl
 rw [e, split_at cs 0 1, e0, split_at cs (0 + 1) 1, e1, split_at cs (0 + 1 + 1) 1, e2, split_at cs (0 + 1 + 1 + 1) 1, e3, split_at cs (0 + 1 + 1 + 1 + 1) 32, e4, split_at cs (0 + 1 + 1 + 1 + 1 + 32) 32, e5,
  split_at cs (0 + 1 + 1 + 1 + 1 + 32 + 32) 1, e6, split_at cs (0 + 1 + 1 + 1 + 1 + 32 + 32 + 1) 1, e7, split_at cs (0 + 1 + 1 + 1 + 1 + 32 + 32 + 1 + 1) 1, e8, split_at cs (0 + 1 + 1 + 1 + 1 + 32 + 32 + 1 + 1 + 1) 1, e9,
  split_at cs (0 + 1 + 1 + 1 + 1 + 32 + 32 + 1 + 1 + 1 + 1) 1, e10, List.drop_eq_nil_of_le (by omega), List.append_nil]
 rfl
end
end Go.Proofs.YtoapldhadeoeiaaGreatDoor
namespace Go.Proofs.YtoapldhadeoeiaaGreatDoor
open Go.Vc Go.WideShapes Go.ChangeShapes
section
variable {H : Type} {enc : TypeId × Value → H} {W : World} {sp : Nat → Bool} {held : Bool}
theorem open_map {fuel : Nat} {cs : List Value} {x : DataW H × List MemPlace} (h : DataW.trod enc Tryz.prog W 0 sp held fuel 64 cs = some x) : ∃ (p : Option Addr) (l : List RowD) (c : Nat), cs = [.slice p l.length c] ∧ Sl W p l.length 2 (l.flatMap RowD.cells) ∧ l.length ≤ maxLen := by
 obtain ⟨xs, k, rfl, _, hlen, hxs, hf⟩ := DataW.trod_struct Tryz.underlying64 h
 have k58 : Tryz.prog.cellsOf 64 = 1 := by kernel_rfl
 have k56 : Tryz.prog.cellsOf 62 = 1 := by kernel_rfl
 have hxs : xs.length = 1 := hxs
 have g0 : DataW.trod enc Tryz.prog W 0 sp held k 62 ((cs.drop 0).take (Tryz.prog.cellsOf 62)) = _ := hf 0 _ rfl
 rw [k56, List.getElem?_eq_getElem (by omega)] at g0
 obtain ⟨p, l, c, e, h1, h2, hs, _, _⟩ := open_list (cells := RowD.cells) (ok := fun r => r.path.length ≤ maxLen ∧ r.text.length ≤ maxLen) Tryz.underlying62 (by kernel_rfl : Tryz.prog.cellsOf 61 = 2) (by decide) (fun h => open_row h) g0
 rw [k58] at hlen
 refine ⟨p, l, c, ?_, hs, by omega⟩
 have e2 : cs = cs.drop 0 := rfl
 rw [e2, split_at cs 0 1, e, List.drop_eq_nil_of_le (by omega), List.append_nil]
theorem open_int {fuel : Nat} {cs : List Value} {x : DataW H × List MemPlace} (h : DataW.trod enc Tryz.prog W 0 sp held fuel 3 cs = some x) : ∃ n : Int, cs = intC n ∧ I64 n := by
 obtain ⟨n, rfl, _, hw⟩ := DataW.trod_int Tryz.underlying3 h
 have hw : -9223372036854775808 ≤ n ∧ n ≤ 9223372036854775807 := by simpa [Lit.wf, IntKind.min, IntKind.max, IntKind.signed, IntKind.bits] using hw
 exact ⟨n, rfl, hw⟩
theorem ml_lt {n : Nat} (h : n ≤ maxLen) : n < 9223372036854775808 := by unfold maxLen at h; omega
theorem open_step {fuel : Nat} {cs : List Value} {x : DataW H × List MemPlace} (h : DataW.trod enc Tryz.prog W 0 sp held fuel 67 cs = some x) : ∃ s : StepT, cs = stepC s ∧ StepIn W s := by
 obtain ⟨xs, k, rfl, _, hlen, hxs, hf⟩ := DataW.trod_struct Tryz.underlying67 h
 have k78 : Tryz.prog.cellsOf 67 = 3 := by kernel_rfl
 have km : Tryz.prog.cellsOf 64 = 1 := by kernel_rfl
 have ki : Tryz.prog.cellsOf 65 = 1 := by kernel_rfl
 have k9 : Tryz.prog.cellsOf 9 = 1 := by kernel_rfl
 have hxs : xs.length = 3 := hxs
 have g0 : DataW.trod enc Tryz.prog W 0 sp held k 64 ((cs.drop 0).take (Tryz.prog.cellsOf 64)) = _ := hf 0 _ rfl
 have g1 : DataW.trod enc Tryz.prog W 0 sp held k 65 ((cs.drop 1).take (Tryz.prog.cellsOf 65)) = _ := hf 1 _ rfl
 have g2 : DataW.trod enc Tryz.prog W 0 sp held k 9 ((cs.drop 2).take (Tryz.prog.cellsOf 9)) = _ := hf 2 _ rfl
 rw [km, List.getElem?_eq_getElem (by omega)] at g0
 rw [ki, List.getElem?_eq_getElem (by omega)] at g1
 rw [k9, List.getElem?_eq_getElem (by omega)] at g2
 obtain ⟨mp, rows, mc, e0, hm, hml⟩ := open_map g0
 obtain ⟨bp, back, bc, e1, hb1, hb2, hbs, _, _⟩ := open_list (cells := intC) (ok := I64) Tryz.underlying65 (by kernel_rfl : Tryz.prog.cellsOf 3 = 1) (by decide) (fun h => open_int h) g1
 obtain ⟨t, e2, _⟩ := open_str g2
 rw [k78] at hlen
 refine ⟨⟨mp, mc, rows, bp, bc, back, t⟩, ?_, ⟨hm, ml_lt hml, hbs, ml_lt (Nat.le_trans hb1 hb2)⟩⟩
 have e : cs = cs.drop 0 := rfl
 rw [e, split_at cs 0 1, e0, split_at cs (0 + 1) 1, e1, split_at cs (0 + 1 + 1) 1, e2, List.drop_eq_nil_of_le (by omega), List.append_nil]
 rfl
theorem open_turn {fuel : Nat} {cs : List Value} {x : DataW H × List MemPlace} (h : DataW.trod enc Tryz.prog W 0 sp held fuel 81 cs = some x) : ∃ t : TurnD, cs = turnC t ∧ TurnIn t := by
 obtain ⟨xs, k, rfl, _, hlen, hxs, hf⟩ := DataW.trod_struct Tryz.underlying81 h
 have k78 : Tryz.prog.cellsOf 81 = 3 := by kernel_rfl
 have k3 : Tryz.prog.cellsOf 3 = 1 := by kernel_rfl
 have hxs : xs.length = 3 := hxs
 have g0 : DataW.trod enc Tryz.prog W 0 sp held k 3 ((cs.drop 0).take (Tryz.prog.cellsOf 3)) = _ := hf 0 _ rfl
 have g1 : DataW.trod enc Tryz.prog W 0 sp held k 3 ((cs.drop 1).take (Tryz.prog.cellsOf 3)) = _ := hf 1 _ rfl
 have g2 : DataW.trod enc Tryz.prog W 0 sp held k 3 ((cs.drop 2).take (Tryz.prog.cellsOf 3)) = _ := hf 2 _ rfl
 rw [k3, List.getElem?_eq_getElem (by omega)] at g0 g1 g2
 obtain ⟨a, e0, ha⟩ := open_int g0
 obtain ⟨b, e1, hb⟩ := open_int g1
 obtain ⟨c, e2, hc⟩ := open_int g2
 rw [k78] at hlen
 refine ⟨⟨a, b, c⟩, ?_, ⟨ha, hb, hc⟩⟩
 have e : cs = cs.drop 0 := rfl
 rw [e, split_at cs 0 1, e0, split_at cs (0 + 1) 1, e1, split_at cs (0 + 1 + 1) 1, e2, List.drop_eq_nil_of_le (by omega), List.append_nil]
 rfl
/-- a world that a statement reads -/
theorem open_world {fuel : Nat} {cs : List Value} {x : DataW H × List MemPlace} (h : DataW.trod enc Tryz.prog W 0 sp held fuel 25 cs = some x) : ∃ (ps : Option Addr) (steps : List StepT) (ck : Nat) (pt : Option Addr) (turns : List TurnD) (ct : Nat), cs = [.slice ps steps.length ck, .slice pt turns.length ct] ∧
  Sl W ps steps.length 3 (steps.flatMap stepC) ∧ (∀ s ∈ steps, StepIn W s) ∧ steps.length < 9223372036854775808 ∧ Sl W pt turns.length 3 (turns.flatMap turnC) ∧ (∀ t ∈ turns, TurnIn t) ∧ turns.length < 9223372036854775808 := by
 obtain ⟨xs, k, rfl, _, hlen, hxs, hf⟩ := DataW.trod_struct Tryz.underlying25 h
 have k78 : Tryz.prog.cellsOf 25 = 2 := by kernel_rfl
 have ks : Tryz.prog.cellsOf 22 = 1 := by kernel_rfl
 have kt : Tryz.prog.cellsOf 23 = 1 := by kernel_rfl
 have hxs : xs.length = 2 := hxs
 have g0 : DataW.trod enc Tryz.prog W 0 sp held k 22 ((cs.drop 0).take (Tryz.prog.cellsOf 22)) = _ := hf 0 _ rfl
 have g1 : DataW.trod enc Tryz.prog W 0 sp held k 23 ((cs.drop 1).take (Tryz.prog.cellsOf 23)) = _ := hf 1 _ rfl
 rw [ks, List.getElem?_eq_getElem (by omega)] at g0
 rw [kt, List.getElem?_eq_getElem (by omega)] at g1
 obtain ⟨ps, steps, c1, e0, h1, h2, hs, hsi, _⟩ := open_list (cells := stepC) (ok := StepIn W) Tryz.underlying22 (by kernel_rfl : Tryz.prog.cellsOf 67 = 3) (by decide) (fun h => open_step h) g0
 obtain ⟨pt, turns, c2, e1, h3, h4, ht, hti, _⟩ := open_list (cells := turnC) (ok := TurnIn) Tryz.underlying23 (by kernel_rfl : Tryz.prog.cellsOf 81 = 3) (by decide) (fun h => open_turn h) g1
 rw [k78] at hlen
 refine ⟨ps, steps, c1, pt, turns, c2, ?_, hs, hsi, ml_lt (Nat.le_trans h1 h2), ht, hti, ml_lt (Nat.le_trans h3 h4)⟩
 have e : cs = cs.drop 0 := rfl
 rw [e, split_at cs 0 1, e0, split_at cs (0 + 1) 1, e1, List.drop_eq_nil_of_le (by omega), List.append_nil]
 rfl
end
end Go.Proofs.YtoapldhadeoeiaaGreatDoor
namespace Go.Proofs.YtoapldhadeoeiaaGreatDoor
open Go.Vc Go.WideShapes Go.ChangeShapes Go.ChangeAt Go.RowKit
theorem own : ownKnob Tryz.prog.godebug = none := by kernel_rfl
theorem gRoots : Tryz.prog.globalNamed "confluence/sha.roots" = some 0 := by kernel_rfl
abbrev laidR : List (String × DataW Unit) := [("confluence/sha.roots", Rows.laid_confluence_sha_roots)]
theorem roots_of {W : World} (h : laidMetH Tryz.prog laidR W) : Seg W 0 0 (wordsV rootsW) := by
 rw [MakeChecks.laidMetH_plain _ _ _ (by kernel_rfl)] at h
 have h : laidMet Tryz.prog [("confluence/sha.roots", Lib.tabData .u32 (rootsW.map fun x => (x.toNat : Int)))] W := h
 have ht := Lib.tabIs_of_head gRoots (t := 156) (e := 41) (n := 64) (by kernel_rfl) (by kernel_rfl) (by kernel_rfl) (by kernel_rfl) (by kernel_rfl) h
 intro i v hi
 have hlt : i < rootsW.length := by
  have := (List.getElem?_eq_some_iff.1 hi).1
  simpa [wordsV] using this
 have hc := ht.cell gRoots i (by rw [List.length_map]; exact hlt)
 rw [Nat.zero_add, hc, ← hi, wordsV_get rootsW hlt]
 rw [List.getD_eq_getElem?_getD, List.getElem?_map, List.getElem?_eq_getElem hlt]
 rfl
theorem door_met (os : Os) (args : Array Value) : laidMetH Tryz.prog laidR ((World.doorLaid Tryz.prog 400 os).forCall (fun _ _ => 0) ⟨#[], args, []⟩).memory :=
 laidMetH_of_parts3 (fuel := 70) (laidMet_of_run' 70 (by kernel_rfl) (by kernel_rfl)) (by kernel_rfl) (by kernel_rfl)
end Go.Proofs.YtoapldhadeoeiaaGreatDoor
namespace Go.Proofs.YtoapldhadeoeiaaGreatDoor
open Go.Vc
section
variable {W w : World} {N i k : Nat} {os : List ObjX} {q : Option Addr} {L : List ObjX}
theorem InQ.zx0 (h : InQ W w N os i q k L) {w' : World} {p : Option Addr} {n c : Nat} {xs : List Value} (ho : Own w p n c 43 73 xs) (hE : Ext (OwnB p) w w') (hd : ∀ b, OwnB q b → ¬ OwnB p b) : InQ W w' N os i q k L :=
 ⟨h.e, h.own.ext hE hd, h.nw, fun x hx => (h.new x hx).zx0 ho hE (by decide) (by decide) (by decide)⟩
theorem InQ.lenE (h : InQ W w N os i q k L) (hi : i ≤ os.length) (h8 : i ≤ 8) : L.length = i := by
 rw [← List.length_map (f := Prod.fst), h.e]
 unfold cuts
 rw [List.length_map, List.length_take]
 omega
theorem cuts_done {os : List ObjX} {i : Nat} (hi : i = os.length ∧ i ≤ 8 ∨ i = 8) : cuts os i = cuts os 8 := by
 unfold cuts
 rcases hi with ⟨h, h2⟩ | h
 ·subst h
  rw [List.take_of_length_le (by omega), List.take_of_length_le (by omega)]
 ·rw [h]
theorem InQ.done (h : InQ W w N os i q k L) (hi : i = os.length ∧ i ≤ 8 ∨ i = 8) : InQ W w N os 8 q k L := ⟨h.e.trans (cuts_done hi), h.own, h.nw, h.new⟩
theorem InQ.same {q' : Option Addr} {k' : Nat} {L' : List ObjX} (h : InQ W w N os i q k L) (h' : InQ W w N os i q' k' L') : L'.map Prod.fst = L.map Prod.fst := h'.e.trans h.e.symm
end
theorem all_fst {L L' : List ObjX} (h : L'.map Prod.fst = L.map Prod.fst) : (∀ x ∈ L', ObjOk x.1) ↔ ∀ x ∈ L, ObjOk x.1 := by
 have e : ∀ M : List ObjX, (∀ x ∈ M, ObjOk x.1) ↔ ∀ o ∈ M.map Prod.fst, ObjOk o := fun M => ⟨fun h o ho => by obtain ⟨x, hx, rfl⟩ := List.mem_map.1 ho; exact h x hx, fun h x hx => h _ (List.mem_map_of_mem hx)⟩
 rw [e, e, h]
theorem fst_get {L L' : List ObjX} (h : L'.map Prod.fst = L.map Prod.fst) {j : Nat} (h1 : j < L'.length) (h2 : j < L.length) : (L'[j]).1 = (L[j]).1 := by
 have e1 : (L'.map Prod.fst)[j]? = some (L'[j]).1 := by rw [List.getElem?_map, List.getElem?_eq_getElem h1]; rfl
 have e2 : (L.map Prod.fst)[j]? = some (L[j]).1 := by rw [List.getElem?_map, List.getElem?_eq_getElem h2]; rfl
 rw [h, e2] at e1
 exact (Option.some.inj e1).symm
def okAll (L : List ObjX) : Bool := decide (∀ x ∈ L, ObjOk x.1)
theorem ok_snoc {L : List ObjX} {X : ObjX} : (∀ x ∈ L ++ [X], ObjOk x.1) ↔ (∀ x ∈ L, ObjOk x.1) ∧ ObjOk X.1 :=
 ⟨fun h => ⟨fun x hx => h x (List.mem_append_left _ hx), h X (by simp)⟩, fun h x hx => by
  rcases List.mem_append.1 hx with hx | hx
  ·exact h.1 x hx
  ·rw [List.mem_singleton.1 hx]; exact h.2⟩
theorem okAll_t {L : List ObjX} {X : ObjX} (h : okAll L = true) : okAll (L ++ [X]) = decide (ObjOk X.1) := decide_eq_decide.2 ⟨fun k => (ok_snoc.1 k).2, fun k => ok_snoc.2 ⟨of_decide_eq_true h, k⟩⟩
theorem okAll_f {L : List ObjX} {X : ObjX} (h : okAll L = false) : okAll (L ++ [X]) = false := decide_eq_false fun k => of_decide_eq_false h (ok_snoc.1 k).1
theorem snoc_get {L : List ObjX} {X : ObjX} {i : Nat} (h : L.length = i) (hi : i < (L ++ [X]).length) : (L ++ [X])[i] = X := by
 subst h
 rw [List.getElem_append_right (Nat.le_refl _)]
 simp
/-- rows of an object that is held, whatever stands there -/
def HX (w : World) (x : zx8) : Prop := OwnX w x.a.lp x.o.leaves.length x.a.lc 84 33 ∧ OwnX w x.a.pp x.o.parents.length x.a.pc 37 32 ∧ OwnX w x.a.rp x.o.rows.length x.a.rc 87 3
theorem OwnX.ext {w w' : World} {p : Option Addr} {n c T sz : Nat} (h : OwnX w p n c T sz) {S : Nat → Prop} (hE : Ext S w w') (hS : ∀ x, OwnB p x → ¬ S x) : OwnX w' p n c T sz := by obtain ⟨xs, h⟩ := h; exact ⟨xs, h.ext hE hS⟩
theorem HX.ext {w w' : World} {x : zx8} (h : HX w x) {S : Nat → Prop} (hE : Ext S w w') (hS : ∀ b, ObjF x.a b → ¬ S b) : HX w' x :=
 ⟨h.1.ext hE fun b k => hS b (.inl k), h.2.1.ext hE fun b k => hS b (.inr (.inl k)), h.2.2.ext hE fun b k => hS b (.inr (.inr k))⟩
theorem HX.zq3 {w w' : World} {x : zx8} (h : HX w x) (hE : Ext No w w') : HX w' x := h.ext hE fun _ _ => id
theorem HeldNew.hx {W0 w : World} {x : zx8} (h : HeldNew W0 w x) : HX w x := ⟨⟨_, h.l.ol⟩, ⟨_, h.l.op⟩, ⟨_, h.l.or⟩⟩
theorem OwnX.neTy {w : World} {p : Option Addr} {n c T sz b U : Nat} {L : List Value} (h : OwnX w p n c T sz) (k : OwnB p b) (hb : Blk w b U L) (hT : T ≠ U) : False := by
 obtain ⟨xs, h⟩ := h
 exact h.neTy k hb hT rfl
theorem _root_.Go.Vc.Blk.extX {w w' : World} {x : zx8} {b T : Nat} {L : List Value} (hb : Blk w b T L) (h : HX w x) (hE : Ext (ObjF x.a) w w') (h1 : 84 ≠ T) (h2 : 37 ≠ T) (h3 : 87 ≠ T) : Blk w' b T L := hb.ext hE fun k => by
 rcases k with k | k | k
 ·exact h.1.neTy k hb h1
 ·exact h.2.1.neTy k hb h2
 ·exact h.2.2.neTy k hb h3
theorem own_extX {w w' : World} {x : zx8} {p : Option Addr} {n c T sz : Nat} {xs : List Value} (ho : Own w p n c T sz xs) (h : HX w x) (hE : Ext (ObjF x.a) w w') (h1 : 84 ≠ T) (h2 : 37 ≠ T) (h3 : 87 ≠ T) : Own w' p n c T sz xs := ho.ext hE fun b k k2 => by
 obtain ⟨L1, hb⟩ := ho.blkAt k
 rcases k2 with k | k | k
 ·exact h.1.neTy k hb h1
 ·exact h.2.1.neTy k hb h2
 ·exact h.2.2.neTy k hb h3
theorem Apart.rest {L : List zx8} (h : Apart L) {j : Nat} (hj : j < L.length) : ∀ x ∈ L.drop (j + 1), ∀ b, ObjF x.a b → ¬ ObjF (L[j]).a b := fun x hx b hb hb2 => by
 have h1 : (L.drop j).Pairwise fun x y => ∀ b c, ObjF x.a b → ObjF y.a c → b < c := h.sublist (List.drop_sublist j L)
 rw [List.drop_eq_getElem_cons hj] at h1
 exact Nat.lt_irrefl _ ((List.pairwise_cons.1 h1).1 x hx b b hb2 hb)
theorem dagPuts_calls (w : World) {ps pt : Option Addr} {cs ct : Nat} {steps : List StepT} {turns : List TurnD} (hs : Sl w ps steps.length 3 (steps.flatMap stepC)) (hsi : ∀ s ∈ steps, StepIn w s) (hsl : steps.length < 9223372036854775808) (ht : Sl w pt turns.length 3 (turns.flatMap turnC)) (hti : ∀ t ∈ turns, TurnIn t) (htl : turns.length < 9223372036854775808) {po : Option Addr} {co : Nat} {os : List ObjX} (ho : Sl w po os.length 73 (os.flatMap objX)) (hoi : ∀ x ∈ os, ObjArg w x.1 x.2) (hol : os.length < 9223372036854775808) (hr : Seg w 0 0 (wordsV rootsW)) :
  zz1 Tryz.prog 3 [.agg #[.slice ps steps.length cs, .slice pt turns.length ct], .slice po os.length co] w fun v w' => v = .bool true ∧ Ext No w w' := by
 have hoI : ∀ x ∈ os, ObjIn x.1 := fun x hx => (hoi x hx).i
 refine zq9 Tryz.func3 rfl rfl rfl rfl ?_
 have hX := Ext.refl No w
 refine zq5 (zq0 (wl (zj0 I_ok rfl fun b2 w1 hn2 hb2 hE1 => ?_)))
 have hX := hX.zq4 hE1
 have hb2 : Blk w1 b2 25 ([.slice ps steps.length cs, .slice pt turns.length ct]) := hb2
 refine wl_p I_ok rfl (zq2 (zq1 (zq5 (zq5 (zq0 (wl (zx2 Tryz.call5 rfl rfl rfl rfl rfl rfl (wakes_calls w1) fun v2 w2 hr2 => ?_)))))))
 obtain ⟨rfl, hE2⟩ := hr2
 have hb2 := hb2.zq3 hE2
 have hX := hX.zq4 hE2
 refine wl_p I_ok rfl (zq2 (zq1 (c_condF rfl (zx7 (zq1 (zq5 (zq0 (wl (zj4 I_ok hb2 rfl rfl ?_)))))))))
 refine wl (zx2 Tryz.call6 rfl rfl rfl rfl rfl rfl (made_calls w2 (hs.zq3 hX) (fun s h => (hsi s h).zq3 hX) hsl (ht.zq3 hX) hti htl) fun v3 w3 hr3 => ?_)
 obtain ⟨q, k, m, qi, ki, ids, rfl, hMQ, hMD, hE3⟩ := hr3
 have hb2 := hb2.zq3 hE3
 have hX := hX.zq4 hE3
 have hK := hMQ.ks
 have hml := hMQ.few
 have hil := hMQ.il
 have hiin := hMQ.iin
 have hmlk := made_few hMQ
 refine wl_p I_ok rfl ?_
 have hRhK := hK.n
 refine wl (zj0 I_ok rfl fun b5 w4 hn5 hb5 hE4 => ?_)
 have ne2_5 : b2 ≠ b5 := Nat.ne_of_lt (Nat.lt_of_lt_of_le hb2.lt hn5)
 have fr5 := Nat.le_trans hX.size hn5
 have hb2 := hb2.zq3 hE4
 have hK := hK.no hE4
 have hX := hX.zq4 hE4
 have fhK5 := Nat.le_trans hRhK hn5
 refine wl (zj5 (l' := [.slice q m.length k]) I_ok hb5 rfl rfl rfl rfl OneC.h fun w5 hb5 hE5 hs5 => ?_)
 have hb2 := hb2.ext1 hE5 ne2_5
 have hK := hK.one hE5 fhK5
 have hX := hX.zx1 hE5 fr5
 refine wl_p I_ok rfl (zq2 (zq1 (zq5 (zq0 (wl (zj4 I_ok hb5 rfl rfl (wl (zx2 Tryz.call7 rfl rfl rfl rfl rfl rfl (copied_calls w5 hK.now.1) fun v6 w6 hr6 => ?_))))))))
 obtain ⟨q6, k6, m6, rfl, hcp, ho6, hn6, hN6, hh6, hE6⟩ := hr6
 have hb2 := hb2.zq3 hE6
 have hb5 := hb5.zq3 hE6
 have hK := hK.no hE6
 have hX := hX.zq4 hE6
 have hK := hK.add (fun u hE => hh6.zq3 hE)
 obtain ⟨N, hN⟩ : ∃ N, N = w6.heap.size := ⟨_, rfl⟩
 rw [← hN] at hK
 have hNw : w.heap.size ≤ N := by rw [hN]; exact hX.size
 have hm6l := same_len hcp
 have hm6k := congrArg List.length (links_of_hp hcp)
 have hRhK := hK.n
 refine wl (zj0 I_ok rfl fun b7 w7 hn7 hb7 hE7 => ?_)
 have ne2_7 : b2 ≠ b7 := Nat.ne_of_lt (Nat.lt_of_lt_of_le hb2.lt hn7)
 have ne5_7 : b5 ≠ b7 := Nat.ne_of_lt (Nat.lt_of_lt_of_le hb5.lt hn7)
 have fr7 := Nat.le_trans hX.size hn7
 have hb2 := hb2.zq3 hE7
 have hb5 := hb5.zq3 hE7
 have hK := hK.no hE7
 have hX := hX.zq4 hE7
 have fhK7 := Nat.le_trans hRhK hn7
 refine wl (zj5 (l' := [.slice q6 m6.length k6]) I_ok hb7 rfl rfl rfl rfl OneC.h fun w8 hb7 hE8 hs8 => ?_)
 have hb2 := hb2.ext1 hE8 ne2_7
 have hb5 := hb5.ext1 hE8 ne5_7
 have hK := hK.one hE8 fhK7
 have hX := hX.zx1 hE8 fr7
 refine zq2 (zq1 (zq5 (zq0 (wl_p I_ok rfl (zq2 (zq1 (zq5 (zq0 (wl_p I_ok rfl (zq2 (zq1 ?_)))))))))))
 refine c_cutK (α := (List ObjX × Option Addr × Nat) × (List ObjX × Option Addr × Nat)) [5, 7] rfl (fun z => [(8, .slice z.1.2.1 z.1.1.length z.1.2.2), (9, .slice z.2.2.1 z.2.1.length z.2.2.2), (10, .bool (okAll z.1.1))]) (fun z u => (InQ w u N os (8) z.1.2.1 z.1.2.2 z.1.1 ∧ InQ w u N os (8) z.2.2.1 z.2.2.2 z.2.1 ∧ KS N u (fun u => (HpIn u q m ∧ Sl u qi ids.length 32 (ids.flatMap zq6)) ∧ HpIn u q6 m6)) ∧ Blk u b2 25 ([.slice ps steps.length cs, .slice pt turns.length ct]) ∧ Blk u b5 30 ([.slice q m.length k]) ∧ Blk u b7 30 ([.slice q6 m6.length k6]) ∧ Ext No w u) ?_ ?_
 ·refine zq5 ?_
  refine zq0 (wl_p I_ok rfl (zq2 (zq1 (zx4 ?_))))
  refine zv1 (α := Nat × (List ObjX × Option Addr × Nat) × (List ObjX × Option Addr × Nat)) [5, 7, 27, 28] rfl (fun z => [(8, .slice z.2.1.2.1 z.2.1.1.length z.2.1.2.2), (9, .slice z.2.2.2.1 z.2.2.1.length z.2.2.2.2), (10, .bool (okAll z.2.1.1)), (29, .int .i64 (z.1 : Int))]) (fun z u => ((z.1 ≤ os.length ∧ z.1 ≤ 8) ∧ InQ w u N os (z.1) z.2.1.2.1 z.2.1.2.2 z.2.1.1 ∧ InQ w u N os (z.1) z.2.2.2.1 z.2.2.2.2 z.2.2.1 ∧ (∀ b, OwnB z.2.1.2.1 b → ¬ OwnB z.2.2.2.1 b) ∧ KS N u (fun u => (HpIn u q m ∧ Sl u qi ids.length 32 (ids.flatMap zq6)) ∧ HpIn u q6 m6)) ∧ Blk u b2 25 ([.slice ps steps.length cs, .slice pt turns.length ct]) ∧ Blk u b5 30 ([.slice q m.length k]) ∧ Blk u b7 30 ([.slice q6 m6.length k6]) ∧ Ext No w u) (fun z u => os.length - z.1) (0, ⟨[], none, 0⟩, ⟨[], none, 0⟩) rfl ⟨⟨⟨Nat.zero_le _, Nat.zero_le _⟩, InQ.start _ _ _ _, InQ.start _ _ _ _, (fun b k _ => Nat.lt_irrefl b (noOwn b k)), hK⟩, hb2, hb5, hb7, hX⟩ ?_
  rintro ⟨i, ⟨L8, q8, k8⟩, ⟨L9, q9, k9⟩⟩ w9 ⟨⟨⟨hi, hi8⟩, hI8, hI9, hdj, hK⟩, hb2, hb5, hb7, hX⟩
  try dsimp only
  dsimp only at hi hi8 hI8 hI9 hdj hK
  refine zq5 (zq0 (wl_p I_ok rfl (zq2 (zq1 (zq5 (c_if rfl (fun hc => ?_) (fun hc => ?_)))))))
  ·have hi2 : i < os.length := by omega
   obtain ⟨ob, oo, hp1, hos⟩ := ho.rowAll (objX_len hoI) (by omega)
   have hoi1 := hoi _ (List.getElem_mem hi2)
   have hl8e := hI8.lenE hi hi8
   have hl9e := hI9.lenE hi hi8
   have hIK : KS w9.heap.size w9 (fun u => InQ w u N os (i) q8 k8 L8 ∧ InQ w u N os (i) q9 k9 L9) := KS.mk0 fun u hE => ⟨hI8.zq3 hE, hI9.zq3 hE⟩
   obtain ⟨M, hM⟩ : ∃ N, N = w9.heap.size := ⟨_, rfl⟩
   rw [← hM] at hIK
   have hNM : N ≤ M := by rw [hM]; exact hK.n
   have hq8M : ∀ b, OwnB q8 b → b < M := fun b h => by rw [hM]; exact hI8.own.lt h
   have hq9M : ∀ b, OwnB q9 b → b < M := fun b h => by rw [hM]; exact hI9.own.lt h
   refine wc_put 27 rfl (v' := .slice (some ⟨ob, oo, none⟩) os.length co) (by rw [hp1]) (zx7 (zq1 ?_))
   refine c_cutK (α := (List ObjX × Option Addr × Nat) × (List ObjX × Option Addr × Nat)) [5, 7, 27, 28, 29] rfl (fun z => [(8, .slice z.1.2.1 z.1.1.length z.1.2.2), (9, .slice z.2.2.1 z.2.1.length z.2.2.2), (10, .bool (okAll z.1.1))]) (fun z u => (i < 8 ∧ InQ w u N os (i + 1) z.1.2.1 z.1.2.2 z.1.1 ∧ InQ w u N os (i + 1) z.2.2.1 z.2.2.2 z.2.1 ∧ (∀ b, OwnB z.1.2.1 b → ¬ OwnB z.2.2.1 b) ∧ KS N u (fun u => (HpIn u q m ∧ Sl u qi ids.length 32 (ids.flatMap zq6)) ∧ HpIn u q6 m6)) ∧ Blk u b2 25 ([.slice ps steps.length cs, .slice pt turns.length ct]) ∧ Blk u b5 30 ([.slice q m.length k]) ∧ Blk u b7 30 ([.slice q6 m6.length k6]) ∧ Ext No w u) ?_ ?_
   ·refine zx4 ?_
    refine zq5 (zq0 (wl_p I_ok rfl (wl (st_ix I_ok rfl 73 rfl i rfl (by omega) (oo + i * 73) rfl (wl (st_ldN I_ok rfl ((hos i hi2).zq3 hX) (zq8 hoi1.i) ?_))))))
    have hRhK := hK.n
    have hRhIK := hIK.n
    refine wl (zj0 I_ok rfl fun b12 w10 hn12 hb12 hE10 => ?_)
    have ne2_12 : b2 ≠ b12 := Nat.ne_of_lt (Nat.lt_of_lt_of_le hb2.lt hn12)
    have ne5_12 : b5 ≠ b12 := Nat.ne_of_lt (Nat.lt_of_lt_of_le hb5.lt hn12)
    have ne7_12 : b7 ≠ b12 := Nat.ne_of_lt (Nat.lt_of_lt_of_le hb7.lt hn12)
    have fr12 := Nat.le_trans hX.size hn12
    have hb2 := hb2.zq3 hE10
    have hb5 := hb5.zq3 hE10
    have hb7 := hb7.zq3 hE10
    have hK := hK.no hE10
    have hIK := hIK.no hE10
    have hX := hX.zq4 hE10
    have fhK12 := Nat.le_trans hRhK hn12
    have fhIK12 := Nat.le_trans hRhIK hn12
    refine wl_p I_ok rfl (wl (zj5 (l' := objX os[i]) I_ok hb12 rfl rfl (zq8 hoi1.i) (by rw [zq8 hoi1.i]; rfl) OneC.h fun w11 hb12 hE11 hs11 => ?_))
    have hb2 := hb2.ext1 hE11 ne2_12
    have hb5 := hb5.ext1 hE11 ne5_12
    have hb7 := hb7.ext1 hE11 ne7_12
    have hK := hK.one hE11 fhK12
    have hIK := hIK.one hE11 fhIK12
    have hX := hX.zx1 hE11 fr12
    refine zq2 (zq1 (zq5 (zq5 (zq0 (wl_p I_ok rfl (zq2 (zq1 (c_if rfl (fun hc => ?_) (fun hc => ?_)))))))))
    ·have h8 : i = 8 := by omega
     refine c_exit ?_
     exact zx3 (f_blockE' rfl (zx3 (zx3 (zz2 (zz5 (⟨L8, q8, k8⟩, ⟨L9, q9, k9⟩) rfl ⟨⟨hIK.now.1.done (.inr h8), hIK.now.2.done (.inr h8), hK⟩, hb2, hb5, hb7, hX⟩)))))
    ·have h8 : i < 8 := by omega
     obtain ⟨hI8, hI9⟩ := hIK.now
     have hq8 := hI8.own
     have hq9 := hI9.own
     have nq8 : ¬ OwnB q8 b12 := fun e => by have := hq8M b12 e; omega
     have nq9 : ¬ OwnB q9 b12 := fun e => by have := hq9M b12 e; omega
     refine zx7 (zq1 (zq5 ?_))
     refine c_draw rfl 12 [(0, true), (1, true), (5, true), (6, true), (2, false), (3, false), (4, false), (7, false), (8, false), (9, false), (10, true), (11, true)] [] ((fun y => OwnB q8 y ∨ OwnB q9 y)) (by kernel_rfl) fun w12 hE12 hs12 => ?_
     have hd12 := hb12
     have hb2 := hb2.zq3 hE12
     have hb5 := hb5.zq3 hE12
     have hb7 := hb7.zq3 hE12
     have hK := hK.no hE12
     have hI8 := hI8.zq3 hE12
     have hI9 := hI9.zq3 hE12
     have hq8 := hq8.ext hE12 fun _ _ => id
     have hX := hX.zq4 hE12
     have hC : Ext ((fun y => OwnB q8 y ∨ OwnB q9 y)) _ w12 := hE12.no
     refine wd_k I_ok 1 rfl (wd_ldN I_ok rfl rfl (fun w' hw' => ((hd12.ext hw' (fun e => e.elim nq8 nq9)).seg)) (zq8 hoi1.i) ?_)
     refine wd_k I_ok 1 rfl (wd_ldN I_ok rfl rfl (fun w' hw' => ((hd12.ext hw' (fun e => e.elim nq8 nq9)).seg)) (zq8 hoi1.i) ?_)
     have hXc1 := hX.size
     refine wd_l rfl (zx2 Tryz.call8 rfl rfl rfl rfl rfl rfl (object8_calls w12 hoi1.i (hoi1.l.zq3 hX) hoi1.c) fun v13 w13 hr13 => ⟨(by obtain ⟨a1, rfl, hN1, hE13⟩ := hr13; exact hC.zq4 hE13), ?_⟩)
     obtain ⟨a1, rfl, hN1, hE13⟩ := hr13
     have hb2 := hb2.zq3 hE13
     have hb5 := hb5.zq3 hE13
     have hb7 := hb7.zq3 hE13
     have hK := hK.no hE13
     have hI8 := hI8.zq3 hE13
     have hI9 := hI9.zq3 hE13
     have hq8 := hq8.ext hE13 fun _ _ => id
     have hX := hX.zq4 hE13
     have hC := hC.zq4 hE13
     refine wd_l rfl (st_bs I_ok rfl 73 rfl objZ_c.symm (by rw [zq8 objZ_in]) (by decide) (by decide) ⟨⟨by rw [zz3]; exact zq8 (objO8_in hoi1.i), by decide⟩, trivial⟩ (l' := objC (objO8 os[i].1) a1) (one_obj (objO8_in hoi1.i)) fun b39 w14 hn39 hb39 hE14 hs14 => ⟨hC.zq4 hE14, ?_⟩)
     have hb2 := hb2.zq3 hE14
     have hb5 := hb5.zq3 hE14
     have hb7 := hb7.zq3 hE14
     have hK := hK.no hE14
     have hI8 := hI8.zq3 hE14
     have hI9 := hI9.zq3 hE14
     have hq8 := hq8.ext hE14 fun _ _ => id
     have hN1 := hN1.zq3 hE14
     have hX := hX.zq4 hE14
     have hC := hC.zq4 hE14
     have hX1 := hX
     have hKn := hK.n
     have hs39 : Sl w14 (some ⟨b39, 0, none⟩) 1 73 (objC (objO8 os[i].1) a1) := ⟨zq8 (objO8_in hoi1.i), .inr ⟨b39, 0, rfl, hb39.seg⟩⟩
     have hq9o := hI9.own
     refine wd_l rfl (zj8 I_ok rfl 73 192 rfl rfl rfl (by decide) hq8 (Src.slice (m := 1) hs39 OneC.h) (by dsimp only [maxLen]; omega) (by dsimp only; omega) fun p15 c15 w15 ho15 hE15 hB15 => ⟨hC.then (hE15.mono fun _ _ e => .inl e), ?_⟩)
     have hC := hC.then (hE15.mono fun _ _ e => .inl e)
     dsimp only at ho15 hE15 hB15 ⊢
     have hX := hX1.trans hE15 fun y hy hF => by have := hI8.nw y hF; omega
     have hb2 := hb2.zx0 hq8 hE15 (by decide)
     have hb5 := hb5.zx0 hq8 hE15 (by decide)
     have hb7 := hb7.zx0 hq8 hE15 (by decide)
     have hK := hK.ext hE15 fun x _ hx => hI8.nw x hx
     obtain ⟨qa, ka, e1, e2, hoa⟩ : ∃ q2 k2, q2 = p15 ∧ k2 = c15 ∧ Own w15 q2 (L8.length + 1) k2 43 73 (L8.flatMap objX ++ objC (objO8 os[i].1) a1) := ⟨_, _, rfl, rfl, ho15⟩
     rw [← e1] at hB15
     rw [← e1, ← e2]
     have hIa := hI8.app hi2 h8 hN1 hXc1 hE15 hoa hB15 hKn
     have hI9 := hI9.zx0 hq8 hE15 (fun b k k2 => hdj b k2 k)
     have hq9 := hI9.own
     have hdj2 : ∀ b, OwnB qa b → ¬ OwnB q9 b := fun b k k2 => (hB15 b k).elim (fun h => hdj b h k2) fun h => by have := hq9o.lt k2; omega
     have hNM1 := hKn
     have hXc2 := hX.size
     refine wd_l rfl (zx2 Tryz.call8 rfl rfl rfl rfl rfl rfl (object8_calls w15 hoi1.i (hoi1.l.zq3 hX) hoi1.c) fun v16 w16 hr16 => ⟨(by obtain ⟨a2, rfl, hN2, hE16⟩ := hr16; exact hC.zq4 hE16), ?_⟩)
     obtain ⟨a2, rfl, hN2, hE16⟩ := hr16
     have hb2 := hb2.zq3 hE16
     have hb5 := hb5.zq3 hE16
     have hb7 := hb7.zq3 hE16
     have hK := hK.no hE16
     have hI9 := hI9.zq3 hE16
     have hq9 := hq9.ext hE16 fun _ _ => id
     have hIa := hIa.zq3 hE16
     have hX := hX.zq4 hE16
     have hC := hC.zq4 hE16
     refine wd_l rfl (st_bs I_ok rfl 73 rfl objZ_c.symm (by rw [zq8 objZ_in]) (by decide) (by decide) ⟨⟨by rw [zz3]; exact zq8 (objO8_in hoi1.i), by decide⟩, trivial⟩ (l' := objC (objO8 os[i].1) a2) (one_obj (objO8_in hoi1.i)) fun b44 w17 hn44 hb44 hE17 hs17 => ⟨hC.zq4 hE17, ?_⟩)
     have hb2 := hb2.zq3 hE17
     have hb5 := hb5.zq3 hE17
     have hb7 := hb7.zq3 hE17
     have hK := hK.no hE17
     have hI9 := hI9.zq3 hE17
     have hq9 := hq9.ext hE17 fun _ _ => id
     have hIa := hIa.zq3 hE17
     have hN2 := hN2.zq3 hE17
     have hX := hX.zq4 hE17
     have hC := hC.zq4 hE17
     have hX1 := hX
     have hKn := hK.n
     have hs44 : Sl w17 (some ⟨b44, 0, none⟩) 1 73 (objC (objO8 os[i].1) a2) := ⟨zq8 (objO8_in hoi1.i), .inr ⟨b44, 0, rfl, hb44.seg⟩⟩
     have hIa0 := hIa
     refine wd_l rfl (zj8 I_ok rfl 73 192 rfl rfl rfl (by decide) hq9 (Src.slice (m := 1) hs44 OneC.h) (by dsimp only [maxLen]; omega) (by dsimp only; omega) fun p18 c18 w18 ho18 hE18 hB18 => ⟨hC.then (hE18.mono fun _ _ e => .inr e), ?_⟩)
     dsimp only at ho18 hE18 hB18 ⊢
     have hX := hX1.trans hE18 fun y hy hF => by have := hI9.nw y hF; omega
     have hb2 := hb2.zx0 hq9 hE18 (by decide)
     have hb5 := hb5.zx0 hq9 hE18 (by decide)
     have hb7 := hb7.zx0 hq9 hE18 (by decide)
     have hK := hK.ext hE18 fun x _ hx => hI9.nw x hx
     obtain ⟨qb, kb, e1, e2, hob⟩ : ∃ q2 k2, q2 = p18 ∧ k2 = c18 ∧ Own w18 q2 (L9.length + 1) k2 43 73 (L9.flatMap objX ++ objC (objO8 os[i].1) a2) := ⟨_, _, rfl, rfl, ho18⟩
     rw [← e1] at hB18
     rw [← e1, ← e2]
     have hIb := hI9.app hi2 h8 hN2 hXc2 hE18 hob hB18 hKn
     have hdj3 : ∀ b, OwnB qa b → ¬ OwnB qb b := fun b k k2 => (hB18 b k2).elim (fun h => hdj2 b k h) fun h => by have := hIa0.own.lt k; omega
     have hIa := hIa.zx0 hq9 hE18 hdj2
     rw [show L8.length + 1 = (L8 ++ [((objO8 os[i].1, a1) : ObjX)]).length from by rw [List.length_append]; rfl, show L9.length + 1 = (L9 ++ [((objO8 os[i].1, a2) : ObjX)]).length from by rw [List.length_append]; rfl]
     have hil : i < (L8 ++ [((objO8 os[i].1, a1) : ObjX)]).length := by rw [List.length_append]; show i < L8.length + 1; omega
     obtain ⟨ob8, oo8, hq88, hqr8⟩ := hIa.own.sl.rowAll (objX_len (hIa.ins hoI)) (by rw [List.length_append]; show 0 < L8.length + 1; omega)
     have hXs := hqr8 i hil
     rw [snoc_get hl8e hil] at hXs
     refine wd_k I_ok 2 rfl (wd_sw (zj2 (zq1 (zq0 (wl_p I_ok rfl (wl_case 47 rfl (fun hg => ?_) (fun hg => ?_)))))))
     ·refine zz6 I_ok 2 rfl ?_
      refine wl_put 48 rfl (v' := .slice (some ⟨ob8, oo8, none⟩) (L8 ++ [((objO8 os[i].1, a1) : ObjX)]).length ka) (by rw [hq88]) (wl (st_ix I_ok rfl 73 rfl i rfl hil (oo8 + i * 73) rfl (wl (st_ldN I_ok rfl hXs (zq8 (objO8_in hoi1.i)) ?_))))
      refine wl (zx2 Tryz.call9 rfl rfl rfl rfl rfl rfl (right6_calls w18 (objO8_in hoi1.i) (hIa.ls (objO8 os[i].1, a1) (by simp)) (objO8_sh _)) fun v19 w19 hr19 => ?_)
      obtain ⟨rfl, hE19⟩ := hr19
      have hb2 := hb2.zq3 hE19
      have hb5 := hb5.zq3 hE19
      have hb7 := hb7.zq3 hE19
      have hK := hK.no hE19
      have hIa := hIa.zq3 hE19
      have hIb := hIb.zq3 hE19
      have hX := hX.zq4 hE19
      refine wl_p I_ok rfl (zq2 ?_)
      exact zx6 (zz5 (⟨(L8 ++ [((objO8 os[i].1, a1) : ObjX)]), qa, ka⟩, ⟨(L9 ++ [((objO8 os[i].1, a2) : ObjX)]), qb, kb⟩) (by dsimp only; rw [okAll_t hg]; rfl) ⟨⟨h8, hIa, hIb, hdj3, hK⟩, hb2, hb5, hb7, hX⟩)
     ·refine zz6 I_ok 7 rfl ?_
      refine zq2 ?_
      exact zx6 (zz5 (⟨(L8 ++ [((objO8 os[i].1, a1) : ObjX)]), qa, ka⟩, ⟨(L9 ++ [((objO8 os[i].1, a2) : ObjX)]), qb, kb⟩) (by dsimp only; rw [okAll_f hg]; rfl) ⟨⟨h8, hIa, hIb, hdj3, hK⟩, hb2, hb5, hb7, hX⟩)
   rintro ⟨⟨La, qa, ka⟩, ⟨Lb, qb, kb⟩⟩ w20 ⟨⟨h8, hI8, hI9, hdj, hK⟩, hb2, hb5, hb7, hX⟩
   try dsimp only
   dsimp only at h8 hI8 hI9 hdj hK
   refine zq0 (wl_p I_ok rfl ?_)
   rw [IntWalk.i64_in _ (by omega)]
   refine zq2 (fin_put 27 rfl (v' := .slice po os.length co) (by rw [hp1]) ?_)
   exact zj7 (i + 1, ⟨La, qa, ka⟩, ⟨Lb, qb, kb⟩) rfl ⟨⟨⟨hi2, h8⟩, hI8, hI9, hdj, hK⟩, hb2, hb5, hb7, hX⟩ (by first | omega | (dsimp only; omega))
  ·have hend : i = os.length := by omega
   refine c_exit ?_
   exact zx3 (zx3 (zz2 (zz5 (⟨L8, q8, k8⟩, ⟨L9, q9, k9⟩) rfl ⟨⟨hI8.done (.inl ⟨hend, hi8⟩), hI9.done (.inl ⟨hend, hi8⟩), hK⟩, hb2, hb5, hb7, hX⟩)))
 rintro ⟨⟨L8, q8, k8⟩, ⟨L9, q9, k9⟩⟩ w21 ⟨⟨hI8, hI9, hK⟩, hb2, hb5, hb7, hX⟩
 try dsimp only
 dsimp only at hI8 hI9 hK
 have hsm := hI8.same hI9
 have hIns8 := hI8.ins hoI
 have hIns9 := hI9.ins hoI
 have hl8 := hI8.len
 have hl9 := hI9.len
 have hlk8 := hI8.lk
 have hlk9 := hI9.lk
 have hl89 : L9.length = L8.length := by have := congrArg List.length hsm; rw [List.length_map, List.length_map] at this; exact this
 have hIK : KS w21.heap.size w21 (fun u => InQ w u N os (8) q8 k8 L8 ∧ InQ w u N os (8) q9 k9 L9) := KS.mk0 fun u hE => ⟨hI8.zq3 hE, hI9.zq3 hE⟩
 obtain ⟨M, hM⟩ : ∃ N, N = w21.heap.size := ⟨_, rfl⟩
 rw [← hM] at hIK
 have hNM : N ≤ M := by rw [hM]; exact hK.n
 refine zq5 (zq0 (wl (zj4 I_ok hb5 rfl rfl (wl_p I_ok rfl ?_))))
 obtain ⟨M2, hM2⟩ : ∃ N, N = w21.heap.size := ⟨_, rfl⟩
 have hNM2 : N ≤ M2 := by rw [hM2]; exact hK.n
 have hMM2 : M ≤ M2 := by rw [hM2]; exact hIK.n
 refine wl (zx2 Tryz.call10 rfl rfl rfl rfl rfl rfl (putDag_calls w21 hK.now.1.1 hIK.now.2.own.sl hIns9 hIK.now.2.shs hIK.now.2.ls (by omega) (by omega) (hr.zq3 hX)) fun v22 w22 hr22 => ?_)
 obtain ⟨q4, k4, m4, rfl, hp4, hp4b, hh4, hn4, hq4, hap4, ho4, hE22⟩ := hr22
 have hb2 := hb2.zq3 hE22
 have hb5 := hb5.zq3 hE22
 have hb7 := hb7.zq3 hE22
 have hK := hK.no hE22
 have hIK := hIK.no hE22
 have hX := hX.zq4 hE22
 have hge4 : ∀ x ∈ m4, ∀ b, ObjF x.a b → M2 ≤ b := fun x hx b hb => by rw [hM2]; exact (hn4 x hx).l.ge b hb
 have hm4i : ∀ x ∈ m4, x.id.length = 32 ∧ ObjIn x.o ∧ Short x.o := fun x hx => ⟨(hn4 x hx).id, (hn4 x hx).o, (hn4 x hx).sh⟩
 have hm4c : ∀ x ∈ m4, (zv0 x).length = 105 := fun x hx => heldC_len (hm4i x hx).1 (hm4i x hx).2.1
 have hm4n := hh4.len
 have hK2 : KS w22.heap.size w22 (fun u => HpIn u q4 m4 ∧ (∀ x ∈ m4, HX u x) ∧ Own u q4 m4.length k4 52 105 (m4.flatMap zv0)) := KS.mk0 fun u hE => ⟨hh4.zq3 hE, fun x hx => ((hn4 x hx).hx).zq3 hE, ho4.ext hE fun _ _ => id⟩
 obtain ⟨N2, hN2⟩ : ∃ N, N = w22.heap.size := ⟨_, rfl⟩
 rw [← hN2] at hK2
 refine wl_p I_ok rfl ?_
 have hRhK := hK.n
 have hRhIK := hIK.n
 have hRhK2 := hK2.n
 refine wl (zj0 I_ok rfl fun b13 w23 hn13 hb13 hE23 => ?_)
 have ne2_13 : b2 ≠ b13 := Nat.ne_of_lt (Nat.lt_of_lt_of_le hb2.lt hn13)
 have ne5_13 : b5 ≠ b13 := Nat.ne_of_lt (Nat.lt_of_lt_of_le hb5.lt hn13)
 have ne7_13 : b7 ≠ b13 := Nat.ne_of_lt (Nat.lt_of_lt_of_le hb7.lt hn13)
 have fr13 := Nat.le_trans hX.size hn13
 have hb2 := hb2.zq3 hE23
 have hb5 := hb5.zq3 hE23
 have hb7 := hb7.zq3 hE23
 have hK := hK.no hE23
 have hIK := hIK.no hE23
 have hK2 := hK2.no hE23
 have hX := hX.zq4 hE23
 have fhK13 := Nat.le_trans hRhK hn13
 have fhIK13 := Nat.le_trans hRhIK hn13
 have fhK213 := Nat.le_trans hRhK2 hn13
 refine wl (zj5 (l' := [.slice q4 m4.length k4]) I_ok hb13 rfl rfl rfl rfl OneC.h fun w24 hb13 hE24 hs24 => ?_)
 have hb2 := hb2.ext1 hE24 ne2_13
 have hb5 := hb5.ext1 hE24 ne5_13
 have hb7 := hb7.ext1 hE24 ne7_13
 have hK := hK.one hE24 fhK13
 have hIK := hIK.one hE24 fhIK13
 have hK2 := hK2.one hE24 fhK213
 have hX := hX.zx1 hE24 fr13
 refine wl_p I_ok rfl (zq2 (zq1 (zq5 (zq5 (zq0 (wl (zj4 I_ok hb5 rfl rfl (wl (zj4 I_ok hb7 rfl rfl (wl (zx2 Tryz.call11 rfl rfl rfl rfl rfl rfl (sameHeap_calls w24 hK.now.1.1 hK.now.2) fun v25 w25 hr25 => ?_)))))))))))
 obtain ⟨rfl, hE25⟩ := hr25
 have hb2 := hb2.zq3 hE25
 have hb5 := hb5.zq3 hE25
 have hb7 := hb7.zq3 hE25
 have hb13 := hb13.zq3 hE25
 have hK := hK.no hE25
 have hIK := hIK.no hE25
 have hK2 := hK2.no hE25
 have hX := hX.zq4 hE25
 rw [show decide (toHp m = toHp m6) = true from decide_eq_true hcp.symm]
 refine wl_p I_ok rfl (zq2 (zq1 (c_condF rfl (zx7 (zq1 (zq5 (zq5 (zq0 (wl_p I_ok rfl (zq2 (zq1 (c_cond rfl (fun hc => ?_) (fun hc => ?_)))))))))))))
 ·have hw : ¬ (∀ x ∈ L8, ObjOk x.1) := by simpa [okAll] using hc
  have hE9 : putE L9 = 160 := if_neg fun k => hw ((all_fst hsm).1 k)
  have hm40 : m4 = [] := hp4b (by rw [hE9]; decide)
  rw [hE9]
  refine c_cutK (α := Unit) [] rfl (fun z => [(4, .bool true)]) (fun z u => (True) ∧ Blk u b2 25 ([.slice ps steps.length cs, .slice pt turns.length ct]) ∧ Blk u b5 30 ([.slice q m.length k]) ∧ Blk u b7 30 ([.slice q6 m6.length k6]) ∧ Blk u b13 30 ([.slice q4 m4.length k4]) ∧ Ext No w u) ?_ ?_
  ·refine zq0 ?_
   refine wl_p I_ok rfl (zj3 69 rfl (fun hg => ?_) (fun hg => ?_))
   ·refine zz6 I_ok 1 rfl ?_
    refine wl (st_ldb I_ok hb13 rfl rfl (zz6 I_ok 4 rfl (zq2 ?_)))
    rw [show decide ((m4.length : Int) = 0) = true from decide_eq_true (by rw [hm40]; rfl)]
    exact zz5 (()) rfl ⟨trivial, hb2, hb5, hb7, hb13, hX⟩
   ·exact absurd rfl hg
  rintro z w26 ⟨_, hb2, hb5, hb7, hb13, hX⟩
  refine zz8 (zx5 (zz0 rfl rfl ?_))
  exact ⟨rfl, hX⟩
 ·have hw : (∀ x ∈ L8, ObjOk x.1) := by simpa [okAll] using hc
  have hE9 : putE L9 = 0 := if_pos ((all_fst hsm).2 hw)
  have hp4 := hp4 hE9
  rw [hE9]
  have hOin : ObjsIn w25 q8 L8 := ⟨hIK.now.1.own.sl, hIns8, hIK.now.1.shs, hIK.now.1.ls, fun x hx => bytes_of (hw x hx).1⟩
  refine zx7 (zq1 (zq5 ?_))
  refine c_cutK (α := Unit) [5, 7, 8, 9, 13] rfl (fun z => [(84, .bool false)]) (fun z u => (KS N u (fun u => (HpIn u q m ∧ Sl u qi ids.length 32 (ids.flatMap zq6)) ∧ HpIn u q6 m6) ∧ KS M u (fun u => InQ w u N os (8) q8 k8 L8 ∧ InQ w u N os (8) q9 k9 L9) ∧ KS N2 u (fun u => HpIn u q4 m4 ∧ (∀ x ∈ m4, HX u x) ∧ Own u q4 m4.length k4 52 105 (m4.flatMap zv0))) ∧ Blk u b2 25 ([.slice ps steps.length cs, .slice pt turns.length ct]) ∧ Blk u b5 30 ([.slice q m.length k]) ∧ Blk u b7 30 ([.slice q6 m6.length k6]) ∧ Blk u b13 30 ([.slice q4 m4.length k4]) ∧ Ext No w u) ?_ ?_
  ·refine c_draw rfl 10 [(0, true), (1, true), (2, true), (3, true), (4, true), (5, true), (6, false), (7, false), (8, true), (9, true)] [] (No) (by kernel_rfl) fun w27 hE27 hs27 => ?_
   have hd7 := hb7
   have hd13 := hb13
   have hb2 := hb2.zq3 hE27
   have hb5 := hb5.zq3 hE27
   have hb7 := hb7.zq3 hE27
   have hb13 := hb13.zq3 hE27
   have hK := hK.no hE27
   have hIK := hIK.no hE27
   have hK2 := hK2.no hE27
   have hX := hX.zq4 hE27
   have hC : Ext (No) _ w27 := hE27.no
   refine wd_k I_ok 3 rfl (wd_caseD 77 rfl (fun hg => ?_) (fun hg => ?_))
   ·exact absurd rfl hg
   ·refine wd_ldN I_ok rfl rfl (fun w' hw' => (hd13.zq3 hw').seg) rfl ?_
    refine wd_ldN I_ok rfl rfl (fun w' hw' => (hd7.zq3 hw').seg) rfl ?_
    refine wd_k I_ok 1 rfl ?_
    refine wd_l rfl (zx2 Tryz.call12 rfl rfl rfl rfl rfl rfl (put8_calls w27 hK.now.2 ⟨hIK.now.1.own.sl, hIns8, hIK.now.1.shs, hIK.now.1.ls, fun x hx => bytes_of (hw x hx).1⟩ (by omega) (by omega)) fun v28 w28 hr28 => ⟨(by obtain ⟨q82, k82, rfl, ho82, hn82, hh82, hE28⟩ := hr28; exact hC.zq4 hE28), ?_⟩)
    obtain ⟨q82, k82, rfl, ho82, hn82, hh82, hE28⟩ := hr28
    have hb2 := hb2.zq3 hE28
    have hb5 := hb5.zq3 hE28
    have hb7 := hb7.zq3 hE28
    have hb13 := hb13.zq3 hE28
    have hK := hK.no hE28
    have hIK := hIK.no hE28
    have hK2 := hK2.no hE28
    have hX := hX.zq4 hE28
    have hC := hC.zq4 hE28
    refine wd_l rfl (zx2 Tryz.call11 rfl rfl rfl rfl rfl rfl (sameHeap_calls w28 hK2.now.1 hh82) fun v29 w29 hr29 => ⟨(by obtain ⟨rfl, hE29⟩ := hr29; exact hC.zq4 hE29), ?_⟩)
    obtain ⟨rfl, hE29⟩ := hr29
    have hb2 := hb2.zq3 hE29
    have hb5 := hb5.zq3 hE29
    have hb7 := hb7.zq3 hE29
    have hb13 := hb13.zq3 hE29
    have hK := hK.no hE29
    have hIK := hIK.no hE29
    have hK2 := hK2.no hE29
    have hX := hX.zq4 hE29
    rw [show decide (toHp m4 = toHp (putW m6 L8)) = true from decide_eq_true (by rw [hp4, toHp_putW, hcp, hsm])]
    refine wd_k I_ok 2 rfl (wd_sw (zj2 ?_))
    exact zz5 (()) rfl ⟨⟨hK, hIK, hK2⟩, hb2, hb5, hb7, hb13, hX⟩
  rintro z w30 ⟨⟨hK, hIK, hK2⟩, hb2, hb5, hb7, hb13, hX⟩
  refine c_condF rfl (zx7 (zq1 (zq5 (zq5 (zq0 (wl_p I_ok rfl (wl (st_ldb I_ok hb13 rfl rfl (wl_p I_ok rfl (zq2 (zq1 (zx4 ?_))))))))))))
  refine zv1 (α := Nat) [5, 7, 8, 9, 86, 87] rfl (fun z => [(88, .int .i64 (z : Int))]) (fun z u => (z ≤ m4.length ∧ KS N u (fun u => (HpIn u q m ∧ Sl u qi ids.length 32 (ids.flatMap zq6)) ∧ HpIn u q6 m6) ∧ KS M u (fun u => InQ w u N os (8) q8 k8 L8 ∧ InQ w u N os (8) q9 k9 L9) ∧ (∀ x ∈ m4.drop z, HX u x) ∧ Own u q4 m4.length k4 52 105 (m4.flatMap zv0)) ∧ Blk u b2 25 ([.slice ps steps.length cs, .slice pt turns.length ct]) ∧ Blk u b5 30 ([.slice q m.length k]) ∧ Blk u b7 30 ([.slice q6 m6.length k6]) ∧ Blk u b13 30 ([.slice q4 m4.length k4]) ∧ Ext No w u) (fun z u => m4.length - z) (0) rfl ⟨⟨Nat.zero_le _, hK, hIK, fun x hx => hK2.now.2.1 x (by simpa using hx), hK2.now.2.2⟩, hb2, hb5, hb7, hb13, hX⟩ ?_
  rintro j w31 ⟨⟨hj, hK, hIK, hHX, ho4⟩, hb2, hb5, hb7, hb13, hX⟩
  refine zq5 (zq0 (wl_p I_ok rfl (zq2 (zq1 (zq5 (c_if rfl (fun hc => ?_) (fun hc => ?_)))))))
  ·have hj2 : j < m4.length := by omega
   obtain ⟨nb, no, hnq, hnr⟩ := ho4.sl.rowAll hm4c (by omega)
   have hmi := hm4i _ (List.getElem_mem hj2)
   have hmg := hge4 _ (List.getElem_mem hj2)
   have hJ : KS w31.heap.size w31 (fun u => (∀ x ∈ m4.drop j, HX u x) ∧ Own u q4 m4.length k4 52 105 (m4.flatMap zv0)) := KS.mk0 fun u hE => ⟨fun x hx => (hHX x hx).zq3 hE, ho4.ext hE fun _ _ => id⟩
   obtain ⟨N3, hN3⟩ : ∃ N, N = w31.heap.size := ⟨_, rfl⟩
   rw [← hN3] at hJ
   refine wc_put 86 rfl (v' := .slice (some ⟨nb, no, none⟩) m4.length k4) (by rw [hnq]) (zx7 (zq1 (zq5 (zx4 (zq5 (zq0 (wl (st_ix I_ok rfl 105 rfl j rfl (by omega) (no + j * 105) rfl ?_))))))))
   refine wl (st_ldN I_ok rfl (hnr j hj2) (hm4c _ (List.getElem_mem hj2)) ?_)
   have hRhK := hK.n
   have hRhIK := hIK.n
   have hRhJ := hJ.n
   refine wl (zj0 I_ok rfl fun b16 w32 hn16 hb16 hE32 => ?_)
   have ne2_16 : b2 ≠ b16 := Nat.ne_of_lt (Nat.lt_of_lt_of_le hb2.lt hn16)
   have ne5_16 : b5 ≠ b16 := Nat.ne_of_lt (Nat.lt_of_lt_of_le hb5.lt hn16)
   have ne7_16 : b7 ≠ b16 := Nat.ne_of_lt (Nat.lt_of_lt_of_le hb7.lt hn16)
   have ne13_16 : b13 ≠ b16 := Nat.ne_of_lt (Nat.lt_of_lt_of_le hb13.lt hn16)
   have fr16 := Nat.le_trans hX.size hn16
   have hb2 := hb2.zq3 hE32
   have hb5 := hb5.zq3 hE32
   have hb7 := hb7.zq3 hE32
   have hb13 := hb13.zq3 hE32
   have hK := hK.no hE32
   have hIK := hIK.no hE32
   have hJ := hJ.no hE32
   have hX := hX.zq4 hE32
   have fhK16 := Nat.le_trans hRhK hn16
   have fhIK16 := Nat.le_trans hRhIK hn16
   have fhJ16 := Nat.le_trans hRhJ hn16
   refine wl (zj5 (l' := zv0 m4[j]) I_ok hb16 rfl rfl (hm4c _ (List.getElem_mem hj2)) (by rw [hm4c _ (List.getElem_mem hj2)]; rfl) OneC.h fun w33 hb16 hE33 hs33 => ?_)
   have hb2 := hb2.ext1 hE33 ne2_16
   have hb5 := hb5.ext1 hE33 ne5_16
   have hb7 := hb7.ext1 hE33 ne7_16
   have hb13 := hb13.ext1 hE33 ne13_16
   have hK := hK.one hE33 fhK16
   have hIK := hIK.one hE33 fhIK16
   have hJ := hJ.one hE33 fhJ16
   have hX := hX.zx1 hE33 fr16
   refine zq2 (zq1 (zq0 (wl_p I_ok rfl (wl (st_ldN I_ok rfl (held_obj hb16.seg hmi.1) (zq8 hmi.2.1) ?_)))))
   obtain ⟨hHX, ho4⟩ := hJ.now
   have hXj : HX w33 m4[j] := hHX _ (by rw [List.drop_eq_getElem_cons hj2]; exact List.mem_cons_self)
   refine wl (zx2 Tryz.call13 rfl rfl rfl rfl rfl rfl (spoil_calls w33 hmi.2.1 hXj.1 hXj.2.1 hXj.2.2 hmi.2.2.leaves hmi.2.2.parents hmi.2.2.rows) fun v34 w34 hr34 => ?_)
   obtain ⟨rfl, hE34⟩ := hr34
   have hb2 := hb2.extX hXj hE34 (by decide) (by decide) (by decide)
   have hb5 := hb5.extX hXj hE34 (by decide) (by decide) (by decide)
   have hb7 := hb7.extX hXj hE34 (by decide) (by decide) (by decide)
   have hb13 := hb13.extX hXj hE34 (by decide) (by decide) (by decide)
   have hb16 := hb16.extX hXj hE34 (by decide) (by decide) (by decide)
   have hX := hX.trans hE34 (fun y hy k => by have := hmg y k; omega)
   have hHX2 : ∀ x ∈ m4.drop (j + 1), HX w34 x := fun x hx => (hHX x (by rw [List.drop_eq_getElem_cons hj2]; exact List.mem_cons_of_mem _ hx)).ext hE34 (hap4.rest hj2 x hx)
   have ho42 := own_extX ho4 hXj hE34 (by decide) (by decide) (by decide)
   have hK := hK.ext hE34 (fun x _ k => Nat.le_trans hNM2 (hmg x k))
   have hIK := hIK.ext hE34 (fun x _ k => Nat.le_trans hMM2 (hmg x k))
   refine zq2 (zx6 (zq1 (zq0 (wl_p I_ok rfl ?_))))
   rw [IntWalk.i64_in _ (by omega)]
   refine zq2 (fin_put 86 rfl (v' := .slice q4 m4.length k4) (by rw [hnq]) ?_)
   exact zj7 (j + 1) rfl ⟨⟨hj2, hK, hIK, hHX2, ho42⟩, hb2, hb5, hb7, hb13, hX⟩ (by first | omega | (dsimp only; omega))
  ·refine c_exit ?_
   refine zx3 (zx3 (zz2 (zq1 (zq5 (zq5 (zq0 (wl_p I_ok rfl (zq2 (zq1 (zx4 ?_))))))))))
   refine zv1 (α := Nat) [5, 7, 8, 9, 97] rfl (fun z => [(98, .int .i64 (z : Int))]) (fun z u => (z ≤ L9.length ∧ KS N u (fun u => (HpIn u q m ∧ Sl u qi ids.length 32 (ids.flatMap zq6)) ∧ HpIn u q6 m6) ∧ KS M u (fun u => InQ w u N os (8) q8 k8 L8 ∧ InQ w u N os (8) q9 k9 L9)) ∧ Blk u b2 25 ([.slice ps steps.length cs, .slice pt turns.length ct]) ∧ Blk u b5 30 ([.slice q m.length k]) ∧ Blk u b7 30 ([.slice q6 m6.length k6]) ∧ Blk u b13 30 ([.slice q4 m4.length k4]) ∧ Ext No w u) (fun z u => L9.length - z) (0) rfl ⟨⟨Nat.zero_le _, hK, hIK⟩, hb2, hb5, hb7, hb13, hX⟩ ?_
   rintro j w35 ⟨⟨hj, hK, hIK⟩, hb2, hb5, hb7, hb13, hX⟩
   refine zq5 (zq0 (wl_p I_ok rfl (zq2 (zq1 (zq5 (c_if rfl (fun hc => ?_) (fun hc => ?_)))))))
   ·have hj9 : j < L9.length := by omega
    have hj8 : j < L8.length := by omega
    obtain ⟨nb, no, hnq, hnr⟩ := hIK.now.2.own.sl.rowAll (objX_len hIns9) (by omega)
    obtain ⟨pb, po8, hpq, hpr⟩ := hIK.now.1.own.sl.rowAll (objX_len hIns8) (by omega)
    have hi9 := hIns9 _ (List.getElem_mem hj9)
    have hi8 := hIns8 _ (List.getElem_mem hj8)
    refine wc_put 9 rfl (v' := .slice (some ⟨nb, no, none⟩) L9.length k9) (by rw [hnq]) (wc_put 8 rfl (v' := .slice (some ⟨pb, po8, none⟩) L8.length k8) (by rw [hpq]) (zx7 (zq1 (zq5 (zx4 (zq5 (zq0 (wl_p I_ok rfl ?_))))))))
    refine zq2 (zq1 (zq5 (c_draw rfl 10 [(0, true), (1, true), (2, true), (3, true), (4, true), (5, true), (6, true), (7, true), (8, false), (9, true)] [] (No) (by kernel_rfl) fun w36 hE36 hs36 => ?_)))
    have hb2 := hb2.zq3 hE36
    have hb5 := hb5.zq3 hE36
    have hb7 := hb7.zq3 hE36
    have hb13 := hb13.zq3 hE36
    have hK := hK.no hE36
    have hIK := hIK.no hE36
    have hX := hX.zq4 hE36
    have hC : Ext (No) _ w36 := hE36.no
    refine wd_k I_ok 2 rfl (wd_ix I_ok rfl rfl 73 rfl j rfl hj9 (no + j * 73) rfl (wd_ldN I_ok rfl rfl (fun w' hw' => ((hnr j hj9).zq3 hw')) (zq8 hi9) ?_))
    refine wd_k I_ok 2 rfl (wd_ix I_ok rfl rfl 73 rfl j rfl hj8 (po8 + j * 73) rfl (wd_ldN I_ok rfl rfl (fun w' hw' => ((hpr j hj8).zq3 hw')) (zq8 hi8) ?_))
    refine wd_l rfl (zx2 Tryz.call14 rfl rfl rfl rfl rfl rfl (same6_calls w36 hi9 hi8 (hIK.now.2.ls _ (List.getElem_mem hj9)) (hIK.now.1.ls _ (List.getElem_mem hj8)) (hIK.now.2.shs _ (List.getElem_mem hj9))) fun v37 w37 hr37 => ⟨(by obtain ⟨rfl, hE37⟩ := hr37; exact hC.zq4 hE37), ?_⟩)
    obtain ⟨rfl, hE37⟩ := hr37
    have hb2 := hb2.zq3 hE37
    have hb5 := hb5.zq3 hE37
    have hb7 := hb7.zq3 hE37
    have hb13 := hb13.zq3 hE37
    have hK := hK.no hE37
    have hIK := hIK.no hE37
    have hX := hX.zq4 hE37
    rw [show decide ((L9[j]).1 = (L8[j]).1) = true from decide_eq_true (fst_get hsm hj9 hj8)]
    refine wd_k I_ok 1 rfl (wd_sw (zj2 (zq1 (c_condF rfl (zx7 (zx6 (zq1 (zq0 (wl_p I_ok rfl ?_)))))))))
    rw [IntWalk.i64_in _ (by omega)]
    refine zq2 (fin_put 9 rfl (v' := .slice q9 L9.length k9) (by rw [hnq]) (fin_put 8 rfl (v' := .slice q8 L8.length k8) (by rw [hpq]) ?_))
    exact zj7 (j + 1) rfl ⟨⟨hj9, hK, hIK⟩, hb2, hb5, hb7, hb13, hX⟩ (by first | omega | (dsimp only; omega))
   ·refine c_exit ?_
    refine zx3 (zx3 (zz2 (zq1 (zq5 (zq0 (wl (zj4 I_ok hb5 rfl rfl (wl (zj4 I_ok hb7 rfl rfl (wl (zx2 Tryz.call11 rfl rfl rfl rfl rfl rfl (sameHeap_calls w35 hK.now.1.1 hK.now.2) fun v38 w38 hr38 => ?_)))))))))))
    obtain ⟨rfl, hE38⟩ := hr38
    have hX := hX.zq4 hE38
    rw [show decide (toHp m = toHp m6) = true from decide_eq_true hcp.symm]
    refine wl_p I_ok rfl (zq2 (zq1 (zz8 (zz0 rfl rfl ?_))))
    exact ⟨rfl, hX⟩
end Go.Proofs.YtoapldhadeoeiaaGreatDoor
namespace Go.Proofs.YtoapldhadeoeiaaGreatDoor
open Go.Vc Go.ChangeShapes Go.WideShapes Go.ChangeAt Go.RowKit Go

set_option maxRecDepth 100000 in
theorem puts_lifted (os : Os) (started : os.Started) (H : Type) (enc : TypeId × Value → H) :
  ReturnsInHanded {} Tryz.checked os 3 .any (fun w args => (Rows.dagPutsSpec.pre enc Tryz.prog Tryz.f3 [] false w args ∧ laidMetH Tryz.prog laidR w) ∧ sizedMet enc Tryz.prog Tryz.f3 (OpenSpec.ofChange Rows.dagPutsSpec) false w args)
   (Rows.dagPutsSpec.post enc Tryz.prog Tryz.f3 false true false false) := by
 refine returnsInHanded_of_change_and (C := Tryz.checked) (X := fun w _ => laidMetH Tryz.prog laidR w) (fun _ _ _ hh h => h.of_heap hh) own started (by kernel_rfl) Tryz.func3
  (ChangeSpec.witness_shaped (enc := enc) (C := Tryz.checked) (os := os) (X := fun w _ => laidMetH Tryz.prog laidR w) false (World.doorLaid Tryz.prog 400 os) #[.agg #[.slice none 0 0, .slice none 0 0], .slice none 0 0] 40 rfl (World.shaped_of_RefB (by kernel_rfl) (by kernel_rfl)) (by kernel_rfl) (by kernel_rfl) (by kernel_rfl) (door_met os _)) ?_
 intro W base args ds gs before hval0 hW _ _ hL _
 have hval : ∀ (j : Nat) t v, Tryz.f3.params[j]? = some t → args[j]? = some v → Value.okWide Tryz.prog W .any base t v := hval0
 have hW' := hW
 obtain ⟨p, q, hA0, hV, rfl, hfz, hnd⟩ := hW
 have hA : DataW.TrodAll enc Tryz.prog W 0 (fun _ => true) true Tryz.f3.params.toList args.toList ds p := hA0
 rw [Tryz.params3] at hA hval
 obtain ⟨v0, vs0, d0, ds0, p0, q0, hargs, rfl, rfl, h0, r0⟩ := trodAll_cons hA
 obtain ⟨v1, vs1, d1, ds1, p1, q1, rfl, rfl, rfl, h1, r1⟩ := trodAll_cons r0
 obtain ⟨rfl, rfl, rfl⟩ := trodAll_nil r1
 obtain rfl : args = #[v0, v1] := by cases args; simp_all
 obtain ⟨rfl, rfl⟩ := trodVars_none hV
 have w0 := hval 0 25 v0 rfl rfl
 have w1 := hval 1 26 v1 rfl rfl
 obtain ⟨k0, h0⟩ := h0
 obtain ⟨k1, h1⟩ := h1
 obtain ⟨c0, rfl, _⟩ := okWide_struct Tryz.underlying25 w0
 obtain ⟨a1, len1, cap1, rfl⟩ := okWide_slice Tryz.underlying26 w1
 obtain ⟨ps, steps, ck, pt, turns, ct, e0, hs, hsi, hsl, ht, hti, htl⟩ := open_world h0
 obtain rfl : c0 = #[.slice ps steps.length ck, .slice pt turns.length ct] := by apply Array.ext'; exact e0
 obtain ⟨po, os2, co, e1, ho1, ho2, hos, hoi, _⟩ := open_list (cells := objX) (ok := fun r => ObjArg W r.1 r.2) Tryz.underlying26 (by kernel_rfl : Tryz.prog.cellsOf 43 = 73) (by decide) (fun h => by obtain ⟨o, a, e, h⟩ := open_obj h; exact ⟨⟨o, a⟩, e, h⟩) h1
 simp only [Value.cells, List.cons.injEq, and_true, Value.slice.injEq] at e1
 obtain ⟨rfl, rfl, rfl⟩ := e1
 clear hA0 hval0
 simp only [List.append_nil] at hW'
 refine Calls.mono (dagPuts_calls W hs hsi hsl ht hti htl hos hoi (ml_lt (Nat.le_trans ho1 ho2)) (roots_of hL)) fun e W' he => ?_
 cases e with
 | returned v =>
  obtain ⟨rfl, hE⟩ : v = .bool true ∧ Ext No W W' := he
  refine ⟨_, rfl, post_true (by kernel_rfl) (by kernel_rfl) (by kernel_rfl) hW' rfl (by kernel_rfl) (by kernel_rfl) Tryz.underlying4 rfl rfl rfl hE⟩
 | panicked _ => exact he.elim
 | outgrown => exact he.elim
theorem puts_row : Rows.DagPutsSaid :=
 OpenClaim.holds_of_wide 3 Tryz.f3 rfl rfl rfl rfl rfl rfl rfl ⟨rfl, rfl, rfl, rfl, rfl⟩ rfl rfl rfl rfl rfl (by kernel_rfl) Tryz.func3 (by kernel_rfl)
  (of_decide_eq_true (by kernel_rfl)) (by unfold Func.isWrapper; first | (rw [if_pos (by decide +kernel)]; kernel_rfl) | (rw [if_neg (by decide +kernel)]; exact ⟨rfl, rfl⟩))
  (fun os started H enc _ => puts_lifted os started H enc)
theorem puts_holds : Rows.DagPutsCardSaid :=
 Claim7.holds_tied_plain_at .later [] [.data] true Rows.dagPutsCard.stood.harness false
  puts_row (fun _ h => by cases h) (by kernel_rfl) (fun _ h => by cases h) dagPuts_row_tie rfl ⟨rfl, rfl⟩ (by kernel_rfl) rfl
  (fun f fn hf hfn => by
   obtain rfl : f = 3 := Option.some.inj ((show Tryz.prog.funcNamed "confluence/confluencelaw08.DagPuts" = some 3 by kernel_rfl).symm.trans hf) |>.symm
   obtain rfl : fn = Tryz.f3 := (Option.some.inj (Tryz.func3.symm.trans hfn)).symm
   exact ⟨by kernel_rfl, fun j t ht => by
    rw [Tryz.params3] at ht
    have hm : t ∈ [25, 26] := by have := Array.mem_of_getElem? ht; simpa using this
    have hall : ([25, 26].all fun u => !Tryz.prog.wantsStandIn u) = true := by kernel_rfl
    exact (show Tryz.prog.wantsStandIn t = false by simpa using List.all_eq_true.1 hall t hm)⟩)
  (by kernel_rfl)

end Go.Proofs.YtoapldhadeoeiaaGreatDoor
