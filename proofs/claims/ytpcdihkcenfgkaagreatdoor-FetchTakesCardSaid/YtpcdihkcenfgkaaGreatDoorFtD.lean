/-
  Walks and laws towards: FetchTakesCardSaid , walked
-/
import Derived.Test.YtpcdihkcenfgkaaGreatDoorFtC
namespace Go.Proofs.YtpcdihkcenfgkaaGreatDoor
open Go.Vc
structure BytesIn (o : ObjD) : Prop where
  k : o.kind = 1 ∨ o.kind = 2 ∨ o.kind = 3
  text : o.kind = 1 → o.text.length ≤ 256
  leaves : o.kind = 2 → o.leaves.length ≤ 32 ∧ ∀ r ∈ o.leaves, r.path.length ≤ 48
  rows : o.kind = 3 → o.rows.length ≤ 32 ∧ ∀ r ∈ o.rows, r.path.length ≤ 48 ∧ r.text.length ≤ 256
  com : o.kind = 3 → o.parents.length ≤ 2 ∧ 0 ≤ o.style
  note : o.kind = 3 → o.note.length ≤ 200
theorem bytes_of {o : ObjD} (h : FieldsOk o) : BytesIn o :=
 ⟨by rcases h with h | h | h; exact .inl h.1; exact .inr (.inl h.1); exact .inr (.inr h.1), fun k => ((fields1 k).1 h).1, fun k => leaved_at ((fields2 k).1 h).1, fun k => edit_at ((fields3 k).1 h).2.2.2.1, fun k => styled_at ((fields3 k).1 h).2.2.2.2, fun k => ((fields3 k).1 h).2.2.1⟩
theorem some6_calls (w : World) (s : Str) (n : Nat) (hn : n < 100) (hl : s.length < 900000000) :
  zz1 Tryz.prog 105 [strV s, .int .i64 (n : Int)] w fun v w' => ∃ q k, v = .slice q (strB n s).length k ∧ Own w' q (strB n s).length k 5 1 (zq6 (strB n s)) ∧ (∀ x, OwnB q x → w.heap.size ≤ x) ∧ Ext No w w' := by
 have hsz : (strU s).size = s.length := rfl
 refine zq9 Tryz.func105 rfl rfl rfl rfl ?_
 have hX := Ext.refl No w
 refine zq5 (zq0 (wl_p I_ok rfl (zq3 (zq1 (zq5 (zq0 (wl_p I_ok rfl ?_)))))))
 rw [IntWalk.u64_in _ (by omega)]
 refine wl_p I_ok rfl (wl (zx2 Tryz.call106 rfl rfl rfl rfl rfl rfl (high_calls n hn w s.length (by omega)) fun v1 w1 hr1 => ?_))
 obtain ⟨q, k, rfl, hq, hqn, hE1⟩ := hr1
 have hX := hX.zq4 hE1
 refine wl_p I_ok rfl ?_
 have hX0 := hX
 refine wl (zv2 I_ok rfl 1 1 rfl rfl rfl (by decide) hq Src.string (by dsimp only [maxLen]; omega) (by dsimp only; omega) fun p2 c2 w2 ho2 hE2 hB2 => ?_)
 dsimp only at ho2 hE2 hB2 ⊢
 have hX := hX0.trans hE2 fun y hy hF => by have := hqn y hF; omega
 have hqn2 := newW hX0 hqn hB2
 have e3 : n + (strU s).size = (strB n s).length := by rw [zx8]; omega
 have ho2 : Own w2 p2 (strB n s).length c2 5 1 (zq6 (strB n s)) := by
  rw [← e3, strB, zz8]
  exact ho2
 rw [e3]
 refine wl_p I_ok rfl (zq3 (zq1 (zj0 (zz2 rfl rfl ?_))))
 exact ⟨_, _, rfl, ho2, hqn2, hX⟩
theorem zz6 (r : zj8) : (leafB r).length = 1 + r.path.length + r.id.length := by rw [leafB, List.length_append, zx8]
theorem zj7 (r : ChgD) : (chgB r).length = 1 + r.path.length + 1 + (2 + r.text.length) := by rw [chgB, List.length_append, List.length_append, zx8, zx8]; rfl
theorem bytes6_calls (w : World) {x : ObjD} {a : ObjP} (hx : ObjIn x) (hxl : ObjL w x a) (hf : BytesIn x) :
  zz1 Tryz.prog 53 [.agg (objC x a).toArray] w fun v w' => ∃ q k, v = .slice q (laidB x).length k ∧ Own w' q (laidB x).length k 5 1 (zq6 (laidB x)) ∧ (∀ b, OwnB q b → w.heap.size ≤ b) ∧ Ext No w w' := by
 have hk0 : 0 ≤ x.kind := by rcases hf.k with h | h | h <;> omega
 refine zq9 Tryz.func53 rfl rfl rfl rfl ?_
 have hX := Ext.refl No w
 refine zq5 (zq0 (wl (zz9 I_ok rfl fun b1 w1 hn1 hb1 hE1 => ?_)))
 have fr1 := Nat.le_trans hX.size hn1
 have hX := hX.zq4 hE1
 have hb1 : Blk w1 b1 46 (objC x a) := hb1
 refine wl_p I_ok rfl (zq3 (zq1 (zq5 (zq0 (wl_p I_ok rfl (wl (st_ld I_ok rfl (hb1.seg.obj hx).kind (wl_p I_ok rfl ?_))))))))
 rw [wrap_byteI hk0]
 refine wl (st_bs I_ok rfl 1 rfl rfl rfl (by decide) (by decide) (by simp [partsOk]) (l' := zq6 [UInt8.ofNat x.kind.toNat]) rfl fun b14 w2 hn14 hb14 hE2 hs2 => ?_)
 have fr14 := Nat.le_trans hX.size hn14
 have hb1 := hb1.zq2 hE2
 have hX := hX.zq4 hE2
 have hX14 := hX.size
 have hO : Own w2 (some ⟨b14, 0, none⟩) (be 1 x.kind.toNat).length 1 5 1 (zq6 (be 1 x.kind.toNat)) := Own.blk (n := 1) (c := 1) hb14 1 rfl (Nat.le_refl _) (by decide)
 have hOn : ∀ y, OwnB (some ⟨b14, 0, none⟩) y → w.heap.size ≤ y := fun y hy => by have e : b14 = y := congrArg Addr.block (Option.some.inj hy); omega
 obtain ⟨q, hq⟩ : ∃ q : Option Addr, q = some ⟨b14, 0, none⟩ := ⟨_, rfl⟩
 rw [← hq] at hO hOn ⊢
 obtain ⟨k, hk⟩ : ∃ k, k = 1 := ⟨_, rfl⟩
 rw [show Value.slice q 1 1 = .slice q (be 1 x.kind.toNat).length k from by rw [hk]; rfl]
 rw [show Own w2 q (be 1 x.kind.toNat).length 1 _ 1 _ = Own w2 q (be 1 x.kind.toNat).length k 5 1 (zq6 (be 1 x.kind.toNat)) from by rw [hk]] at hO
 refine wl_p I_ok rfl (zq3 (zq1 (zq5 (zq5 (zq0 (wl_p I_ok rfl (wl (st_ld I_ok rfl (hb1.seg.obj hx).kind (zq3 (zq1 (zx4 (zq5 (zq0 (wl_p I_ok rfl (zq3 (zq1 (c_if rfl (fun hc => ?_) (fun hc => ?_))))))))))))))))))
 ·have h1 : x.kind = 1 := hc
  have hBl := hf.text h1
  refine zq5 (zq0 (wl_p I_ok rfl (wl (st_ld I_ok rfl (hb1.seg.obj hx).text (wl (zx2 Tryz.call105 rfl rfl rfl rfl rfl rfl (some6_calls w2 x.text 2 (by decide) (by omega)) fun v3 w3 hr3 => ?_))))))
  obtain ⟨qp, kp, rfl, hqp, hqpn, hE3⟩ := hr3
  have hO := hO.ext hE3 fun _ _ => id
  have hX := hX.zq4 hE3
  have hX0 := hX
  refine wl (zv2 I_ok rfl 1 1 rfl rfl rfl (by decide) hO (Src.slice hqp.sl OneC.h) (by dsimp only [maxLen]; simp only [zj5, zx8]; omega) (by dsimp only; simp only [zj5, zx8]; omega) fun p4 c4 w4 ho4 hE4 hB4 => ?_)
  dsimp only at ho4 hE4 hB4 ⊢
  have hX := hX0.trans hE4 fun y hy hF => by have := hOn y hF; omega
  have hOn2 := newW hX0 hOn hB4
  have e3 : (be 1 x.kind.toNat).length + (strB 2 x.text).length = (be 1 x.kind.toNat ++ strB 2 x.text).length := by simp only [List.length_append, zj5, zx8] <;> omega
  obtain ⟨q, k, e1, e2, hO2⟩ : ∃ q k, q = p4 ∧ k = c4 ∧ Own w4 q (be 1 x.kind.toNat ++ strB 2 x.text).length k 5 1 (zq6 (be 1 x.kind.toNat ++ strB 2 x.text)) := ⟨_, _, rfl, rfl, by
   rw [← e3, zz8 (be 1 x.kind.toNat)]
   exact ho4⟩
  rw [← e1] at hOn2 hB4
  have hO := hO2
  have hOn := hOn2
  rw [← e1, ← e2, e3]
  refine wl_p I_ok rfl (zq3 (zq1 (zj0 (zz3 (zx5 (zz2 rfl rfl ?_))))))
  exact ⟨q, k, by rw [laidB, if_pos h1], by rw [laidB, if_pos h1]; exact hO, hOn, hX⟩
 ·have h1 : ¬ x.kind = 1 := hc
  refine zq5 (zq0 (wl_p I_ok rfl (zq3 (zq1 (c_if rfl (fun hc => ?_) (fun hc => ?_))))))
  ·have h2 : x.kind = 2 := hc
   obtain ⟨hl32, hp48⟩ := hf.leaves h2
   refine zq5 (zq0 (wl_p I_ok rfl (wl (st_ld I_ok rfl (hb1.seg.obj hx).leaves (wl_p I_ok rfl ?_)))))
   rw [wrap_byte]
   refine wl (st_bs I_ok rfl 1 rfl rfl rfl (by decide) (by decide) (by simp [partsOk]) (l' := zq6 [UInt8.ofNat x.leaves.length]) rfl fun b31 w5 hn31 hb31 hE5 hs5 => ?_)
   have fr31 := Nat.le_trans hX.size hn31
   have hb1 := hb1.zq2 hE5
   have hO := hO.ext hE5 fun _ _ => id
   have hX := hX.zq4 hE5
   have hX0 := hX
   refine wl (zv2 I_ok rfl 1 1 rfl rfl rfl (by decide) hO (Src.slice (m := 1) ⟨rfl, .inr ⟨b31, 0, rfl, hb31.seg⟩⟩ OneC.h) (by dsimp only [maxLen]; simp only [zj5]; omega) (by dsimp only; simp only [zj5]; omega) fun p6 c6 w6 ho6 hE6 hB6 => ?_)
   dsimp only at ho6 hE6 hB6 ⊢
   have hb1 := hb1.zq8 hO hE6 (show (5 : Nat) ≠ 46 from by decide)
   have hX := hX0.trans hE6 fun y hy hF => by have := hOn y hF; omega
   have hOn2 := newW hX0 hOn hB6
   have e3 : (be 1 x.kind.toNat).length + 1 = (be 1 x.kind.toNat ++ be 1 x.leaves.length).length := by simp only [List.length_append, zj5] <;> omega
   obtain ⟨q, k, e1, e2, hO2⟩ : ∃ q k, q = p6 ∧ k = c6 ∧ Own w6 q (be 1 x.kind.toNat ++ be 1 x.leaves.length).length k 5 1 (zq6 (be 1 x.kind.toNat ++ be 1 x.leaves.length)) := ⟨_, _, rfl, rfl, by
    rw [← e3, zz8 (be 1 x.kind.toNat)]
    exact ho6⟩
   rw [← e1] at hOn2 hB6
   have hO := hO2
   have hOn := hOn2
   rw [← e1, ← e2, e3]
   refine wl_p I_ok rfl (zq3 (zq1 (zq5 (zq5 (zq0 (wl_p I_ok rfl (wl (st_ld I_ok rfl (hb1.seg.obj hx).leaves (wl_p I_ok rfl (zq3 (zq1 (zx4 ?_))))))))))))
   refine zv3 (α := Nat × Option Addr × Nat) [34, 35] rfl (fun z => [(3, .slice z.2.1 (be 1 x.kind.toNat ++ be 1 x.leaves.length ++ (x.leaves.take z.1).flatMap leafB).length z.2.2), (36, .int .i64 (z.1 : Int))]) (fun z u => (z.1 ≤ x.leaves.length ∧ Own u z.2.1 (be 1 x.kind.toNat ++ be 1 x.leaves.length ++ (x.leaves.take z.1).flatMap leafB).length z.2.2 5 1 (zq6 (be 1 x.kind.toNat ++ be 1 x.leaves.length ++ (x.leaves.take z.1).flatMap leafB)) ∧ ∀ y, OwnB z.2.1 y → w.heap.size ≤ y) ∧ Ext No w u) (fun z u => x.leaves.length - z.1) (0, q, k) rfl ⟨⟨Nat.zero_le _, by simpa using hO, hOn⟩, hX⟩ ?_
   rintro ⟨i, q, k⟩ w7 ⟨⟨hi, hO, hOn⟩, hX⟩
   try dsimp only
   dsimp only at hi hO hOn
   refine zq5 (zq0 (wl_p I_ok rfl (zq3 (zq1 (zq5 (c_if rfl (fun hc => ?_) (fun hc => ?_)))))))
   ·have hi : i < x.leaves.length := by omega
    obtain ⟨qb, qoff, hp, hsq⟩ := hxl.leaves.rowAll (fun r hr => zj8.len (hx.leaves r hr).2) (by omega)
    rw [hp]
    have ha1 := hx.leaves _ (List.getElem_mem hi)
    have ha2 := hp48 _ (List.getElem_mem hi)
    have ha3 := ha1.2
    have hfl : ((x.leaves.take i).flatMap leafB).length ≤ (x.leaves.take i).length * 100 := flat_le fun r hr => leafB_le (hp48 r (List.mem_of_mem_take hr)) (hx.leaves r (List.mem_of_mem_take hr)).2
    rw [List.length_take, Nat.min_eq_left (by omega)] at hfl
    refine zx7 (zq1 (zq5 (zx4 (zq5 (zq0 (wl (st_ix I_ok rfl 33 rfl i rfl (by omega) (qoff + i * 33) rfl (wl (st_ldN I_ok rfl ((hsq i hi).zq2 hX) (zj8.len ha1.2) (wl (zz9 I_ok rfl fun b5 w8 hn5 hb5 hE8 => ?_)))))))))))
    have fr5 := Nat.le_trans hX.size hn5
    have hO := hO.ext hE8 fun _ _ => id
    have hX := hX.zq4 hE8
    have hb5o := hb5
    refine wl (zj1 (l' := (x.leaves[i]).cells) I_ok hb5 rfl rfl (zj8.len ha1.2) (zj8.len ha1.2) OneC.h fun w9 hb5 hE9 hs9 => ?_)
    have hO := hO.zx9 hE9 hb5o (by decide)
    have hX := hX.zx1 hE9 fr5
    refine zq3 (zq1 (c_draw rfl 9 [(0, true), (1, true), (2, true), (5, true), (6, true), (3, false), (4, false), (7, false), (8, true)] [] (OwnB q) (by kernel_rfl) fun w10 hE10 hs10 => ?_))
    have hd5 := hb5
    have hOd := hO
    have hb5 := hb5.zq2 hE10
    have hO := hO.ext hE10 fun _ _ => id
    have hX := hX.zq4 hE10
    have hC : Ext (OwnB q) _ w10 := hE10.no
    have hqs : ∀ y, OwnB q y → OwnB q y ∨ w9.heap.size ≤ y := fun y h => .inl h
    have hOl : ∀ y, OwnB q y → y < w9.heap.size := fun y h => hOd.lt h
    refine wd_k I_ok 2 rfl (wd_ld I_ok rfl rfl (fun w' hw' => ((hd5.ext (show Ext (OwnB q) _ w' from hw') fun hx' => hOd.neTy hx' hd5 (by decide) rfl).cell rfl)) ?_)
    refine wd_k I_ok 1 rfl (wd_sa I_ok rfl rfl 0 32 32 1 rfl ⟨.inr ⟨rfl, rfl⟩, .inr ⟨rfl, rfl⟩, .inr ⟨rfl, rfl⟩, by decide, by decide, by decide⟩ ?_)
    rw [slBase_zero, Nat.sub_zero]
    refine wd_l rfl (zx2 Tryz.call105 rfl rfl rfl rfl rfl rfl (some6_calls w10 (x.leaves[i]).path 1 (by decide) (by omega)) fun v11 w11 hr11 => ⟨(by obtain ⟨qp, kp, rfl, hqp, hqpn, hE11⟩ := hr11; exact hC.zq4 hE11), ?_⟩)
    obtain ⟨qp, kp, rfl, hqp, hqpn, hE11⟩ := hr11
    have hb5 := hb5.zq2 hE11
    have hO := hO.ext hE11 fun _ _ => id
    have hX := hX.zq4 hE11
    have hC := hC.zq4 hE11
    have hX0 := hX
    have hC0 := hC
    refine wd_l rfl (zv2 I_ok rfl 1 1 rfl rfl rfl (by decide) hO (Src.slice hqp.sl OneC.h) (by dsimp only [maxLen]; simp only [List.length_append, zj5, zx8]; omega) (by dsimp only; simp only [List.length_append, zj5, zx8]; omega) fun p12 c12 w12 ho12 hE12 hB12 => ⟨hC.trans hE12 (fun y hy hF => (hqs y hF).elim id (fun h => absurd hy (Nat.not_lt.2 h))), ?_⟩)
    have hC := hC.trans hE12 (fun y hy hF => (hqs y hF).elim id (fun h => absurd hy (Nat.not_lt.2 h)))
    dsimp only at ho12 hE12 hB12 ⊢
    have hb5 := hb5.zq8 hO hE12 (show (5 : Nat) ≠ 56 from by decide)
    have hX := hX0.trans hE12 fun y hy hF => by have := hOn y hF; omega
    have hOn2 := newW hX0 hOn hB12
    have e3 : (be 1 x.kind.toNat ++ be 1 x.leaves.length ++ (x.leaves.take i).flatMap leafB).length + (strB 1 (x.leaves[i]).path).length = (be 1 x.kind.toNat ++ be 1 x.leaves.length ++ (x.leaves.take i).flatMap leafB ++ strB 1 (x.leaves[i]).path).length := by simp only [List.length_append, zj5, zx8] <;> omega
    obtain ⟨q, k, e1, e2, hO2⟩ : ∃ q k, q = p12 ∧ k = c12 ∧ Own w12 q (be 1 x.kind.toNat ++ be 1 x.leaves.length ++ (x.leaves.take i).flatMap leafB ++ strB 1 (x.leaves[i]).path).length k 5 1 (zq6 (be 1 x.kind.toNat ++ be 1 x.leaves.length ++ (x.leaves.take i).flatMap leafB ++ strB 1 (x.leaves[i]).path)) := ⟨_, _, rfl, rfl, by
     rw [← e3, zz8 (be 1 x.kind.toNat ++ be 1 x.leaves.length ++ (x.leaves.take i).flatMap leafB)]
     exact ho12⟩
    rw [← e1] at hOn2 hB12
    have hqs := fun y hy => (hB12 y hy).elim (hqs y) fun h => .inr (Nat.le_trans hC0.size h)
    have hO := hO2
    have hOn := hOn2
    rw [← e1, ← e2, e3]
    have hX0 := hX
    have hC0 := hC
    refine wd_l rfl (zv2 I_ok rfl 1 1 rfl rfl rfl (by decide) hO (Src.slice (m := 32) ⟨IdIn.len ha3, .inr ⟨b5, 0 + 1, rfl, (by have := hb5.seg.drop 1; exact this)⟩⟩ OneC.h) (by dsimp only [maxLen]; simp only [List.length_append, zj5, zx8]; omega) (by dsimp only; simp only [List.length_append, zj5, zx8]; omega) fun p13 c13 w13 ho13 hE13 hB13 => ⟨hC.trans hE13 (fun y hy hF => (hqs y hF).elim id (fun h => absurd hy (Nat.not_lt.2 h))), ?_⟩)
    dsimp only at ho13 hE13 hB13 ⊢
    have hX := hX0.trans hE13 fun y hy hF => by have := hOn y hF; omega
    have hOn2 := newW hX0 hOn hB13
    have e3 : (be 1 x.kind.toNat ++ be 1 x.leaves.length ++ (x.leaves.take i).flatMap leafB ++ strB 1 (x.leaves[i]).path).length + 32 = (be 1 x.kind.toNat ++ be 1 x.leaves.length ++ (x.leaves.take i).flatMap leafB ++ strB 1 (x.leaves[i]).path ++ (x.leaves[i]).id).length := by simp only [List.length_append, zj5, zx8] <;> omega
    obtain ⟨q, k, e1, e2, hO2⟩ : ∃ q k, q = p13 ∧ k = c13 ∧ Own w13 q (be 1 x.kind.toNat ++ be 1 x.leaves.length ++ (x.leaves.take i).flatMap leafB ++ strB 1 (x.leaves[i]).path ++ (x.leaves[i]).id).length k 5 1 (zq6 (be 1 x.kind.toNat ++ be 1 x.leaves.length ++ (x.leaves.take i).flatMap leafB ++ strB 1 (x.leaves[i]).path ++ (x.leaves[i]).id)) := ⟨_, _, rfl, rfl, by
     rw [← e3, zz8 (be 1 x.kind.toNat ++ be 1 x.leaves.length ++ (x.leaves.take i).flatMap leafB ++ strB 1 (x.leaves[i]).path)]
     exact ho13⟩
    rw [← e1] at hOn2 hB13
    have hqs := fun y hy => (hB13 y hy).elim (hqs y) fun h => .inr (Nat.le_trans hC0.size h)
    have hO := hO2
    have hOn := hOn2
    rw [← e1, ← e2, e3]
    refine wd_k I_ok 1 rfl (wd_sw (zv0 (zx6 (zq1 (zq0 (wl_p I_ok rfl ?_))))))
    rw [IntWalk.i64_in _ (by omega)]
    refine zq3 ?_
    exact zv1 (i + 1, q, k) (by rw [show be 1 x.kind.toNat ++ be 1 x.leaves.length ++ (x.leaves.take (i + 1)).flatMap leafB = be 1 x.kind.toNat ++ be 1 x.leaves.length ++ (x.leaves.take i).flatMap leafB ++ strB 1 (x.leaves[i]).path ++ (x.leaves[i]).id from by rw [flat_take hi, leafB]; simp]; rfl) ⟨⟨hi, by rw [show be 1 x.kind.toNat ++ be 1 x.leaves.length ++ (x.leaves.take (i + 1)).flatMap leafB = be 1 x.kind.toNat ++ be 1 x.leaves.length ++ (x.leaves.take i).flatMap leafB ++ strB 1 (x.leaves[i]).path ++ (x.leaves[i]).id from by rw [flat_take hi, leafB]; simp]; exact hO, hOn⟩, hX⟩ (by first | omega | (dsimp only; omega))
   ·have h0 : i = x.leaves.length := by omega
    subst h0
    rw [List.take_length] at hO ⊢
    have hlaid : laidB x = be 1 x.kind.toNat ++ be 1 x.leaves.length ++ x.leaves.flatMap leafB := by rw [laidB, if_neg h1, if_pos h2, treeB, List.append_assoc]
    refine c_exit (zx3 (zx3 (zz0 (zq1 (zq5 (zq0 (wl_p I_ok rfl (zq3 (zq1 (zj0 (zz3 (zx5 (zz2 rfl rfl ?_)))))))))))))
    exact ⟨q, k, by rw [hlaid], by rw [hlaid]; exact hO, hOn, hX⟩
  ·have h2 : ¬ x.kind = 2 := hc
   have h3 : x.kind = 3 := by
    rcases hf.k with h | h | h
    ·exact absurd h h1
    ·exact absurd h h2
    ·exact h
   obtain ⟨hl32, hp48⟩ := hf.rows h3
   obtain ⟨hpl, hst⟩ := hf.com h3
   have hnl := hf.note h3
   have htr := hx.tree
   have hba := hx.base
   have hpf := flatten_len (n := 32) hx.parents
   refine zx7 (zx6 (zq1 (zq5 (c_draw rfl 10 [(0, true), (1, true), (2, true), (3, true), (6, true), (7, true), (4, false), (5, false), (8, false), (9, true)] [] (OwnB q) (by kernel_rfl) fun w14 hE14 hs14 => ?_))))
   have hd1 := hb1
   have hOd := hO
   have hb1 := hb1.zq2 hE14
   have hO := hO.ext hE14 fun _ _ => id
   have hX := hX.zq4 hE14
   have hC : Ext (OwnB q) _ w14 := hE14.no
   have hqs : ∀ y, OwnB q y → OwnB q y ∨ w2.heap.size ≤ y := fun y h => .inl h
   have hOl : ∀ y, OwnB q y → y < w2.heap.size := fun y h => hOd.lt h
   refine wd_k I_ok 2 rfl (wd_ld I_ok rfl rfl (fun w' hw' => ((hd1.ext (show Ext (OwnB q) _ w' from hw') fun hx' => hOd.neTy hx' hd1 (by decide) rfl).seg.obj hx).style) ?_)
   refine wd_k I_ok 1 rfl ?_
   rw [wrap_byteI hst]
   refine wd_k I_ok 1 rfl (wd_sa I_ok rfl rfl 0 32 32 1 rfl ⟨.inr ⟨rfl, rfl⟩, .inr ⟨rfl, rfl⟩, .inr ⟨rfl, rfl⟩, by decide, by decide, by decide⟩ ?_)
   rw [slBase_zero, Nat.sub_zero]
   refine wd_l rfl (st_bs I_ok rfl 1 rfl rfl rfl (by decide) (by decide) (by simp [partsOk]) (l' := zq6 [UInt8.ofNat x.style.toNat]) rfl fun b54 w15 hn54 hb54 hE15 hs15 => ⟨hC.zq4 hE15, ?_⟩)
   have fr54 := Nat.le_trans hX.size hn54
   have hb1 := hb1.zq2 hE15
   have hO := hO.ext hE15 fun _ _ => id
   have hX := hX.zq4 hE15
   have hC := hC.zq4 hE15
   have hX0 := hX
   have hC0 := hC
   refine wd_l rfl (zv2 I_ok rfl 1 1 rfl rfl rfl (by decide) hO (Src.slice (m := 1) ⟨rfl, .inr ⟨b54, 0, rfl, hb54.seg⟩⟩ OneC.h) (by dsimp only [maxLen]; simp only [zj5]; omega) (by dsimp only; simp only [zj5]; omega) fun p16 c16 w16 ho16 hE16 hB16 => ⟨hC.trans hE16 (fun y hy hF => (hqs y hF).elim id (fun h => absurd hy (Nat.not_lt.2 h))), ?_⟩)
   have hC := hC.trans hE16 (fun y hy hF => (hqs y hF).elim id (fun h => absurd hy (Nat.not_lt.2 h)))
   dsimp only at ho16 hE16 hB16 ⊢
   have hb1 := hb1.zq8 hO hE16 (show (5 : Nat) ≠ 46 from by decide)
   have hX := hX0.trans hE16 fun y hy hF => by have := hOn y hF; omega
   have hOn2 := newW hX0 hOn hB16
   have e3 : (be 1 x.kind.toNat).length + 1 = (be 1 x.kind.toNat ++ be 1 x.style.toNat).length := by simp only [List.length_append, zj5] <;> omega
   obtain ⟨q, k, e1, e2, hO2⟩ : ∃ q k, q = p16 ∧ k = c16 ∧ Own w16 q (be 1 x.kind.toNat ++ be 1 x.style.toNat).length k 5 1 (zq6 (be 1 x.kind.toNat ++ be 1 x.style.toNat)) := ⟨_, _, rfl, rfl, by
    rw [← e3, zz8 (be 1 x.kind.toNat)]
    exact ho16⟩
   rw [← e1] at hOn2 hB16
   have hqs := fun y hy => (hB16 y hy).elim (hqs y) fun h => .inr (Nat.le_trans hC0.size h)
   have hO := hO2
   have hOn := hOn2
   rw [← e1, ← e2, e3]
   have hX0 := hX
   have hC0 := hC
   refine wd_l rfl (zv2 I_ok rfl 1 1 rfl rfl rfl (by decide) hO (Src.slice (m := 32) ⟨IdIn.len hx.tree, .inr ⟨b1, 0 + 4, rfl, (hb1.seg.obj hx).tree⟩⟩ OneC.h) (by dsimp only [maxLen]; simp only [List.length_append, zj5]; omega) (by dsimp only; simp only [List.length_append, zj5]; omega) fun p17 c17 w17 ho17 hE17 hB17 => ⟨hC.trans hE17 (fun y hy hF => (hqs y hF).elim id (fun h => absurd hy (Nat.not_lt.2 h))), ?_⟩)
   have hC := hC.trans hE17 (fun y hy hF => (hqs y hF).elim id (fun h => absurd hy (Nat.not_lt.2 h)))
   dsimp only at ho17 hE17 hB17 ⊢
   have hb1 := hb1.zq8 hO hE17 (show (5 : Nat) ≠ 46 from by decide)
   have hX := hX0.trans hE17 fun y hy hF => by have := hOn y hF; omega
   have hOn2 := newW hX0 hOn hB17
   have e3 : (be 1 x.kind.toNat ++ be 1 x.style.toNat).length + 32 = (be 1 x.kind.toNat ++ be 1 x.style.toNat ++ x.tree).length := by simp only [List.length_append, zj5] <;> omega
   obtain ⟨q, k, e1, e2, hO2⟩ : ∃ q k, q = p17 ∧ k = c17 ∧ Own w17 q (be 1 x.kind.toNat ++ be 1 x.style.toNat ++ x.tree).length k 5 1 (zq6 (be 1 x.kind.toNat ++ be 1 x.style.toNat ++ x.tree)) := ⟨_, _, rfl, rfl, by
    rw [← e3, zz8 (be 1 x.kind.toNat ++ be 1 x.style.toNat)]
    exact ho17⟩
   rw [← e1] at hOn2 hB17
   have hqs := fun y hy => (hB17 y hy).elim (hqs y) fun h => .inr (Nat.le_trans hC0.size h)
   have hO := hO2
   have hOn := hOn2
   rw [← e1, ← e2, e3]
   refine wd_k I_ok 1 rfl (wd_sw (zv0 (zq1 (zq5 (zq0 (wl_p I_ok rfl (wl (st_ld I_ok rfl (hb1.seg.obj hx).parents (wl_p I_ok rfl ?_)))))))))
   rw [wrap_byte]
   refine wl (st_bs I_ok rfl 1 rfl rfl rfl (by decide) (by decide) (by simp [partsOk]) (l' := zq6 [UInt8.ofNat x.parents.length]) rfl fun b64 w18 hn64 hb64 hE18 hs18 => ?_)
   have fr64 := Nat.le_trans hX.size hn64
   have hb1 := hb1.zq2 hE18
   have hO := hO.ext hE18 fun _ _ => id
   have hX := hX.zq4 hE18
   have hX0 := hX
   refine wl (zv2 I_ok rfl 1 1 rfl rfl rfl (by decide) hO (Src.slice (m := 1) ⟨rfl, .inr ⟨b64, 0, rfl, hb64.seg⟩⟩ OneC.h) (by dsimp only [maxLen]; simp only [List.length_append, zj5]; omega) (by dsimp only; simp only [List.length_append, zj5]; omega) fun p19 c19 w19 ho19 hE19 hB19 => ?_)
   dsimp only at ho19 hE19 hB19 ⊢
   have hb1 := hb1.zq8 hO hE19 (show (5 : Nat) ≠ 46 from by decide)
   have hX := hX0.trans hE19 fun y hy hF => by have := hOn y hF; omega
   have hOn2 := newW hX0 hOn hB19
   have e3 : (be 1 x.kind.toNat ++ be 1 x.style.toNat ++ x.tree).length + 1 = (be 1 x.kind.toNat ++ be 1 x.style.toNat ++ x.tree ++ be 1 x.parents.length).length := by simp only [List.length_append, zj5] <;> omega
   obtain ⟨q, k, e1, e2, hO2⟩ : ∃ q k, q = p19 ∧ k = c19 ∧ Own w19 q (be 1 x.kind.toNat ++ be 1 x.style.toNat ++ x.tree ++ be 1 x.parents.length).length k 5 1 (zq6 (be 1 x.kind.toNat ++ be 1 x.style.toNat ++ x.tree ++ be 1 x.parents.length)) := ⟨_, _, rfl, rfl, by
    rw [← e3, zz8 (be 1 x.kind.toNat ++ be 1 x.style.toNat ++ x.tree)]
    exact ho19⟩
   rw [← e1] at hOn2 hB19
   have hO := hO2
   have hOn := hOn2
   rw [← e1, ← e2, e3]
   refine wl_p I_ok rfl (zq3 (zq1 (zq5 (zq5 (zq0 (wl_p I_ok rfl (wl (st_ld I_ok rfl (hb1.seg.obj hx).parents ?_))))))))
   rw [show (be 1 x.kind.toNat ++ be 1 x.style.toNat ++ x.tree ++ be 1 x.parents.length).length = (be 1 x.kind.toNat ++ be 1 x.style.toNat ++ x.tree ++ be 1 x.parents.length ++ (x.parents.take 0).flatten).length from by simp]
   refine wl_p I_ok rfl (zq3 (zq1 (zx4 ?_)))
   refine zv3 (α := Nat × Option Addr × Nat) [1, 67, 68] rfl (fun z => [(3, .slice z.2.1 (be 1 x.kind.toNat ++ be 1 x.style.toNat ++ x.tree ++ be 1 x.parents.length ++ (x.parents.take z.1).flatten).length z.2.2), (69, .int .i64 (z.1 : Int))]) (fun z u => (z.1 ≤ x.parents.length ∧ Own u z.2.1 (be 1 x.kind.toNat ++ be 1 x.style.toNat ++ x.tree ++ be 1 x.parents.length ++ (x.parents.take z.1).flatten).length z.2.2 5 1 (zq6 (be 1 x.kind.toNat ++ be 1 x.style.toNat ++ x.tree ++ be 1 x.parents.length ++ (x.parents.take z.1).flatten)) ∧ ∀ y, OwnB z.2.1 y → w.heap.size ≤ y) ∧ Blk u b1 46 (objC x a) ∧ Ext No w u) (fun z u => x.parents.length - z.1) (0, q, k) rfl ⟨⟨Nat.zero_le _, by simpa using hO, hOn⟩, hb1, hX⟩ ?_
   rintro ⟨i, q, k⟩ w20 ⟨⟨hi, hO, hOn⟩, hb1, hX⟩
   try dsimp only
   dsimp only at hi hO hOn
   refine zq5 (zq0 (wl_p I_ok rfl (zq3 (zq1 (zq5 (c_if rfl (fun hc => ?_) (fun hc => ?_)))))))
   ·have hi : i < x.parents.length := by omega
    obtain ⟨qb, qoff, hp, hsq⟩ := hxl.parents.rowAll (fun r hr => IdIn.len (hx.parents r hr)) (by omega)
    rw [hp]
    have ha1 : IdIn x.parents[i] := hx.parents _ (List.getElem_mem hi)
    have ha3 : x.parents[i].length = 32 := ha1
    have hfl := flatten_in hx.parents i
    rw [List.length_take, Nat.min_eq_left (by omega)] at hfl
    refine zx7 (zq1 (zq5 (zx4 (zq5 (zq0 (wl (st_ix I_ok rfl 32 rfl i rfl (by omega) (qoff + i * 32) rfl (wl (st_ldN I_ok rfl ((hsq i hi).zq2 hX) ha1.len (wl (zz9 I_ok rfl fun b7 w21 hn7 hb7 hE21 => ?_)))))))))))
    have ne1_7 : b1 ≠ b7 := Nat.ne_of_lt (Nat.lt_of_lt_of_le hb1.lt hn7)
    have fr7 := Nat.le_trans hX.size hn7
    have hb1 := hb1.zq2 hE21
    have hO := hO.ext hE21 fun _ _ => id
    have hX := hX.zq4 hE21
    have hb7o := hb7
    refine wl (zj1 (l' := zq6 x.parents[i]) I_ok hb7 rfl rfl ha1.len ha1.len OneC.h fun w22 hb7 hE22 hs22 => ?_)
    have hb1 := hb1.ext1 hE22 ne1_7
    have hO := hO.zx9 hE22 hb7o (by decide)
    have hX := hX.zx1 hE22 fr7
    refine zq3 (zq1 (zq0 (wl_p I_ok rfl (wl (st_sa I_ok rfl 0 32 32 1 rfl ⟨.inr ⟨rfl, rfl⟩, .inr ⟨rfl, rfl⟩, .inr ⟨rfl, rfl⟩, by decide, by decide, by decide⟩ ?_)))))
    rw [slBase_zero, Nat.sub_zero]
    have hX0 := hX
    refine wl (zv2 I_ok rfl 1 1 rfl rfl rfl (by decide) hO (Src.slice (m := 32) ⟨IdIn.len ha1, .inr ⟨b7, 0, rfl, hb7.seg⟩⟩ OneC.h) (by dsimp only [maxLen]; simp only [List.length_append, zj5]; omega) (by dsimp only; simp only [List.length_append, zj5]; omega) fun p23 c23 w23 ho23 hE23 hB23 => ?_)
    dsimp only at ho23 hE23 hB23 ⊢
    have hb1 := hb1.zq8 hO hE23 (show (5 : Nat) ≠ 46 from by decide)
    have hX := hX0.trans hE23 fun y hy hF => by have := hOn y hF; omega
    have hOn2 := newW hX0 hOn hB23
    have e3 : (be 1 x.kind.toNat ++ be 1 x.style.toNat ++ x.tree ++ be 1 x.parents.length ++ (x.parents.take i).flatten).length + 32 = (be 1 x.kind.toNat ++ be 1 x.style.toNat ++ x.tree ++ be 1 x.parents.length ++ (x.parents.take i).flatten ++ x.parents[i]).length := by simp only [List.length_append, zj5] <;> omega
    obtain ⟨q, k, e1, e2, hO2⟩ : ∃ q k, q = p23 ∧ k = c23 ∧ Own w23 q (be 1 x.kind.toNat ++ be 1 x.style.toNat ++ x.tree ++ be 1 x.parents.length ++ (x.parents.take i).flatten ++ x.parents[i]).length k 5 1 (zq6 (be 1 x.kind.toNat ++ be 1 x.style.toNat ++ x.tree ++ be 1 x.parents.length ++ (x.parents.take i).flatten ++ x.parents[i])) := ⟨_, _, rfl, rfl, by
     rw [← e3, zz8 (be 1 x.kind.toNat ++ be 1 x.style.toNat ++ x.tree ++ be 1 x.parents.length ++ (x.parents.take i).flatten)]
     exact ho23⟩
    rw [← e1] at hOn2 hB23
    have hO := hO2
    have hOn := hOn2
    rw [← e1, ← e2, e3]
    refine wl_p I_ok rfl (zq3 (zx6 (zq1 (zq0 (wl_p I_ok rfl ?_)))))
    rw [IntWalk.i64_in _ (by omega)]
    refine zq3 ?_
    exact zv1 (i + 1, q, k) (by rw [show be 1 x.kind.toNat ++ be 1 x.style.toNat ++ x.tree ++ be 1 x.parents.length ++ (x.parents.take (i + 1)).flatten = be 1 x.kind.toNat ++ be 1 x.style.toNat ++ x.tree ++ be 1 x.parents.length ++ (x.parents.take i).flatten ++ x.parents[i] from by rw [flatten_take hi]; simp]; rfl) ⟨⟨hi, by rw [show be 1 x.kind.toNat ++ be 1 x.style.toNat ++ x.tree ++ be 1 x.parents.length ++ (x.parents.take (i + 1)).flatten = be 1 x.kind.toNat ++ be 1 x.style.toNat ++ x.tree ++ be 1 x.parents.length ++ (x.parents.take i).flatten ++ x.parents[i] from by rw [flatten_take hi]; simp]; exact hO, hOn⟩, hb1, hX⟩ (by first | omega | (dsimp only; omega))
   ·have h0 : i = x.parents.length := by omega
    subst h0
    rw [List.take_length] at hO ⊢
    refine c_exit (zx3 (zx3 (zz0 (zq1 ?_))))
    refine c_cutK (α := Option Addr × Nat) [1] rfl (fun z => [(3, .slice z.1 (be 1 x.kind.toNat ++ be 1 x.style.toNat ++ x.tree ++ be 1 x.parents.length ++ x.parents.flatten ++ x.base ++ be 1 x.rows.length).length z.2)]) (fun z u => (Own u z.1 (be 1 x.kind.toNat ++ be 1 x.style.toNat ++ x.tree ++ be 1 x.parents.length ++ x.parents.flatten ++ x.base ++ be 1 x.rows.length).length z.2 5 1 (zq6 (be 1 x.kind.toNat ++ be 1 x.style.toNat ++ x.tree ++ be 1 x.parents.length ++ x.parents.flatten ++ x.base ++ be 1 x.rows.length)) ∧ ∀ y, OwnB z.1 y → w.heap.size ≤ y) ∧ Blk u b1 46 (objC x a) ∧ Ext No w u) ?_ ?_
    ·refine c_drawX rfl 12 12 [] (OwnB q) (by kernel_rfl) fun w24 hE24 hs24 => ?_
     have hd1 := hb1
     have hOd := hO
     have hb1 := hb1.zq2 hE24
     have hO := hO.ext hE24 fun _ _ => id
     have hX := hX.zq4 hE24
     have hC : Ext (OwnB q) _ w24 := hE24.no
     have hqs : ∀ y, OwnB q y → OwnB q y ∨ w20.heap.size ≤ y := fun y h => .inl h
     have hOl : ∀ y, OwnB q y → y < w20.heap.size := fun y h => hOd.lt h
     refine wx_plan [(0, true), (1, true), (2, true), (4, true), (5, true), (6, true), (7, true), (8, true)] 4 rfl (by kernel_rfl) (wd_k I_ok 2 rfl ?_)
     refine wd_sa I_ok rfl rfl 0 32 32 1 rfl ⟨.inr ⟨rfl, rfl⟩, .inr ⟨rfl, rfl⟩, .inr ⟨rfl, rfl⟩, by decide, by decide, by decide⟩ ?_
     rw [slBase_zero, Nat.sub_zero]
     refine wd_k I_ok 2 rfl (wd_ld I_ok rfl rfl (fun w' hw' => ((hd1.ext (show Ext (OwnB q) _ w' from hw') fun hx' => hOd.neTy hx' hd1 (by decide) rfl).seg.obj hx).rows) ?_)
     refine wd_k I_ok 2 rfl ?_
     rw [wrap_byte]
     refine wd_tail rfl (wx_alt [3, 9] rfl (by kernel_rfl) ⟨⟨_, rfl, ?_⟩, ⟨_, rfl, ?_⟩, trivial⟩)
     ·have hX0 := hX
      have hC0 := hC
      refine zv2 I_ok rfl 1 1 rfl rfl rfl (by decide) hO (Src.slice (m := 32) ⟨IdIn.len hx.base, .inr ⟨b1, 0 + 36, rfl, (hb1.seg.obj hx).base⟩⟩ OneC.h) (by dsimp only [maxLen]; simp only [List.length_append, zj5]; omega) (by dsimp only; simp only [List.length_append, zj5]; omega) fun p25 c25 w25 ho25 hE25 hB25 => ⟨hC.trans hE25 (fun y hy hF => (hqs y hF).elim id (fun h => absurd hy (Nat.not_lt.2 h))), ?_⟩
      have hC := hC.trans hE25 (fun y hy hF => (hqs y hF).elim id (fun h => absurd hy (Nat.not_lt.2 h)))
      dsimp only at ho25 hE25 hB25 ⊢
      have hb1 := hb1.zq8 hO hE25 (show (5 : Nat) ≠ 46 from by decide)
      try have hb86 := hb86.ext hE25 (fun hx => by have := hOl _ hx; omega)
      have hX := hX0.trans hE25 fun y hy hF => by have := hOn y hF; omega
      have hOn2 := newW hX0 hOn hB25
      have e3 : (be 1 x.kind.toNat ++ be 1 x.style.toNat ++ x.tree ++ be 1 x.parents.length ++ x.parents.flatten).length + 32 = (be 1 x.kind.toNat ++ be 1 x.style.toNat ++ x.tree ++ be 1 x.parents.length ++ x.parents.flatten ++ x.base).length := by simp only [List.length_append, zj5] <;> omega
      obtain ⟨q, k, e1, e2, hO2⟩ : ∃ q k, q = p25 ∧ k = c25 ∧ Own w25 q (be 1 x.kind.toNat ++ be 1 x.style.toNat ++ x.tree ++ be 1 x.parents.length ++ x.parents.flatten ++ x.base).length k 5 1 (zq6 (be 1 x.kind.toNat ++ be 1 x.style.toNat ++ x.tree ++ be 1 x.parents.length ++ x.parents.flatten ++ x.base)) := ⟨_, _, rfl, rfl, by
       rw [← e3, zz8 (be 1 x.kind.toNat ++ be 1 x.style.toNat ++ x.tree ++ be 1 x.parents.length ++ x.parents.flatten)]
       exact ho25⟩
      rw [← e1] at hOn2 hB25
      have hqs := fun y hy => (hB25 y hy).elim (hqs y) fun h => .inr (Nat.le_trans hC0.size h)
      have hO := hO2
      have hOn := hOn2
      rw [← e1, ← e2, e3]
      refine wx_plan [(9, false), (10, false), (11, true)] 0 rfl (by kernel_rfl) ?_
      refine wd_l rfl (st_bs I_ok rfl 1 rfl rfl rfl (by decide) (by decide) (by simp [partsOk]) (l' := zq6 [UInt8.ofNat x.rows.length]) rfl fun b86 w26 hn86 hb86 hE26 hs26 => ⟨hC.zq4 hE26, ?_⟩)
      have fr86 := Nat.le_trans hX.size hn86
      have frhC86 := Nat.le_trans hC.size hn86
      have hb1 := hb1.zq2 hE26
      have hO := hO.ext hE26 fun _ _ => id
      have hX := hX.zq4 hE26
      have hC := hC.zq4 hE26
      have hX0 := hX
      have hC0 := hC
      refine wd_l rfl (zv2 I_ok rfl 1 1 rfl rfl rfl (by decide) hO (Src.slice (m := 1) ⟨rfl, .inr ⟨b86, 0, rfl, hb86.seg⟩⟩ OneC.h) (by dsimp only [maxLen]; simp only [List.length_append, zj5]; omega) (by dsimp only; simp only [List.length_append, zj5]; omega) fun p27 c27 w27 ho27 hE27 hB27 => ⟨hC.trans hE27 (fun y hy hF => (hqs y hF).elim id (fun h => absurd hy (Nat.not_lt.2 h))), ?_⟩)
      dsimp only at ho27 hE27 hB27 ⊢
      have hb1 := hb1.zq8 hO hE27 (show (5 : Nat) ≠ 46 from by decide)
      have hX := hX0.trans hE27 fun y hy hF => by have := hOn y hF; omega
      have hOn2 := newW hX0 hOn hB27
      have e3 : (be 1 x.kind.toNat ++ be 1 x.style.toNat ++ x.tree ++ be 1 x.parents.length ++ x.parents.flatten ++ x.base).length + 1 = (be 1 x.kind.toNat ++ be 1 x.style.toNat ++ x.tree ++ be 1 x.parents.length ++ x.parents.flatten ++ x.base ++ be 1 x.rows.length).length := by simp only [List.length_append, zj5] <;> omega
      obtain ⟨q, k, e1, e2, hO2⟩ : ∃ q k, q = p27 ∧ k = c27 ∧ Own w27 q (be 1 x.kind.toNat ++ be 1 x.style.toNat ++ x.tree ++ be 1 x.parents.length ++ x.parents.flatten ++ x.base ++ be 1 x.rows.length).length k 5 1 (zq6 (be 1 x.kind.toNat ++ be 1 x.style.toNat ++ x.tree ++ be 1 x.parents.length ++ x.parents.flatten ++ x.base ++ be 1 x.rows.length)) := ⟨_, _, rfl, rfl, by
       rw [← e3, zz8 (be 1 x.kind.toNat ++ be 1 x.style.toNat ++ x.tree ++ be 1 x.parents.length ++ x.parents.flatten ++ x.base)]
       exact ho27⟩
      rw [← e1] at hOn2 hB27
      have hqs := fun y hy => (hB27 y hy).elim (hqs y) fun h => .inr (Nat.le_trans hC0.size h)
      have hO := hO2
      have hOn := hOn2
      rw [← e1, ← e2, e3]
      refine wd_k I_ok 1 rfl (wd_sw (zv0 ?_))
      exact zz7 (q, k) rfl ⟨⟨hO, hOn⟩, hb1, hX⟩
     ·refine st_bs I_ok rfl 1 rfl rfl rfl (by decide) (by decide) (by simp [partsOk]) (l' := zq6 [UInt8.ofNat x.rows.length]) rfl fun b86 w28 hn86 hb86 hE28 hs28 => ⟨hC.zq4 hE28, ?_⟩
      have fr86 := Nat.le_trans hX.size hn86
      have frhC86 := Nat.le_trans hC.size hn86
      have hb1 := hb1.zq2 hE28
      have hO := hO.ext hE28 fun _ _ => id
      have hX := hX.zq4 hE28
      have hC := hC.zq4 hE28
      refine wx_plan [(3, false), (10, false), (11, true)] 0 rfl (by kernel_rfl) ?_
      have hX0 := hX
      have hC0 := hC
      refine wd_l rfl (zv2 I_ok rfl 1 1 rfl rfl rfl (by decide) hO (Src.slice (m := 32) ⟨IdIn.len hx.base, .inr ⟨b1, 0 + 36, rfl, (hb1.seg.obj hx).base⟩⟩ OneC.h) (by dsimp only [maxLen]; simp only [List.length_append, zj5]; omega) (by dsimp only; simp only [List.length_append, zj5]; omega) fun p29 c29 w29 ho29 hE29 hB29 => ⟨hC.trans hE29 (fun y hy hF => (hqs y hF).elim id (fun h => absurd hy (Nat.not_lt.2 h))), ?_⟩)
      have hC := hC.trans hE29 (fun y hy hF => (hqs y hF).elim id (fun h => absurd hy (Nat.not_lt.2 h)))
      dsimp only at ho29 hE29 hB29 ⊢
      have hb1 := hb1.zq8 hO hE29 (show (5 : Nat) ≠ 46 from by decide)
      try have hb86 := hb86.ext hE29 (fun hx => by have := hOl _ hx; omega)
      have hX := hX0.trans hE29 fun y hy hF => by have := hOn y hF; omega
      have hOn2 := newW hX0 hOn hB29
      have e3 : (be 1 x.kind.toNat ++ be 1 x.style.toNat ++ x.tree ++ be 1 x.parents.length ++ x.parents.flatten).length + 32 = (be 1 x.kind.toNat ++ be 1 x.style.toNat ++ x.tree ++ be 1 x.parents.length ++ x.parents.flatten ++ x.base).length := by simp only [List.length_append, zj5] <;> omega
      obtain ⟨q, k, e1, e2, hO2⟩ : ∃ q k, q = p29 ∧ k = c29 ∧ Own w29 q (be 1 x.kind.toNat ++ be 1 x.style.toNat ++ x.tree ++ be 1 x.parents.length ++ x.parents.flatten ++ x.base).length k 5 1 (zq6 (be 1 x.kind.toNat ++ be 1 x.style.toNat ++ x.tree ++ be 1 x.parents.length ++ x.parents.flatten ++ x.base)) := ⟨_, _, rfl, rfl, by
       rw [← e3, zz8 (be 1 x.kind.toNat ++ be 1 x.style.toNat ++ x.tree ++ be 1 x.parents.length ++ x.parents.flatten)]
       exact ho29⟩
      rw [← e1] at hOn2 hB29
      have hqs := fun y hy => (hB29 y hy).elim (hqs y) fun h => .inr (Nat.le_trans hC0.size h)
      have hO := hO2
      have hOn := hOn2
      rw [← e1, ← e2, e3]
      have hX0 := hX
      have hC0 := hC
      refine wd_l rfl (zv2 I_ok rfl 1 1 rfl rfl rfl (by decide) hO (Src.slice (m := 1) ⟨rfl, .inr ⟨b86, 0, rfl, hb86.seg⟩⟩ OneC.h) (by dsimp only [maxLen]; simp only [List.length_append, zj5]; omega) (by dsimp only; simp only [List.length_append, zj5]; omega) fun p30 c30 w30 ho30 hE30 hB30 => ⟨hC.trans hE30 (fun y hy hF => (hqs y hF).elim id (fun h => absurd hy (Nat.not_lt.2 h))), ?_⟩)
      dsimp only at ho30 hE30 hB30 ⊢
      have hb1 := hb1.zq8 hO hE30 (show (5 : Nat) ≠ 46 from by decide)
      have hX := hX0.trans hE30 fun y hy hF => by have := hOn y hF; omega
      have hOn2 := newW hX0 hOn hB30
      have e3 : (be 1 x.kind.toNat ++ be 1 x.style.toNat ++ x.tree ++ be 1 x.parents.length ++ x.parents.flatten ++ x.base).length + 1 = (be 1 x.kind.toNat ++ be 1 x.style.toNat ++ x.tree ++ be 1 x.parents.length ++ x.parents.flatten ++ x.base ++ be 1 x.rows.length).length := by simp only [List.length_append, zj5] <;> omega
      obtain ⟨q, k, e1, e2, hO2⟩ : ∃ q k, q = p30 ∧ k = c30 ∧ Own w30 q (be 1 x.kind.toNat ++ be 1 x.style.toNat ++ x.tree ++ be 1 x.parents.length ++ x.parents.flatten ++ x.base ++ be 1 x.rows.length).length k 5 1 (zq6 (be 1 x.kind.toNat ++ be 1 x.style.toNat ++ x.tree ++ be 1 x.parents.length ++ x.parents.flatten ++ x.base ++ be 1 x.rows.length)) := ⟨_, _, rfl, rfl, by
       rw [← e3, zz8 (be 1 x.kind.toNat ++ be 1 x.style.toNat ++ x.tree ++ be 1 x.parents.length ++ x.parents.flatten ++ x.base)]
       exact ho30⟩
      rw [← e1] at hOn2 hB30
      have hqs := fun y hy => (hB30 y hy).elim (hqs y) fun h => .inr (Nat.le_trans hC0.size h)
      have hO := hO2
      have hOn := hOn2
      rw [← e1, ← e2, e3]
      refine wd_k I_ok 1 rfl (wd_sw (zv0 ?_))
      exact zz7 (q, k) rfl ⟨⟨hO, hOn⟩, hb1, hX⟩
    rintro ⟨q, k⟩ w31 ⟨⟨hO, hOn⟩, hb1, hX⟩
    try dsimp only
    dsimp only at hO hOn
    refine zq5 (zq5 (zq0 (wl_p I_ok rfl (wl (st_ld I_ok rfl (hb1.seg.obj hx).rows ?_)))))
    rw [show (be 1 x.kind.toNat ++ be 1 x.style.toNat ++ x.tree ++ be 1 x.parents.length ++ x.parents.flatten ++ x.base ++ be 1 x.rows.length).length = (be 1 x.kind.toNat ++ be 1 x.style.toNat ++ x.tree ++ be 1 x.parents.length ++ x.parents.flatten ++ x.base ++ be 1 x.rows.length ++ (x.rows.take 0).flatMap chgB).length from by simp]
    refine wl_p I_ok rfl (zq3 (zq1 (zx4 ?_)))
    refine zv3 (α := Nat × Option Addr × Nat) [1, 90, 91] rfl (fun z => [(3, .slice z.2.1 (be 1 x.kind.toNat ++ be 1 x.style.toNat ++ x.tree ++ be 1 x.parents.length ++ x.parents.flatten ++ x.base ++ be 1 x.rows.length ++ (x.rows.take z.1).flatMap chgB).length z.2.2), (92, .int .i64 (z.1 : Int))]) (fun z u => (z.1 ≤ x.rows.length ∧ Own u z.2.1 (be 1 x.kind.toNat ++ be 1 x.style.toNat ++ x.tree ++ be 1 x.parents.length ++ x.parents.flatten ++ x.base ++ be 1 x.rows.length ++ (x.rows.take z.1).flatMap chgB).length z.2.2 5 1 (zq6 (be 1 x.kind.toNat ++ be 1 x.style.toNat ++ x.tree ++ be 1 x.parents.length ++ x.parents.flatten ++ x.base ++ be 1 x.rows.length ++ (x.rows.take z.1).flatMap chgB)) ∧ ∀ y, OwnB z.2.1 y → w.heap.size ≤ y) ∧ Blk u b1 46 (objC x a) ∧ Ext No w u) (fun z u => x.rows.length - z.1) (0, q, k) rfl ⟨⟨Nat.zero_le _, by simpa using hO, hOn⟩, hb1, hX⟩ ?_
    rintro ⟨i, q, k⟩ w32 ⟨⟨hi, hO, hOn⟩, hb1, hX⟩
    try dsimp only
    dsimp only at hi hO hOn
    refine zq5 (zq0 (wl_p I_ok rfl (zq3 (zq1 (zq5 (c_if rfl (fun hc => ?_) (fun hc => ?_)))))))
    ·have hi : i < x.rows.length := by omega
     obtain ⟨qb, qoff, hp, hsq⟩ := hxl.rows.rowAll (fun r _ => r.len) (by omega)
     rw [hp]
     have ha2 := hp48 _ (List.getElem_mem hi)
     have hfl : ((x.rows.take i).flatMap chgB).length ≤ (x.rows.take i).length * 400 := flat_le fun r hr => chgB_le (hp48 r (List.mem_of_mem_take hr))
     rw [List.length_take, Nat.min_eq_left (by omega)] at hfl
     refine zx7 (zq1 ?_)
     refine c_cutK (α := Option Addr × Nat) [1, 90, 91, 92] rfl (fun z => [(3, .slice z.1 (be 1 x.kind.toNat ++ be 1 x.style.toNat ++ x.tree ++ be 1 x.parents.length ++ x.parents.flatten ++ x.base ++ be 1 x.rows.length ++ (x.rows.take i).flatMap chgB ++ strB 1 (x.rows[i]).path ++ [isB (x.rows[i]).is] ++ strB 2 (x.rows[i]).text).length z.2)]) (fun z u => (Own u z.1 (be 1 x.kind.toNat ++ be 1 x.style.toNat ++ x.tree ++ be 1 x.parents.length ++ x.parents.flatten ++ x.base ++ be 1 x.rows.length ++ (x.rows.take i).flatMap chgB ++ strB 1 (x.rows[i]).path ++ [isB (x.rows[i]).is] ++ strB 2 (x.rows[i]).text).length z.2 5 1 (zq6 (be 1 x.kind.toNat ++ be 1 x.style.toNat ++ x.tree ++ be 1 x.parents.length ++ x.parents.flatten ++ x.base ++ be 1 x.rows.length ++ (x.rows.take i).flatMap chgB ++ strB 1 (x.rows[i]).path ++ [isB (x.rows[i]).is] ++ strB 2 (x.rows[i]).text)) ∧ ∀ y, OwnB z.1 y → w.heap.size ≤ y) ∧ Blk u b1 46 (objC x a) ∧ Ext No w u) ?_ ?_
     ·refine zx4 ?_
      refine zq5 (zq0 (wl (st_ix I_ok rfl 3 rfl i rfl (by omega) (qoff + i * 3) rfl (wl (st_ldN I_ok rfl ((hsq i hi).zq2 hX) rfl (wl (zz9 I_ok rfl fun b9 w33 hn9 hb9 hE33 => ?_)))))))
      have ne1_9 : b1 ≠ b9 := Nat.ne_of_lt (Nat.lt_of_lt_of_le hb1.lt hn9)
      have fr9 := Nat.le_trans hX.size hn9
      have hb1 := hb1.zq2 hE33
      have hO := hO.ext hE33 fun _ _ => id
      have hX := hX.zq4 hE33
      have hb9o := hb9
      refine wl (zj1 (l' := (x.rows[i]).cells) I_ok hb9 rfl rfl rfl rfl OneC.h fun w34 hb9 hE34 hs34 => ?_)
      have hb1 := hb1.ext1 hE34 ne1_9
      have hO := hO.zx9 hE34 hb9o (by decide)
      have hX := hX.zx1 hE34 fr9
      refine zq3 (zq1 (zq5 (zq0 (wl_p I_ok rfl (zq3 (zq1 (c_cutK (α := UInt8) [1, 3, 9, 90, 91, 92] rfl (fun z => [(10, .int .u8 (z.toNat : Int))]) (fun z u => u = w34 ∧ z = isB (x.rows[i]).is) ?_ ?_)))))))
      ·refine zq5 ?_
       refine zq0 (wl_p I_ok rfl (wl (st_ldb I_ok hb9 rfl rfl (zq3 (zq1 (c_cond rfl (fun hc => ?_) (fun hc => ?_)))))))
       ·have his : isB (x.rows[i]).is = 1 := by rw [isB, hc]; rfl
        refine zq0 (wl_p I_ok rfl (zq3 ?_))
        exact zz7 (1) rfl ⟨rfl, his.symm⟩
       ·have his : isB (x.rows[i]).is = 0 := by rw [isB, hc]; rfl
        refine zx7 ?_
        exact zz7 (0) rfl ⟨rfl, his.symm⟩
      rintro z w35 ⟨hu, rfl⟩
      have hu := hu.symm
      subst hu
      refine c_drawX rfl 13 13 [] (OwnB q) (by kernel_rfl) fun w36 hE36 hs36 => ?_
      have hd9 := hb9
      have hOd := hO
      have hb1 := hb1.zq2 hE36
      have hO := hO.ext hE36 fun _ _ => id
      have hX := hX.zq4 hE36
      have hC : Ext (OwnB q) _ w36 := hE36.no
      have hqs : ∀ y, OwnB q y → OwnB q y ∨ w34.heap.size ≤ y := fun y h => .inl h
      have hOl : ∀ y, OwnB q y → y < w34.heap.size := fun y h => hOd.lt h
      refine wx_plan [(0, true), (1, true), (2, true), (5, true), (8, true), (9, true)] 7 rfl (by kernel_rfl) (wd_k I_ok 2 rfl ?_)
      refine wd_ld I_ok rfl rfl (fun w' hw' => ((hd9.ext (show Ext (OwnB q) _ w' from hw') fun hx' => hOd.neTy hx' hd9 (by decide) rfl).cell rfl)) ?_
      refine wd_k I_ok 2 rfl (wd_ld I_ok rfl rfl (fun w' hw' => ((hd9.ext (show Ext (OwnB q) _ w' from hw') fun hx' => hOd.neTy hx' hd9 (by decide) rfl).cell rfl)) ?_)
      refine wd_tail rfl (wx_alt [3, 6] rfl (by kernel_rfl) ⟨⟨_, rfl, ?_⟩, ⟨_, rfl, ?_⟩, trivial⟩)
      ·refine zx2 Tryz.call105 rfl rfl rfl rfl rfl rfl (some6_calls w36 (x.rows[i]).path 1 (by decide) (by omega)) fun v37 w37 hr37 => ⟨(by obtain ⟨qp, kp, rfl, hqp, hqpn, hE37⟩ := hr37; exact hC.zq4 hE37), ?_⟩
       obtain ⟨qp, kp, rfl, hqp, hqpn, hE37⟩ := hr37
       have hb1 := hb1.zq2 hE37
       have hO := hO.ext hE37 fun _ _ => id
       have hX := hX.zq4 hE37
       have hC := hC.zq4 hE37
       refine wx_plan [] 6 rfl (by kernel_rfl) (wd_tail rfl (wx_alt [4, 6] rfl (by kernel_rfl) ⟨⟨_, rfl, ?_⟩, ⟨_, rfl, ?_⟩, trivial⟩))
       ·have hX0 := hX
        have hC0 := hC
        refine zv2 I_ok rfl 1 1 rfl rfl rfl (by decide) hO (Src.slice hqp.sl OneC.h) (by dsimp only [maxLen]; simp only [List.length_append, zj5, zx8]; omega) (by dsimp only; simp only [List.length_append, zj5, zx8]; omega) fun p38 c38 w38 ho38 hE38 hB38 => ⟨hC.trans hE38 (fun y hy hF => (hqs y hF).elim id (fun h => absurd hy (Nat.not_lt.2 h))), ?_⟩
        have hC := hC.trans hE38 (fun y hy hF => (hqs y hF).elim id (fun h => absurd hy (Nat.not_lt.2 h)))
        dsimp only at ho38 hE38 hB38 ⊢
        have hb1 := hb1.zq8 hO hE38 (show (5 : Nat) ≠ 46 from by decide)
        try have hb104 := hb104.ext hE38 (fun hx => by have := hOl _ hx; omega)
        have hX := hX0.trans hE38 fun y hy hF => by have := hOn y hF; omega
        have hOn2 := newW hX0 hOn hB38
        have e3 : (be 1 x.kind.toNat ++ be 1 x.style.toNat ++ x.tree ++ be 1 x.parents.length ++ x.parents.flatten ++ x.base ++ be 1 x.rows.length ++ (x.rows.take i).flatMap chgB).length + (strB 1 (x.rows[i]).path).length = (be 1 x.kind.toNat ++ be 1 x.style.toNat ++ x.tree ++ be 1 x.parents.length ++ x.parents.flatten ++ x.base ++ be 1 x.rows.length ++ (x.rows.take i).flatMap chgB ++ strB 1 (x.rows[i]).path).length := by simp only [List.length_append, zj5, zx8] <;> omega
        obtain ⟨q, k, e1, e2, hO2⟩ : ∃ q k, q = p38 ∧ k = c38 ∧ Own w38 q (be 1 x.kind.toNat ++ be 1 x.style.toNat ++ x.tree ++ be 1 x.parents.length ++ x.parents.flatten ++ x.base ++ be 1 x.rows.length ++ (x.rows.take i).flatMap chgB ++ strB 1 (x.rows[i]).path).length k 5 1 (zq6 (be 1 x.kind.toNat ++ be 1 x.style.toNat ++ x.tree ++ be 1 x.parents.length ++ x.parents.flatten ++ x.base ++ be 1 x.rows.length ++ (x.rows.take i).flatMap chgB ++ strB 1 (x.rows[i]).path)) := ⟨_, _, rfl, rfl, by
         rw [← e3, zz8 (be 1 x.kind.toNat ++ be 1 x.style.toNat ++ x.tree ++ be 1 x.parents.length ++ x.parents.flatten ++ x.base ++ be 1 x.rows.length ++ (x.rows.take i).flatMap chgB)]
         exact ho38⟩
        rw [← e1] at hOn2 hB38
        have hqs := fun y hy => (hB38 y hy).elim (hqs y) fun h => .inr (Nat.le_trans hC0.size h)
        have hO := hO2
        have hOn := hOn2
        rw [← e1, ← e2, e3]
        refine wx_plan [(6, false), (7, false), (10, false), (11, false), (12, true)] 0 rfl (by kernel_rfl) ?_
        refine wd_l rfl (st_bs I_ok rfl 1 rfl rfl rfl (by decide) (by decide) (by simp [partsOk]) (l' := zq6 [isB (x.rows[i]).is]) rfl fun b104 w39 hn104 hb104 hE39 hs39 => ⟨hC.zq4 hE39, ?_⟩)
        have fr104 := Nat.le_trans hX.size hn104
        have frhC104 := Nat.le_trans hC.size hn104
        have hb1 := hb1.zq2 hE39
        have hO := hO.ext hE39 fun _ _ => id
        have hX := hX.zq4 hE39
        have hC := hC.zq4 hE39
        have hX0 := hX
        have hC0 := hC
        refine wd_l rfl (zv2 I_ok rfl 1 1 rfl rfl rfl (by decide) hO (Src.slice (m := 1) ⟨rfl, .inr ⟨b104, 0, rfl, hb104.seg⟩⟩ OneC.h) (by dsimp only [maxLen]; simp only [List.length_append, zj5, zx8]; omega) (by dsimp only; simp only [List.length_append, zj5, zx8]; omega) fun p40 c40 w40 ho40 hE40 hB40 => ⟨hC.trans hE40 (fun y hy hF => (hqs y hF).elim id (fun h => absurd hy (Nat.not_lt.2 h))), ?_⟩)
        have hC := hC.trans hE40 (fun y hy hF => (hqs y hF).elim id (fun h => absurd hy (Nat.not_lt.2 h)))
        dsimp only at ho40 hE40 hB40 ⊢
        have hb1 := hb1.zq8 hO hE40 (show (5 : Nat) ≠ 46 from by decide)
        have hX := hX0.trans hE40 fun y hy hF => by have := hOn y hF; omega
        have hOn2 := newW hX0 hOn hB40
        have e3 : (be 1 x.kind.toNat ++ be 1 x.style.toNat ++ x.tree ++ be 1 x.parents.length ++ x.parents.flatten ++ x.base ++ be 1 x.rows.length ++ (x.rows.take i).flatMap chgB ++ strB 1 (x.rows[i]).path).length + 1 = (be 1 x.kind.toNat ++ be 1 x.style.toNat ++ x.tree ++ be 1 x.parents.length ++ x.parents.flatten ++ x.base ++ be 1 x.rows.length ++ (x.rows.take i).flatMap chgB ++ strB 1 (x.rows[i]).path ++ [isB (x.rows[i]).is]).length := by simp only [List.length_append, zj5, zx8, List.length_cons, List.length_nil] <;> omega
        obtain ⟨q, k, e1, e2, hO2⟩ : ∃ q k, q = p40 ∧ k = c40 ∧ Own w40 q (be 1 x.kind.toNat ++ be 1 x.style.toNat ++ x.tree ++ be 1 x.parents.length ++ x.parents.flatten ++ x.base ++ be 1 x.rows.length ++ (x.rows.take i).flatMap chgB ++ strB 1 (x.rows[i]).path ++ [isB (x.rows[i]).is]).length k 5 1 (zq6 (be 1 x.kind.toNat ++ be 1 x.style.toNat ++ x.tree ++ be 1 x.parents.length ++ x.parents.flatten ++ x.base ++ be 1 x.rows.length ++ (x.rows.take i).flatMap chgB ++ strB 1 (x.rows[i]).path ++ [isB (x.rows[i]).is])) := ⟨_, _, rfl, rfl, by
         rw [← e3, zz8 (be 1 x.kind.toNat ++ be 1 x.style.toNat ++ x.tree ++ be 1 x.parents.length ++ x.parents.flatten ++ x.base ++ be 1 x.rows.length ++ (x.rows.take i).flatMap chgB ++ strB 1 (x.rows[i]).path)]
         exact ho40⟩
        rw [← e1] at hOn2 hB40
        have hqs := fun y hy => (hB40 y hy).elim (hqs y) fun h => .inr (Nat.le_trans hC0.size h)
        have hO := hO2
        have hOn := hOn2
        rw [← e1, ← e2, e3]
        refine wd_l rfl (zx2 Tryz.call105 rfl rfl rfl rfl rfl rfl (some6_calls w40 (x.rows[i]).text 2 (by decide) (by omega)) fun v41 w41 hr41 => ⟨(by obtain ⟨qt, kt, rfl, hqt, hqtn, hE41⟩ := hr41; exact hC.zq4 hE41), ?_⟩)
        obtain ⟨qt, kt, rfl, hqt, hqtn, hE41⟩ := hr41
        have hb1 := hb1.zq2 hE41
        have hO := hO.ext hE41 fun _ _ => id
        have hX := hX.zq4 hE41
        have hC := hC.zq4 hE41
        have hX0 := hX
        have hC0 := hC
        refine wd_l rfl (zv2 I_ok rfl 1 1 rfl rfl rfl (by decide) hO (Src.slice hqt.sl OneC.h) (by dsimp only [maxLen]; simp only [List.length_append, zj5, zx8, List.length_cons, List.length_nil]; omega) (by dsimp only; simp only [List.length_append, zj5, zx8, List.length_cons, List.length_nil]; omega) fun p42 c42 w42 ho42 hE42 hB42 => ⟨hC.trans hE42 (fun y hy hF => (hqs y hF).elim id (fun h => absurd hy (Nat.not_lt.2 h))), ?_⟩)
        dsimp only at ho42 hE42 hB42 ⊢
        have hb1 := hb1.zq8 hO hE42 (show (5 : Nat) ≠ 46 from by decide)
        have hX := hX0.trans hE42 fun y hy hF => by have := hOn y hF; omega
        have hOn2 := newW hX0 hOn hB42
        have e3 : (be 1 x.kind.toNat ++ be 1 x.style.toNat ++ x.tree ++ be 1 x.parents.length ++ x.parents.flatten ++ x.base ++ be 1 x.rows.length ++ (x.rows.take i).flatMap chgB ++ strB 1 (x.rows[i]).path ++ [isB (x.rows[i]).is]).length + (strB 2 (x.rows[i]).text).length = (be 1 x.kind.toNat ++ be 1 x.style.toNat ++ x.tree ++ be 1 x.parents.length ++ x.parents.flatten ++ x.base ++ be 1 x.rows.length ++ (x.rows.take i).flatMap chgB ++ strB 1 (x.rows[i]).path ++ [isB (x.rows[i]).is] ++ strB 2 (x.rows[i]).text).length := by simp only [List.length_append, zj5, zx8, List.length_cons, List.length_nil] <;> omega
        obtain ⟨q, k, e1, e2, hO2⟩ : ∃ q k, q = p42 ∧ k = c42 ∧ Own w42 q (be 1 x.kind.toNat ++ be 1 x.style.toNat ++ x.tree ++ be 1 x.parents.length ++ x.parents.flatten ++ x.base ++ be 1 x.rows.length ++ (x.rows.take i).flatMap chgB ++ strB 1 (x.rows[i]).path ++ [isB (x.rows[i]).is] ++ strB 2 (x.rows[i]).text).length k 5 1 (zq6 (be 1 x.kind.toNat ++ be 1 x.style.toNat ++ x.tree ++ be 1 x.parents.length ++ x.parents.flatten ++ x.base ++ be 1 x.rows.length ++ (x.rows.take i).flatMap chgB ++ strB 1 (x.rows[i]).path ++ [isB (x.rows[i]).is] ++ strB 2 (x.rows[i]).text)) := ⟨_, _, rfl, rfl, by
         rw [← e3, zz8 (be 1 x.kind.toNat ++ be 1 x.style.toNat ++ x.tree ++ be 1 x.parents.length ++ x.parents.flatten ++ x.base ++ be 1 x.rows.length ++ (x.rows.take i).flatMap chgB ++ strB 1 (x.rows[i]).path ++ [isB (x.rows[i]).is])]
         exact ho42⟩
        rw [← e1] at hOn2 hB42
        have hqs := fun y hy => (hB42 y hy).elim (hqs y) fun h => .inr (Nat.le_trans hC0.size h)
        have hO := hO2
        have hOn := hOn2
        rw [← e1, ← e2, e3]
        refine wd_k I_ok 1 rfl (wd_sw (zv0 ?_))
        exact zx6 (zz7 (q, k) rfl ⟨⟨hO, hOn⟩, hb1, hX⟩)
       ·refine st_bs I_ok rfl 1 rfl rfl rfl (by decide) (by decide) (by simp [partsOk]) (l' := zq6 [isB (x.rows[i]).is]) rfl fun b104 w43 hn104 hb104 hE43 hs43 => ⟨hC.zq4 hE43, ?_⟩
        have fr104 := Nat.le_trans hX.size hn104
        have frhC104 := Nat.le_trans hC.size hn104
        have hb1 := hb1.zq2 hE43
        have hO := hO.ext hE43 fun _ _ => id
        have hqp := hqp.ext hE43 fun _ _ => id
        have hX := hX.zq4 hE43
        have hC := hC.zq4 hE43
        refine wx_plan [(4, false), (7, false), (10, false), (11, false), (12, true)] 0 rfl (by kernel_rfl) ?_
        have hX0 := hX
        have hC0 := hC
        refine wd_l rfl (zv2 I_ok rfl 1 1 rfl rfl rfl (by decide) hO (Src.slice hqp.sl OneC.h) (by dsimp only [maxLen]; simp only [List.length_append, zj5, zx8]; omega) (by dsimp only; simp only [List.length_append, zj5, zx8]; omega) fun p44 c44 w44 ho44 hE44 hB44 => ⟨hC.trans hE44 (fun y hy hF => (hqs y hF).elim id (fun h => absurd hy (Nat.not_lt.2 h))), ?_⟩)
        have hC := hC.trans hE44 (fun y hy hF => (hqs y hF).elim id (fun h => absurd hy (Nat.not_lt.2 h)))
        dsimp only at ho44 hE44 hB44 ⊢
        have hb1 := hb1.zq8 hO hE44 (show (5 : Nat) ≠ 46 from by decide)
        try have hb104 := hb104.ext hE44 (fun hx => by have := hOl _ hx; omega)
        have hX := hX0.trans hE44 fun y hy hF => by have := hOn y hF; omega
        have hOn2 := newW hX0 hOn hB44
        have e3 : (be 1 x.kind.toNat ++ be 1 x.style.toNat ++ x.tree ++ be 1 x.parents.length ++ x.parents.flatten ++ x.base ++ be 1 x.rows.length ++ (x.rows.take i).flatMap chgB).length + (strB 1 (x.rows[i]).path).length = (be 1 x.kind.toNat ++ be 1 x.style.toNat ++ x.tree ++ be 1 x.parents.length ++ x.parents.flatten ++ x.base ++ be 1 x.rows.length ++ (x.rows.take i).flatMap chgB ++ strB 1 (x.rows[i]).path).length := by simp only [List.length_append, zj5, zx8] <;> omega
        obtain ⟨q, k, e1, e2, hO2⟩ : ∃ q k, q = p44 ∧ k = c44 ∧ Own w44 q (be 1 x.kind.toNat ++ be 1 x.style.toNat ++ x.tree ++ be 1 x.parents.length ++ x.parents.flatten ++ x.base ++ be 1 x.rows.length ++ (x.rows.take i).flatMap chgB ++ strB 1 (x.rows[i]).path).length k 5 1 (zq6 (be 1 x.kind.toNat ++ be 1 x.style.toNat ++ x.tree ++ be 1 x.parents.length ++ x.parents.flatten ++ x.base ++ be 1 x.rows.length ++ (x.rows.take i).flatMap chgB ++ strB 1 (x.rows[i]).path)) := ⟨_, _, rfl, rfl, by
         rw [← e3, zz8 (be 1 x.kind.toNat ++ be 1 x.style.toNat ++ x.tree ++ be 1 x.parents.length ++ x.parents.flatten ++ x.base ++ be 1 x.rows.length ++ (x.rows.take i).flatMap chgB)]
         exact ho44⟩
        rw [← e1] at hOn2 hB44
        have hqs := fun y hy => (hB44 y hy).elim (hqs y) fun h => .inr (Nat.le_trans hC0.size h)
        have hO := hO2
        have hOn := hOn2
        rw [← e1, ← e2, e3]
        have hX0 := hX
        have hC0 := hC
        refine wd_l rfl (zv2 I_ok rfl 1 1 rfl rfl rfl (by decide) hO (Src.slice (m := 1) ⟨rfl, .inr ⟨b104, 0, rfl, hb104.seg⟩⟩ OneC.h) (by dsimp only [maxLen]; simp only [List.length_append, zj5, zx8]; omega) (by dsimp only; simp only [List.length_append, zj5, zx8]; omega) fun p45 c45 w45 ho45 hE45 hB45 => ⟨hC.trans hE45 (fun y hy hF => (hqs y hF).elim id (fun h => absurd hy (Nat.not_lt.2 h))), ?_⟩)
        have hC := hC.trans hE45 (fun y hy hF => (hqs y hF).elim id (fun h => absurd hy (Nat.not_lt.2 h)))
        dsimp only at ho45 hE45 hB45 ⊢
        have hb1 := hb1.zq8 hO hE45 (show (5 : Nat) ≠ 46 from by decide)
        have hX := hX0.trans hE45 fun y hy hF => by have := hOn y hF; omega
        have hOn2 := newW hX0 hOn hB45
        have e3 : (be 1 x.kind.toNat ++ be 1 x.style.toNat ++ x.tree ++ be 1 x.parents.length ++ x.parents.flatten ++ x.base ++ be 1 x.rows.length ++ (x.rows.take i).flatMap chgB ++ strB 1 (x.rows[i]).path).length + 1 = (be 1 x.kind.toNat ++ be 1 x.style.toNat ++ x.tree ++ be 1 x.parents.length ++ x.parents.flatten ++ x.base ++ be 1 x.rows.length ++ (x.rows.take i).flatMap chgB ++ strB 1 (x.rows[i]).path ++ [isB (x.rows[i]).is]).length := by simp only [List.length_append, zj5, zx8, List.length_cons, List.length_nil] <;> omega
        obtain ⟨q, k, e1, e2, hO2⟩ : ∃ q k, q = p45 ∧ k = c45 ∧ Own w45 q (be 1 x.kind.toNat ++ be 1 x.style.toNat ++ x.tree ++ be 1 x.parents.length ++ x.parents.flatten ++ x.base ++ be 1 x.rows.length ++ (x.rows.take i).flatMap chgB ++ strB 1 (x.rows[i]).path ++ [isB (x.rows[i]).is]).length k 5 1 (zq6 (be 1 x.kind.toNat ++ be 1 x.style.toNat ++ x.tree ++ be 1 x.parents.length ++ x.parents.flatten ++ x.base ++ be 1 x.rows.length ++ (x.rows.take i).flatMap chgB ++ strB 1 (x.rows[i]).path ++ [isB (x.rows[i]).is])) := ⟨_, _, rfl, rfl, by
         rw [← e3, zz8 (be 1 x.kind.toNat ++ be 1 x.style.toNat ++ x.tree ++ be 1 x.parents.length ++ x.parents.flatten ++ x.base ++ be 1 x.rows.length ++ (x.rows.take i).flatMap chgB ++ strB 1 (x.rows[i]).path)]
         exact ho45⟩
        rw [← e1] at hOn2 hB45
        have hqs := fun y hy => (hB45 y hy).elim (hqs y) fun h => .inr (Nat.le_trans hC0.size h)
        have hO := hO2
        have hOn := hOn2
        rw [← e1, ← e2, e3]
        refine wd_l rfl (zx2 Tryz.call105 rfl rfl rfl rfl rfl rfl (some6_calls w45 (x.rows[i]).text 2 (by decide) (by omega)) fun v46 w46 hr46 => ⟨(by obtain ⟨qt, kt, rfl, hqt, hqtn, hE46⟩ := hr46; exact hC.zq4 hE46), ?_⟩)
        obtain ⟨qt, kt, rfl, hqt, hqtn, hE46⟩ := hr46
        have hb1 := hb1.zq2 hE46
        have hO := hO.ext hE46 fun _ _ => id
        have hX := hX.zq4 hE46
        have hC := hC.zq4 hE46
        have hX0 := hX
        have hC0 := hC
        refine wd_l rfl (zv2 I_ok rfl 1 1 rfl rfl rfl (by decide) hO (Src.slice hqt.sl OneC.h) (by dsimp only [maxLen]; simp only [List.length_append, zj5, zx8, List.length_cons, List.length_nil]; omega) (by dsimp only; simp only [List.length_append, zj5, zx8, List.length_cons, List.length_nil]; omega) fun p47 c47 w47 ho47 hE47 hB47 => ⟨hC.trans hE47 (fun y hy hF => (hqs y hF).elim id (fun h => absurd hy (Nat.not_lt.2 h))), ?_⟩)
        dsimp only at ho47 hE47 hB47 ⊢
        have hb1 := hb1.zq8 hO hE47 (show (5 : Nat) ≠ 46 from by decide)
        have hX := hX0.trans hE47 fun y hy hF => by have := hOn y hF; omega
        have hOn2 := newW hX0 hOn hB47
        have e3 : (be 1 x.kind.toNat ++ be 1 x.style.toNat ++ x.tree ++ be 1 x.parents.length ++ x.parents.flatten ++ x.base ++ be 1 x.rows.length ++ (x.rows.take i).flatMap chgB ++ strB 1 (x.rows[i]).path ++ [isB (x.rows[i]).is]).length + (strB 2 (x.rows[i]).text).length = (be 1 x.kind.toNat ++ be 1 x.style.toNat ++ x.tree ++ be 1 x.parents.length ++ x.parents.flatten ++ x.base ++ be 1 x.rows.length ++ (x.rows.take i).flatMap chgB ++ strB 1 (x.rows[i]).path ++ [isB (x.rows[i]).is] ++ strB 2 (x.rows[i]).text).length := by simp only [List.length_append, zj5, zx8, List.length_cons, List.length_nil] <;> omega
        obtain ⟨q, k, e1, e2, hO2⟩ : ∃ q k, q = p47 ∧ k = c47 ∧ Own w47 q (be 1 x.kind.toNat ++ be 1 x.style.toNat ++ x.tree ++ be 1 x.parents.length ++ x.parents.flatten ++ x.base ++ be 1 x.rows.length ++ (x.rows.take i).flatMap chgB ++ strB 1 (x.rows[i]).path ++ [isB (x.rows[i]).is] ++ strB 2 (x.rows[i]).text).length k 5 1 (zq6 (be 1 x.kind.toNat ++ be 1 x.style.toNat ++ x.tree ++ be 1 x.parents.length ++ x.parents.flatten ++ x.base ++ be 1 x.rows.length ++ (x.rows.take i).flatMap chgB ++ strB 1 (x.rows[i]).path ++ [isB (x.rows[i]).is] ++ strB 2 (x.rows[i]).text)) := ⟨_, _, rfl, rfl, by
         rw [← e3, zz8 (be 1 x.kind.toNat ++ be 1 x.style.toNat ++ x.tree ++ be 1 x.parents.length ++ x.parents.flatten ++ x.base ++ be 1 x.rows.length ++ (x.rows.take i).flatMap chgB ++ strB 1 (x.rows[i]).path ++ [isB (x.rows[i]).is])]
         exact ho47⟩
        rw [← e1] at hOn2 hB47
        have hqs := fun y hy => (hB47 y hy).elim (hqs y) fun h => .inr (Nat.le_trans hC0.size h)
        have hO := hO2
        have hOn := hOn2
        rw [← e1, ← e2, e3]
        refine wd_k I_ok 1 rfl (wd_sw (zv0 ?_))
        exact zx6 (zz7 (q, k) rfl ⟨⟨hO, hOn⟩, hb1, hX⟩)
      ·refine st_bs I_ok rfl 1 rfl rfl rfl (by decide) (by decide) (by simp [partsOk]) (l' := zq6 [isB (x.rows[i]).is]) rfl fun b104 w48 hn104 hb104 hE48 hs48 => ⟨hC.zq4 hE48, ?_⟩
       have fr104 := Nat.le_trans hX.size hn104
       have frhC104 := Nat.le_trans hC.size hn104
       have hb1 := hb1.zq2 hE48
       have hO := hO.ext hE48 fun _ _ => id
       have hX := hX.zq4 hE48
       have hC := hC.zq4 hE48
       refine wx_plan [(3, false), (4, false), (7, false), (10, false), (11, false), (12, true)] 0 rfl (by kernel_rfl) ?_
       refine wd_l rfl (zx2 Tryz.call105 rfl rfl rfl rfl rfl rfl (some6_calls w48 (x.rows[i]).path 1 (by decide) (by omega)) fun v49 w49 hr49 => ⟨(by obtain ⟨qp, kp, rfl, hqp, hqpn, hE49⟩ := hr49; exact hC.zq4 hE49), ?_⟩)
       obtain ⟨qp, kp, rfl, hqp, hqpn, hE49⟩ := hr49
       have hb1 := hb1.zq2 hE49
       have hb104 := hb104.zq2 hE49
       have hO := hO.ext hE49 fun _ _ => id
       have hX := hX.zq4 hE49
       have hC := hC.zq4 hE49
       have hX0 := hX
       have hC0 := hC
       refine wd_l rfl (zv2 I_ok rfl 1 1 rfl rfl rfl (by decide) hO (Src.slice hqp.sl OneC.h) (by dsimp only [maxLen]; simp only [List.length_append, zj5, zx8]; omega) (by dsimp only; simp only [List.length_append, zj5, zx8]; omega) fun p50 c50 w50 ho50 hE50 hB50 => ⟨hC.trans hE50 (fun y hy hF => (hqs y hF).elim id (fun h => absurd hy (Nat.not_lt.2 h))), ?_⟩)
       have hC := hC.trans hE50 (fun y hy hF => (hqs y hF).elim id (fun h => absurd hy (Nat.not_lt.2 h)))
       dsimp only at ho50 hE50 hB50 ⊢
       have hb1 := hb1.zq8 hO hE50 (show (5 : Nat) ≠ 46 from by decide)
       try have hb104 := hb104.ext hE50 (fun hx => by have := hOl _ hx; omega)
       have hX := hX0.trans hE50 fun y hy hF => by have := hOn y hF; omega
       have hOn2 := newW hX0 hOn hB50
       have e3 : (be 1 x.kind.toNat ++ be 1 x.style.toNat ++ x.tree ++ be 1 x.parents.length ++ x.parents.flatten ++ x.base ++ be 1 x.rows.length ++ (x.rows.take i).flatMap chgB).length + (strB 1 (x.rows[i]).path).length = (be 1 x.kind.toNat ++ be 1 x.style.toNat ++ x.tree ++ be 1 x.parents.length ++ x.parents.flatten ++ x.base ++ be 1 x.rows.length ++ (x.rows.take i).flatMap chgB ++ strB 1 (x.rows[i]).path).length := by simp only [List.length_append, zj5, zx8] <;> omega
       obtain ⟨q, k, e1, e2, hO2⟩ : ∃ q k, q = p50 ∧ k = c50 ∧ Own w50 q (be 1 x.kind.toNat ++ be 1 x.style.toNat ++ x.tree ++ be 1 x.parents.length ++ x.parents.flatten ++ x.base ++ be 1 x.rows.length ++ (x.rows.take i).flatMap chgB ++ strB 1 (x.rows[i]).path).length k 5 1 (zq6 (be 1 x.kind.toNat ++ be 1 x.style.toNat ++ x.tree ++ be 1 x.parents.length ++ x.parents.flatten ++ x.base ++ be 1 x.rows.length ++ (x.rows.take i).flatMap chgB ++ strB 1 (x.rows[i]).path)) := ⟨_, _, rfl, rfl, by
        rw [← e3, zz8 (be 1 x.kind.toNat ++ be 1 x.style.toNat ++ x.tree ++ be 1 x.parents.length ++ x.parents.flatten ++ x.base ++ be 1 x.rows.length ++ (x.rows.take i).flatMap chgB)]
        exact ho50⟩
       rw [← e1] at hOn2 hB50
       have hqs := fun y hy => (hB50 y hy).elim (hqs y) fun h => .inr (Nat.le_trans hC0.size h)
       have hO := hO2
       have hOn := hOn2
       rw [← e1, ← e2, e3]
       have hX0 := hX
       have hC0 := hC
       refine wd_l rfl (zv2 I_ok rfl 1 1 rfl rfl rfl (by decide) hO (Src.slice (m := 1) ⟨rfl, .inr ⟨b104, 0, rfl, hb104.seg⟩⟩ OneC.h) (by dsimp only [maxLen]; simp only [List.length_append, zj5, zx8]; omega) (by dsimp only; simp only [List.length_append, zj5, zx8]; omega) fun p51 c51 w51 ho51 hE51 hB51 => ⟨hC.trans hE51 (fun y hy hF => (hqs y hF).elim id (fun h => absurd hy (Nat.not_lt.2 h))), ?_⟩)
       have hC := hC.trans hE51 (fun y hy hF => (hqs y hF).elim id (fun h => absurd hy (Nat.not_lt.2 h)))
       dsimp only at ho51 hE51 hB51 ⊢
       have hb1 := hb1.zq8 hO hE51 (show (5 : Nat) ≠ 46 from by decide)
       have hX := hX0.trans hE51 fun y hy hF => by have := hOn y hF; omega
       have hOn2 := newW hX0 hOn hB51
       have e3 : (be 1 x.kind.toNat ++ be 1 x.style.toNat ++ x.tree ++ be 1 x.parents.length ++ x.parents.flatten ++ x.base ++ be 1 x.rows.length ++ (x.rows.take i).flatMap chgB ++ strB 1 (x.rows[i]).path).length + 1 = (be 1 x.kind.toNat ++ be 1 x.style.toNat ++ x.tree ++ be 1 x.parents.length ++ x.parents.flatten ++ x.base ++ be 1 x.rows.length ++ (x.rows.take i).flatMap chgB ++ strB 1 (x.rows[i]).path ++ [isB (x.rows[i]).is]).length := by simp only [List.length_append, zj5, zx8, List.length_cons, List.length_nil] <;> omega
       obtain ⟨q, k, e1, e2, hO2⟩ : ∃ q k, q = p51 ∧ k = c51 ∧ Own w51 q (be 1 x.kind.toNat ++ be 1 x.style.toNat ++ x.tree ++ be 1 x.parents.length ++ x.parents.flatten ++ x.base ++ be 1 x.rows.length ++ (x.rows.take i).flatMap chgB ++ strB 1 (x.rows[i]).path ++ [isB (x.rows[i]).is]).length k 5 1 (zq6 (be 1 x.kind.toNat ++ be 1 x.style.toNat ++ x.tree ++ be 1 x.parents.length ++ x.parents.flatten ++ x.base ++ be 1 x.rows.length ++ (x.rows.take i).flatMap chgB ++ strB 1 (x.rows[i]).path ++ [isB (x.rows[i]).is])) := ⟨_, _, rfl, rfl, by
        rw [← e3, zz8 (be 1 x.kind.toNat ++ be 1 x.style.toNat ++ x.tree ++ be 1 x.parents.length ++ x.parents.flatten ++ x.base ++ be 1 x.rows.length ++ (x.rows.take i).flatMap chgB ++ strB 1 (x.rows[i]).path)]
        exact ho51⟩
       rw [← e1] at hOn2 hB51
       have hqs := fun y hy => (hB51 y hy).elim (hqs y) fun h => .inr (Nat.le_trans hC0.size h)
       have hO := hO2
       have hOn := hOn2
       rw [← e1, ← e2, e3]
       refine wd_l rfl (zx2 Tryz.call105 rfl rfl rfl rfl rfl rfl (some6_calls w51 (x.rows[i]).text 2 (by decide) (by omega)) fun v52 w52 hr52 => ⟨(by obtain ⟨qt, kt, rfl, hqt, hqtn, hE52⟩ := hr52; exact hC.zq4 hE52), ?_⟩)
       obtain ⟨qt, kt, rfl, hqt, hqtn, hE52⟩ := hr52
       have hb1 := hb1.zq2 hE52
       have hO := hO.ext hE52 fun _ _ => id
       have hX := hX.zq4 hE52
       have hC := hC.zq4 hE52
       have hX0 := hX
       have hC0 := hC
       refine wd_l rfl (zv2 I_ok rfl 1 1 rfl rfl rfl (by decide) hO (Src.slice hqt.sl OneC.h) (by dsimp only [maxLen]; simp only [List.length_append, zj5, zx8, List.length_cons, List.length_nil]; omega) (by dsimp only; simp only [List.length_append, zj5, zx8, List.length_cons, List.length_nil]; omega) fun p53 c53 w53 ho53 hE53 hB53 => ⟨hC.trans hE53 (fun y hy hF => (hqs y hF).elim id (fun h => absurd hy (Nat.not_lt.2 h))), ?_⟩)
       dsimp only at ho53 hE53 hB53 ⊢
       have hb1 := hb1.zq8 hO hE53 (show (5 : Nat) ≠ 46 from by decide)
       have hX := hX0.trans hE53 fun y hy hF => by have := hOn y hF; omega
       have hOn2 := newW hX0 hOn hB53
       have e3 : (be 1 x.kind.toNat ++ be 1 x.style.toNat ++ x.tree ++ be 1 x.parents.length ++ x.parents.flatten ++ x.base ++ be 1 x.rows.length ++ (x.rows.take i).flatMap chgB ++ strB 1 (x.rows[i]).path ++ [isB (x.rows[i]).is]).length + (strB 2 (x.rows[i]).text).length = (be 1 x.kind.toNat ++ be 1 x.style.toNat ++ x.tree ++ be 1 x.parents.length ++ x.parents.flatten ++ x.base ++ be 1 x.rows.length ++ (x.rows.take i).flatMap chgB ++ strB 1 (x.rows[i]).path ++ [isB (x.rows[i]).is] ++ strB 2 (x.rows[i]).text).length := by simp only [List.length_append, zj5, zx8, List.length_cons, List.length_nil] <;> omega
       obtain ⟨q, k, e1, e2, hO2⟩ : ∃ q k, q = p53 ∧ k = c53 ∧ Own w53 q (be 1 x.kind.toNat ++ be 1 x.style.toNat ++ x.tree ++ be 1 x.parents.length ++ x.parents.flatten ++ x.base ++ be 1 x.rows.length ++ (x.rows.take i).flatMap chgB ++ strB 1 (x.rows[i]).path ++ [isB (x.rows[i]).is] ++ strB 2 (x.rows[i]).text).length k 5 1 (zq6 (be 1 x.kind.toNat ++ be 1 x.style.toNat ++ x.tree ++ be 1 x.parents.length ++ x.parents.flatten ++ x.base ++ be 1 x.rows.length ++ (x.rows.take i).flatMap chgB ++ strB 1 (x.rows[i]).path ++ [isB (x.rows[i]).is] ++ strB 2 (x.rows[i]).text)) := ⟨_, _, rfl, rfl, by
        rw [← e3, zz8 (be 1 x.kind.toNat ++ be 1 x.style.toNat ++ x.tree ++ be 1 x.parents.length ++ x.parents.flatten ++ x.base ++ be 1 x.rows.length ++ (x.rows.take i).flatMap chgB ++ strB 1 (x.rows[i]).path ++ [isB (x.rows[i]).is])]
        exact ho53⟩
       rw [← e1] at hOn2 hB53
       have hqs := fun y hy => (hB53 y hy).elim (hqs y) fun h => .inr (Nat.le_trans hC0.size h)
       have hO := hO2
       have hOn := hOn2
       rw [← e1, ← e2, e3]
       refine wd_k I_ok 1 rfl (wd_sw (zv0 ?_))
       exact zx6 (zz7 (q, k) rfl ⟨⟨hO, hOn⟩, hb1, hX⟩)
     rintro ⟨q, k⟩ w54 ⟨⟨hO, hOn⟩, hb1, hX⟩
     try dsimp only
     dsimp only at hO hOn
     refine zq0 (wl_p I_ok rfl ?_)
     rw [IntWalk.i64_in _ (by omega)]
     refine zq3 ?_
     exact zv1 (i + 1, q, k) (by rw [show be 1 x.kind.toNat ++ be 1 x.style.toNat ++ x.tree ++ be 1 x.parents.length ++ x.parents.flatten ++ x.base ++ be 1 x.rows.length ++ (x.rows.take (i + 1)).flatMap chgB = be 1 x.kind.toNat ++ be 1 x.style.toNat ++ x.tree ++ be 1 x.parents.length ++ x.parents.flatten ++ x.base ++ be 1 x.rows.length ++ (x.rows.take i).flatMap chgB ++ strB 1 (x.rows[i]).path ++ [isB (x.rows[i]).is] ++ strB 2 (x.rows[i]).text from by rw [flat_take hi, chgB]; simp]; rfl) ⟨⟨hi, by rw [show be 1 x.kind.toNat ++ be 1 x.style.toNat ++ x.tree ++ be 1 x.parents.length ++ x.parents.flatten ++ x.base ++ be 1 x.rows.length ++ (x.rows.take (i + 1)).flatMap chgB = be 1 x.kind.toNat ++ be 1 x.style.toNat ++ x.tree ++ be 1 x.parents.length ++ x.parents.flatten ++ x.base ++ be 1 x.rows.length ++ (x.rows.take i).flatMap chgB ++ strB 1 (x.rows[i]).path ++ [isB (x.rows[i]).is] ++ strB 2 (x.rows[i]).text from by rw [flat_take hi, chgB]; simp]; exact hO, hOn⟩, hb1, hX⟩ (by first | omega | (dsimp only; omega))
    ·have h0 : i = x.rows.length := by omega
     subst h0
     rw [List.take_length] at hO ⊢
     have hfl : (x.rows.flatMap chgB).length ≤ x.rows.length * 400 := flat_le fun r hr => chgB_le (hp48 r hr)
     refine c_exit (zx3 (zx3 (zz0 (zq1 (zq5 ?_)))))
     refine c_draw rfl 12 [(0, true), (1, true), (2, true), (3, true), (6, true), (7, true), (8, true), (4, false), (5, false), (9, false), (10, false), (11, true)] [] (OwnB q) (by kernel_rfl) fun w55 hE55 hs55 => ?_
     have hd1 := hb1
     have hOd := hO
     have hb1 := hb1.zq2 hE55
     have hO := hO.ext hE55 fun _ _ => id
     have hX := hX.zq4 hE55
     have hC : Ext (OwnB q) _ w55 := hE55.no
     have hqs : ∀ y, OwnB q y → OwnB q y ∨ w32.heap.size ≤ y := fun y h => .inl h
     have hOl : ∀ y, OwnB q y → y < w32.heap.size := fun y h => hOd.lt h
     refine wd_k I_ok 2 rfl (wd_ld I_ok rfl rfl (fun w' hw' => ((hd1.ext (show Ext (OwnB q) _ w' from hw') fun hx' => hOd.neTy hx' hd1 (by decide) rfl).seg.obj hx).number) ?_)
     refine wd_k I_ok 1 rfl ?_
     rw [IntWalk.u64_in _ (by have := hx.number; omega)]
     refine wd_k I_ok 1 rfl (wd_ld I_ok rfl rfl (fun w' hw' => ((hd1.ext (show Ext (OwnB q) _ w' from hw') fun hx' => hOd.neTy hx' hd1 (by decide) rfl).seg.obj hx).author) ?_)
     refine wd_k I_ok 1 rfl ?_
     rw [IntWalk.u64_in _ (by have := hx.author; omega)]
     refine wd_l rfl (zx2 Tryz.call106 rfl rfl rfl rfl rfl rfl (high_calls 4 (by decide) w55 x.number (by have := hx.number; omega)) fun v56 w56 hr56 => ⟨(by obtain ⟨qp, kp, rfl, hqp, hqpn, hE56⟩ := hr56; exact hC.zq4 hE56), ?_⟩)
     obtain ⟨qp, kp, rfl, hqp, hqpn, hE56⟩ := hr56
     have hb1 := hb1.zq2 hE56
     have hO := hO.ext hE56 fun _ _ => id
     have hX := hX.zq4 hE56
     have hC := hC.zq4 hE56
     rw [show Value.slice qp 4 kp = .slice qp (be 4 x.number).length kp from by rw [zj5]]
     have hX0 := hX
     have hC0 := hC
     refine wd_l rfl (zv2 I_ok rfl 1 1 rfl rfl rfl (by decide) hO (Src.slice (show Sl _ qp (be 4 x.number).length 1 _ from by rw [zj5]; exact hqp.sl) OneC.h) (by dsimp only [maxLen]; simp only [List.length_append, zj5]; omega) (by dsimp only; simp only [List.length_append, zj5]; omega) fun p57 c57 w57 ho57 hE57 hB57 => ⟨hC.trans hE57 (fun y hy hF => (hqs y hF).elim id (fun h => absurd hy (Nat.not_lt.2 h))), ?_⟩)
     have hC := hC.trans hE57 (fun y hy hF => (hqs y hF).elim id (fun h => absurd hy (Nat.not_lt.2 h)))
     dsimp only at ho57 hE57 hB57 ⊢
     have hb1 := hb1.zq8 hO hE57 (show (5 : Nat) ≠ 46 from by decide)
     have hX := hX0.trans hE57 fun y hy hF => by have := hOn y hF; omega
     have hOn2 := newW hX0 hOn hB57
     have e3 : (be 1 x.kind.toNat ++ be 1 x.style.toNat ++ x.tree ++ be 1 x.parents.length ++ x.parents.flatten ++ x.base ++ be 1 x.rows.length ++ x.rows.flatMap chgB).length + (be 4 x.number).length = (be 1 x.kind.toNat ++ be 1 x.style.toNat ++ x.tree ++ be 1 x.parents.length ++ x.parents.flatten ++ x.base ++ be 1 x.rows.length ++ x.rows.flatMap chgB ++ be 4 x.number).length := by simp only [List.length_append, zj5] <;> omega
     obtain ⟨q, k, e1, e2, hO2⟩ : ∃ q k, q = p57 ∧ k = c57 ∧ Own w57 q (be 1 x.kind.toNat ++ be 1 x.style.toNat ++ x.tree ++ be 1 x.parents.length ++ x.parents.flatten ++ x.base ++ be 1 x.rows.length ++ x.rows.flatMap chgB ++ be 4 x.number).length k 5 1 (zq6 (be 1 x.kind.toNat ++ be 1 x.style.toNat ++ x.tree ++ be 1 x.parents.length ++ x.parents.flatten ++ x.base ++ be 1 x.rows.length ++ x.rows.flatMap chgB ++ be 4 x.number)) := ⟨_, _, rfl, rfl, by
      rw [← e3, zz8 (be 1 x.kind.toNat ++ be 1 x.style.toNat ++ x.tree ++ be 1 x.parents.length ++ x.parents.flatten ++ x.base ++ be 1 x.rows.length ++ x.rows.flatMap chgB)]
      exact ho57⟩
     rw [← e1] at hOn2 hB57
     have hqs := fun y hy => (hB57 y hy).elim (hqs y) fun h => .inr (Nat.le_trans hC0.size h)
     have hO := hO2
     have hOn := hOn2
     rw [← e1, ← e2, e3]
     refine wd_l rfl (zx2 Tryz.call106 rfl rfl rfl rfl rfl rfl (high_calls 4 (by decide) w57 x.author (by have := hx.author; omega)) fun v58 w58 hr58 => ⟨(by obtain ⟨qt, kt, rfl, hqt, hqtn, hE58⟩ := hr58; exact hC.zq4 hE58), ?_⟩)
     obtain ⟨qt, kt, rfl, hqt, hqtn, hE58⟩ := hr58
     have hb1 := hb1.zq2 hE58
     have hO := hO.ext hE58 fun _ _ => id
     have hX := hX.zq4 hE58
     have hC := hC.zq4 hE58
     rw [show Value.slice qt 4 kt = .slice qt (be 4 x.author).length kt from by rw [zj5]]
     have hX0 := hX
     have hC0 := hC
     refine wd_l rfl (zv2 I_ok rfl 1 1 rfl rfl rfl (by decide) hO (Src.slice (show Sl _ qt (be 4 x.author).length 1 _ from by rw [zj5]; exact hqt.sl) OneC.h) (by dsimp only [maxLen]; simp only [List.length_append, zj5]; omega) (by dsimp only; simp only [List.length_append, zj5]; omega) fun p59 c59 w59 ho59 hE59 hB59 => ⟨hC.trans hE59 (fun y hy hF => (hqs y hF).elim id (fun h => absurd hy (Nat.not_lt.2 h))), ?_⟩)
     dsimp only at ho59 hE59 hB59 ⊢
     have hb1 := hb1.zq8 hO hE59 (show (5 : Nat) ≠ 46 from by decide)
     have hX := hX0.trans hE59 fun y hy hF => by have := hOn y hF; omega
     have hOn2 := newW hX0 hOn hB59
     have e3 : (be 1 x.kind.toNat ++ be 1 x.style.toNat ++ x.tree ++ be 1 x.parents.length ++ x.parents.flatten ++ x.base ++ be 1 x.rows.length ++ x.rows.flatMap chgB ++ be 4 x.number).length + (be 4 x.author).length = (be 1 x.kind.toNat ++ be 1 x.style.toNat ++ x.tree ++ be 1 x.parents.length ++ x.parents.flatten ++ x.base ++ be 1 x.rows.length ++ x.rows.flatMap chgB ++ be 4 x.number ++ be 4 x.author).length := by simp only [List.length_append, zj5] <;> omega
     obtain ⟨q, k, e1, e2, hO2⟩ : ∃ q k, q = p59 ∧ k = c59 ∧ Own w59 q (be 1 x.kind.toNat ++ be 1 x.style.toNat ++ x.tree ++ be 1 x.parents.length ++ x.parents.flatten ++ x.base ++ be 1 x.rows.length ++ x.rows.flatMap chgB ++ be 4 x.number ++ be 4 x.author).length k 5 1 (zq6 (be 1 x.kind.toNat ++ be 1 x.style.toNat ++ x.tree ++ be 1 x.parents.length ++ x.parents.flatten ++ x.base ++ be 1 x.rows.length ++ x.rows.flatMap chgB ++ be 4 x.number ++ be 4 x.author)) := ⟨_, _, rfl, rfl, by
      rw [← e3, zz8 (be 1 x.kind.toNat ++ be 1 x.style.toNat ++ x.tree ++ be 1 x.parents.length ++ x.parents.flatten ++ x.base ++ be 1 x.rows.length ++ x.rows.flatMap chgB ++ be 4 x.number)]
      exact ho59⟩
     rw [← e1] at hOn2 hB59
     have hqs := fun y hy => (hB59 y hy).elim (hqs y) fun h => .inr (Nat.le_trans hC0.size h)
     have hO := hO2
     have hOn := hOn2
     rw [← e1, ← e2, e3]
     refine wd_k I_ok 1 rfl (wd_sw (zv0 (zq1 (zq5 (zq0 (wl_p I_ok rfl (wl (st_ld I_ok rfl (hb1.seg.obj hx).note ?_))))))))
     refine wl (zx2 Tryz.call105 rfl rfl rfl rfl rfl rfl (some6_calls w59 x.note 1 (by decide) (by omega)) fun v60 w60 hr60 => ?_)
     obtain ⟨qp, kp, rfl, hqp, hqpn, hE60⟩ := hr60
     have hO := hO.ext hE60 fun _ _ => id
     have hX := hX.zq4 hE60
     have hX0 := hX
     refine wl (zv2 I_ok rfl 1 1 rfl rfl rfl (by decide) hO (Src.slice hqp.sl OneC.h) (by dsimp only [maxLen]; simp only [List.length_append, zj5, zx8]; omega) (by dsimp only; simp only [List.length_append, zj5, zx8]; omega) fun p61 c61 w61 ho61 hE61 hB61 => ?_)
     dsimp only at ho61 hE61 hB61 ⊢
     have hX := hX0.trans hE61 fun y hy hF => by have := hOn y hF; omega
     have hOn2 := newW hX0 hOn hB61
     have e3 : (be 1 x.kind.toNat ++ be 1 x.style.toNat ++ x.tree ++ be 1 x.parents.length ++ x.parents.flatten ++ x.base ++ be 1 x.rows.length ++ x.rows.flatMap chgB ++ be 4 x.number ++ be 4 x.author).length + (strB 1 x.note).length = (be 1 x.kind.toNat ++ be 1 x.style.toNat ++ x.tree ++ be 1 x.parents.length ++ x.parents.flatten ++ x.base ++ be 1 x.rows.length ++ x.rows.flatMap chgB ++ be 4 x.number ++ be 4 x.author ++ strB 1 x.note).length := by simp only [List.length_append, zj5, zx8] <;> omega
     obtain ⟨q, k, e1, e2, hO2⟩ : ∃ q k, q = p61 ∧ k = c61 ∧ Own w61 q (be 1 x.kind.toNat ++ be 1 x.style.toNat ++ x.tree ++ be 1 x.parents.length ++ x.parents.flatten ++ x.base ++ be 1 x.rows.length ++ x.rows.flatMap chgB ++ be 4 x.number ++ be 4 x.author ++ strB 1 x.note).length k 5 1 (zq6 (be 1 x.kind.toNat ++ be 1 x.style.toNat ++ x.tree ++ be 1 x.parents.length ++ x.parents.flatten ++ x.base ++ be 1 x.rows.length ++ x.rows.flatMap chgB ++ be 4 x.number ++ be 4 x.author ++ strB 1 x.note)) := ⟨_, _, rfl, rfl, by
      rw [← e3, zz8 (be 1 x.kind.toNat ++ be 1 x.style.toNat ++ x.tree ++ be 1 x.parents.length ++ x.parents.flatten ++ x.base ++ be 1 x.rows.length ++ x.rows.flatMap chgB ++ be 4 x.number ++ be 4 x.author)]
      exact ho61⟩
     rw [← e1] at hOn2 hB61
     have hO := hO2
     have hOn := hOn2
     rw [← e1, ← e2, e3]
     refine wl_p I_ok rfl (zq3 (zq1 (zj0 (zz2 rfl rfl ?_))))
     have hlaid : laidB x = be 1 x.kind.toNat ++ be 1 x.style.toNat ++ x.tree ++ be 1 x.parents.length ++ x.parents.flatten ++ x.base ++ be 1 x.rows.length ++ x.rows.flatMap chgB ++ be 4 x.number ++ be 4 x.author ++ strB 1 x.note := by rw [laidB, if_neg h1, if_neg h2, comB]; simp only [List.append_assoc]
     exact ⟨q, k, by rw [hlaid], by rw [hlaid]; exact hO, hOn, hX⟩
theorem laid_le {x : ObjD} (hx : ObjIn x) (hf : BytesIn x) : (laidB x).length ≤ 100000 := by
 rcases hf.k with h1 | h1 | h1
 ·have := hf.text h1
  rw [laidB, if_pos h1, List.length_append, zj5, zx8]
  omega
 ·obtain ⟨hl, hp⟩ := hf.leaves h1
  have h2 : (x.leaves.flatMap leafB).length ≤ x.leaves.length * 100 := flat_le fun r hr => leafB_le (hp r hr) (hx.leaves r hr).2
  rw [laidB, if_neg (by omega), if_pos h1, treeB, List.length_append, List.length_append, zj5, zj5]
  omega
 ·obtain ⟨hl, hp⟩ := hf.rows h1
  obtain ⟨hpl, _⟩ := hf.com h1
  have hnl := hf.note h1
  have h2 : (x.rows.flatMap chgB).length ≤ x.rows.length * 400 := flat_le fun r hr => chgB_le (hp r hr)
  have htr := hx.tree
  have hba := hx.base
  have hpf := flatten_len (n := 32) hx.parents
  rw [laidB, if_neg (by omega), if_neg (by omega), comB]
  simp only [List.length_append, zj5, zx8]
  omega
theorem right6_calls (w : World) {x : ObjD} {a : ObjP} (hx : ObjIn x) (hxl : ObjL w x a) (hsx : Short x) :
  zz1 Tryz.prog 20 [.agg (objC x a).toArray] w fun v w' => v = .bool (decide (ObjOk x)) ∧ Ext No w w' := by
 refine zq9 Tryz.func20 rfl rfl rfl rfl ?_
 have hX := Ext.refl No w
 refine zq5 (zq0 (wl (zz9 I_ok rfl fun b1 w1 hn1 hb1 hE1 => ?_)))
 have hX := hX.zq4 hE1
 have hb1 : Blk w1 b1 46 (objC x a) := hb1
 refine wl_p I_ok rfl (zq3 (zq1 (c_cutK (α := Bool) [] rfl (fun z => [(2, .bool z)]) (fun z u => (z = decide (ObjOk x)) ∧ Ext No w u) ?_ ?_)))
 ·refine zq0 ?_
  refine wl (zj2 I_ok hb1 rfl (zq7 hx) (wl (zx2 Tryz.call55 rfl rfl rfl rfl rfl rfl (fields6_calls w1 hx (hxl.zq2 hX) hsx) fun v2 w2 hr2 => ?_)))
  obtain ⟨rfl, hE2⟩ := hr2
  have hb1 := hb1.zq2 hE2
  have hX := hX.zq4 hE2
  refine wl_p I_ok rfl (zj4 5 rfl (fun hg => ?_) (fun hg => ?_))
  ·have hf := hg
   refine wl (zj2 I_ok hb1 rfl (zq7 hx) (wl (zx2 Tryz.call53 rfl rfl rfl rfl rfl rfl (bytes6_calls w2 hx (hxl.zq2 hX) (bytes_of hf)) fun v3 w3 hr3 => ?_)))
   obtain ⟨q, k, rfl, hq, hqn, hE3⟩ := hr3
   have hX := hX.zq4 hE3
   refine zz5 I_ok 4 rfl (zq3 ?_)
   exact zz7 (_) rfl ⟨by rw [decide_eq_decide]; exact ⟨fun h => ⟨hf, by omega⟩, fun h => by have := h.2; omega⟩, hX⟩
  ·have hf := hg
   refine zz5 I_ok 6 rfl (zq3 ?_)
   exact zz7 (false) rfl ⟨by symm; rw [decide_eq_false_iff_not]; exact fun h => hf h.1, hX⟩
 rintro z w4 ⟨rfl, hX⟩
 refine zj0 (zz2 rfl rfl ?_)
 exact ⟨rfl, hX⟩
theorem id6_calls (w : World) {x : ObjD} {a : ObjP} (hx : ObjIn x) (hxl : ObjL w x a) (hf : BytesIn x) :
  zz1 Tryz.prog 21 [.agg (objC x a).toArray] w fun v w' => v = .agg (zq6 (idOf x)).toArray ∧ Ext No w w' := by
 have hle := laid_le hx hf
 refine zq9 Tryz.func21 rfl rfl rfl rfl ?_
 have hX := Ext.refl No w
 refine zq5 (zq0 (wl (zz9 I_ok rfl fun b1 w1 hn1 hb1 hE1 => ?_)))
 have hX := hX.zq4 hE1
 have hb1 : Blk w1 b1 46 (objC x a) := hb1
 refine wl (zz9 I_ok rfl fun b2 w2 hn2 hb2 hE2 => ?_)
 have fr2 := Nat.le_trans hX.size hn2
 have hb1 := hb1.zq2 hE2
 have hX := hX.zq4 hE2
 refine zq3 (zq1 (zq5 (zq0 (wl (zj2 I_ok hb1 rfl (zq7 hx) (wl (zx2 Tryz.call53 rfl rfl rfl rfl rfl rfl (bytes6_calls w2 hx (hxl.zq2 hX) hf) fun v3 w3 hr3 => ?_)))))))
 obtain ⟨q, k, rfl, hq, hqn, hE3⟩ := hr3
 have hb2 := hb2.zq2 hE3
 have hX := hX.zq4 hE3
 refine wl (zx2 Tryz.call56 rfl rfl rfl rfl rfl rfl (refSum_calls w3 hq.sl (by omega)) fun v4 w4 hr4 => ?_)
 obtain ⟨rfl, hE4⟩ := hr4
 have hb2 := hb2.zq2 hE4
 have hX := hX.zq4 hE4
 refine wl (zj1 (l' := zq6 (idOf x)) I_ok hb2 rfl rfl (by rw [zx0, zj6]) (by rw [zx0, zj6]; rfl) OneC.h fun w5 hb2 hE5 hs5 => ?_)
 have hX := hX.zx1 hE5 fr2
 refine zq3 (zq1 (zj0 (f_ret [_] ⟨⟨b2, 0, rfl, ld_all I_ok rfl rfl hb2.seg (by rw [zx0, zj6]; rfl)⟩, trivial⟩ ?_)))
 exact ⟨rfl, hX⟩
theorem same6_calls (w : World) {x y : ObjD} {a b : ObjP} (hx : ObjIn x) (hy : ObjIn y) (hxl : ObjL w x a) (hyl : ObjL w y b) (hsx : Short x) :
  zz1 Tryz.prog 17 [.agg (objC x a).toArray, .agg (objC y b).toArray] w fun v w' => v = .bool (decide (x = y)) ∧ Ext No w w' := by
 have hlx1 := hsx.leaves
 have hlx2 := hsx.parents
 have hlx3 := hsx.rows
 refine zq9 Tryz.func17 rfl rfl rfl rfl ?_
 have hX := Ext.refl No w
 refine zq5 (zq0 (wl (zz9 I_ok rfl fun b2 w1 hn2 hb2 hE1 => ?_)))
 have hX := hX.zq4 hE1
 have hb2 : Blk w1 b2 46 (objC x a) := hb2
 have oa := hb2.seg.obj hx
 refine wl (zz9 I_ok rfl fun b3 w2 hn3 hb3 hE2 => ?_)
 have hb2 := hb2.zq2 hE2
 have oa := oa.zq2 hE2
 have hX := hX.zq4 hE2
 have hb3 : Blk w2 b3 46 (objC y b) := hb3
 have ob := hb3.seg.obj hy
 refine wl_p I_ok rfl (zq3 (zq1 (zq5 ?_)))
 refine c_cutK (α := Bool) [2, 3] rfl (fun z => [(34, .bool z)]) (fun z u => (z = decide (¬ (x.leaves.length = y.leaves.length ∧ x.parents.length = y.parents.length ∧ x.rows.length = y.rows.length))) ∧ Blk u b2 46 (objC x a) ∧ Blk u b3 46 (objC y b) ∧ Ext No w u) ?_ ?_
 ·refine zq0 ?_
  refine wl_p I_ok rfl (wl (st_ld I_ok rfl oa.leaves (wl_p I_ok rfl (wl (st_ld I_ok rfl ob.leaves (wl_p I_ok rfl (zj4 15 rfl (fun hg => ?_) (fun hg => ?_))))))))
  ·refine zz5 I_ok 19 rfl ?_
   refine zq3 ?_
   exact zz7 (true) rfl ⟨by symm; rw [decide_eq_true_eq]; intro h; omega, hb2, hb3, hX⟩
  ·refine zz5 I_ok 1 rfl ?_
   refine wl (st_ld I_ok rfl oa.parents (zz5 I_ok 2 rfl (wl (st_ld I_ok rfl ob.parents (zz5 I_ok 4 rfl (zj4 24 rfl (fun hg => ?_) (fun hg => ?_)))))))
   ·refine zz5 I_ok 10 rfl ?_
    refine zq3 ?_
    exact zz7 (true) rfl ⟨by symm; rw [decide_eq_true_eq]; intro h; omega, hb2, hb3, hX⟩
   ·refine zz5 I_ok 2 rfl ?_
    refine wl (st_ld I_ok rfl oa.rows (zz5 I_ok 3 rfl (wl (st_ld I_ok rfl ob.rows (zz5 I_ok 3 rfl (zq3 ?_))))))
    exact zz7 (_) rfl ⟨by rw [decide_eq_decide]; omega, hb2, hb3, hX⟩
 rintro z w3 ⟨rfl, hb2, hb3, hX⟩
 have oa := hb2.seg.obj hx
 have ob := hb3.seg.obj hy
 refine c_if rfl (fun hc => ?_) (fun hc => ?_)
 ·refine zq5 ?_
  refine zq0 (wl_p I_ok rfl (zq3 (zq1 (zj0 (zx5 (zz2 rfl rfl ?_))))))
  exact ⟨congrArg Value.bool (by symm; rw [decide_eq_false_iff_not]; intro e; subst e; exact hc ⟨rfl, rfl, rfl⟩), hX⟩
 ·obtain ⟨hl1, hl2, hl3⟩ := Decidable.not_not.1 hc
  refine zx7 (zq1 (zq5 (zq5 (zq0 (wl_p I_ok rfl (wl (st_ld I_ok rfl oa.leaves (wl_p I_ok rfl (zq3 (zq1 (zx4 ?_)))))))))))
  refine zv3 (α := Nat) [2, 3, 37] rfl (fun z => [(38, .int .i64 (z : Int))]) (fun z u => (z ≤ x.leaves.length ∧ ∀ k (hk : k < x.leaves.length), k < z → x.leaves[k] = y.leaves[k]'(by omega)) ∧ Blk u b2 46 (objC x a) ∧ Blk u b3 46 (objC y b) ∧ Ext No w u) (fun z u => x.leaves.length - z) (0) rfl ⟨⟨Nat.zero_le _, fun k _ h => absurd h (Nat.not_lt_zero _)⟩, hb2, hb3, hX⟩ ?_
  rintro i w4 ⟨⟨hi, hok⟩, hb2, hb3, hX⟩
  have oa := hb2.seg.obj hx
  have ob := hb3.seg.obj hy
  refine zq5 (zq0 (wl_p I_ok rfl (zq3 (zq1 (zq5 (c_if rfl (fun hc => ?_) (fun hc => ?_)))))))
  ·have hi : i < x.leaves.length := by omega
   have him : i < y.leaves.length := by omega
   obtain ⟨ba, oa1, hpa, hsa⟩ := hxl.leaves.rowAll (fun r hr => zj8.len (hx.leaves r hr).2) (by omega)
   obtain ⟨bb, ob1, hpb, hsb⟩ := hyl.leaves.rowAll (fun r hr => zj8.len (hy.leaves r hr).2) (by omega)
   have ha1 := hx.leaves _ (List.getElem_mem hi)
   have ha2 := hy.leaves _ (List.getElem_mem him)
   refine zx7 (zq1 (zq5 (zx4 (zq5 (zq0 (wl_p I_ok rfl (zq3 (zq1 (zq5 ?_)))))))))
   refine c_draw rfl 11 [(0, true), (1, true), (2, true), (3, true), (4, true), (5, true), (6, true), (7, true), (8, true), (9, true), (10, true)] [] (No) (by kernel_rfl) fun w5 hE5 hs5 => ?_
   have oad := oa
   have obd := ob
   have hXd := hX
   have hb2 := hb2.zq2 hE5
   have hb3 := hb3.zq2 hE5
   have hX := hX.zq4 hE5
   refine wd_k I_ok 1 rfl (wd_ld I_ok rfl rfl (fun w' hw' => (oad.zq2 hw').leaves) ?_)
   rw [hpa]
   refine wd_k I_ok 1 rfl (wd_ix I_ok rfl rfl 33 rfl i rfl (by omega) (oa1 + i * 33) rfl (wd_ldN I_ok rfl rfl (fun w' hw' => ((hsa i hi).zq2 (hXd.zq4 hw'))) (zj8.len ha1.2) ?_))
   refine wd_k I_ok 1 rfl (wd_ld I_ok rfl rfl (fun w' hw' => (obd.zq2 hw').leaves) ?_)
   rw [hpb]
   refine wd_k I_ok 1 rfl (wd_ix I_ok rfl rfl 33 rfl i rfl (by omega) (ob1 + i * 33) rfl (wd_ldN I_ok rfl rfl (fun w' hw' => ((hsb i him).zq2 (hXd.zq4 hw'))) (zj8.len ha2.2) ?_))
   refine wd_eqK rfl rfl gLeafD 10 (by decide) kLeafD (leafForm (zj8.len ha1.2)) (leafForm (zj8.len ha2.2)) (leafKey ha1.1 ha1.2) (leafKey ha2.1 ha2.2) leaf_eq ?_
   simp only [Bool.false_eq_true, if_false]
   refine wd_sw (zv0 (zq1 (c_if rfl (fun hc => ?_) (fun hc => ?_))))
   ·refine zq5 ?_
    refine zq0 (wl_p I_ok rfl (zq3 (zq1 (zj0 (zz3 (zx5 (zx5 (zz3 (zx5 (zz2 rfl rfl ?_))))))))))
    exact ⟨congrArg Value.bool (by symm; rw [decide_eq_false_iff_not]; intro e; subst e; exact hc rfl), hX⟩
   ·have hei := Decidable.not_not.1 hc
    refine zx7 (zx6 (zq1 (zq0 (wl_p I_ok rfl ?_))))
    rw [IntWalk.i64_in _ (by omega)]
    refine zq3 ?_
    exact zv1 (i + 1) rfl ⟨⟨by omega, fun k hk hlt => (by rcases Nat.lt_or_ge k i with h0 | h0; exact hok k hk h0; (have e : k = i := (by omega)); subst e; exact hei)⟩, hb2, hb3, hX⟩ (by first | omega | (dsimp only; omega))
  ·have e1 : x.leaves = y.leaves := list_ext hl1 fun k hk => hok k hk (by omega)
   refine c_exit (zx3 (zx3 (zz0 (zq1 (zq5 (zq5 (zq0 (wl_p I_ok rfl (wl (st_ld I_ok rfl oa.parents (wl_p I_ok rfl (zq3 (zq1 (zx4 ?_))))))))))))))
   refine zv3 (α := Nat) [2, 3, 55] rfl (fun z => [(56, .int .i64 (z : Int))]) (fun z u => (z ≤ x.parents.length ∧ ∀ k (hk : k < x.parents.length), k < z → x.parents[k] = y.parents[k]'(by omega)) ∧ Blk u b2 46 (objC x a) ∧ Blk u b3 46 (objC y b) ∧ Ext No w u) (fun z u => x.parents.length - z) (0) rfl ⟨⟨Nat.zero_le _, fun k _ h => absurd h (Nat.not_lt_zero _)⟩, hb2, hb3, hX⟩ ?_
   rintro i w6 ⟨⟨hi, hok⟩, hb2, hb3, hX⟩
   have oa := hb2.seg.obj hx
   have ob := hb3.seg.obj hy
   refine zq5 (zq0 (wl_p I_ok rfl (zq3 (zq1 (zq5 (c_if rfl (fun hc => ?_) (fun hc => ?_)))))))
   ·have hi : i < x.parents.length := by omega
    have him : i < y.parents.length := by omega
    obtain ⟨ba, oa1, hpa, hsa⟩ := hxl.parents.rowAll (fun r hr => IdIn.len (hx.parents r hr)) (by omega)
    obtain ⟨bb, ob1, hpb, hsb⟩ := hyl.parents.rowAll (fun r hr => IdIn.len (hy.parents r hr)) (by omega)
    have ha1 : IdIn _ := hx.parents _ (List.getElem_mem hi)
    have ha2 : IdIn _ := hy.parents _ (List.getElem_mem him)
    refine zx7 (zq1 (zq5 (zx4 (zq5 (zq0 (wl_p I_ok rfl (zq3 (zq1 (zq5 ?_)))))))))
    refine c_draw rfl 11 [(0, true), (1, true), (2, true), (3, true), (4, true), (5, true), (6, true), (7, true), (8, true), (9, true), (10, true)] [] (No) (by kernel_rfl) fun w7 hE7 hs7 => ?_
    have oad := oa
    have obd := ob
    have hXd := hX
    have hb2 := hb2.zq2 hE7
    have hb3 := hb3.zq2 hE7
    have hX := hX.zq4 hE7
    refine wd_k I_ok 1 rfl (wd_ld I_ok rfl rfl (fun w' hw' => (oad.zq2 hw').parents) ?_)
    rw [hpa]
    refine wd_k I_ok 1 rfl (wd_ix I_ok rfl rfl 32 rfl i rfl (by omega) (oa1 + i * 32) rfl (wd_ldN I_ok rfl rfl (fun w' hw' => ((hsa i hi).zq2 (hXd.zq4 hw'))) ha1.len ?_))
    refine wd_k I_ok 1 rfl (wd_ld I_ok rfl rfl (fun w' hw' => (obd.zq2 hw').parents) ?_)
    rw [hpb]
    refine wd_k I_ok 1 rfl (wd_ix I_ok rfl rfl 32 rfl i rfl (by omega) (ob1 + i * 32) rfl (wd_ldN I_ok rfl rfl (fun w' hw' => ((hsb i him).zq2 (hXd.zq4 hw'))) ha2.len ?_))
    refine wd_eqK rfl rfl gId 10 (by decide) kId (idForm ha1) (idForm ha2) (idKey ha1) (idKey ha2) idLits_inj ?_
    simp only [Bool.false_eq_true, if_false]
    refine wd_sw (zv0 (zq1 (c_if rfl (fun hc => ?_) (fun hc => ?_))))
    ·refine zq5 ?_
     refine zq0 (wl_p I_ok rfl (zq3 (zq1 (zj0 (zz3 (zx5 (zx5 (zz3 (zx5 (zz2 rfl rfl ?_))))))))))
     exact ⟨congrArg Value.bool (by symm; rw [decide_eq_false_iff_not]; intro e; subst e; exact hc rfl), hX⟩
    ·have hei := Decidable.not_not.1 hc
     refine zx7 (zx6 (zq1 (zq0 (wl_p I_ok rfl ?_))))
     rw [IntWalk.i64_in _ (by omega)]
     refine zq3 ?_
     exact zv1 (i + 1) rfl ⟨⟨by omega, fun k hk hlt => (by rcases Nat.lt_or_ge k i with h0 | h0; exact hok k hk h0; (have e : k = i := (by omega)); subst e; exact hei)⟩, hb2, hb3, hX⟩ (by first | omega | (dsimp only; omega))
   ·have e2 : x.parents = y.parents := list_ext hl2 fun k hk => hok k hk (by omega)
    refine c_exit (zx3 (zx3 (zz0 (zq1 (zq5 (zq5 (zq0 (wl_p I_ok rfl (wl (st_ld I_ok rfl oa.rows (wl_p I_ok rfl (zq3 (zq1 (zx4 ?_))))))))))))))
    refine zv3 (α := Nat) [2, 3, 74] rfl (fun z => [(75, .int .i64 (z : Int))]) (fun z u => (z ≤ x.rows.length ∧ ∀ k (hk : k < x.rows.length), k < z → x.rows[k] = y.rows[k]'(by omega)) ∧ Blk u b2 46 (objC x a) ∧ Blk u b3 46 (objC y b) ∧ Ext No w u) (fun z u => x.rows.length - z) (0) rfl ⟨⟨Nat.zero_le _, fun k _ h => absurd h (Nat.not_lt_zero _)⟩, hb2, hb3, hX⟩ ?_
    rintro i w8 ⟨⟨hi, hok⟩, hb2, hb3, hX⟩
    have oa := hb2.seg.obj hx
    have ob := hb3.seg.obj hy
    refine zq5 (zq0 (wl_p I_ok rfl (zq3 (zq1 (zq5 (c_if rfl (fun hc => ?_) (fun hc => ?_)))))))
    ·have hi : i < x.rows.length := by omega
     have him : i < y.rows.length := by omega
     obtain ⟨ba, oa1, hpa, hsa⟩ := hxl.rows.rowAll (fun r _ => r.len) (by omega)
     obtain ⟨bb, ob1, hpb, hsb⟩ := hyl.rows.rowAll (fun r _ => r.len) (by omega)
     have ha1 := hx.rows _ (List.getElem_mem hi)
     have ha2 := hy.rows _ (List.getElem_mem him)
     refine zx7 (zq1 (zq5 (zx4 (zq5 (zq0 (wl_p I_ok rfl (zq3 (zq1 (zq5 ?_)))))))))
     refine c_draw rfl 13 [(0, true), (1, true), (2, true), (3, true), (4, true), (5, true), (6, true), (7, true), (8, true), (9, true), (10, true), (11, true), (12, true)] [] (No) (by kernel_rfl) fun w9 hE9 hs9 => ?_
     have oad := oa
     have obd := ob
     have hXd := hX
     have hb2 := hb2.zq2 hE9
     have hb3 := hb3.zq2 hE9
     have hX := hX.zq4 hE9
     refine wd_k I_ok 2 rfl (wd_ld I_ok rfl rfl (fun w' hw' => (oad.zq2 hw').rows) ?_)
     rw [hpa]
     refine wd_k I_ok 1 rfl (wd_ix I_ok rfl rfl 3 rfl i rfl (by omega) (oa1 + i * 3) rfl (wd_ldN I_ok rfl rfl (fun w' hw' => ((hsa i hi).zq2 (hXd.zq4 hw'))) rfl ?_))
     refine wd_k I_ok 2 rfl (wd_ld I_ok rfl rfl (fun w' hw' => (obd.zq2 hw').rows) ?_)
     rw [hpb]
     refine wd_k I_ok 1 rfl (wd_ix I_ok rfl rfl 3 rfl i rfl (by omega) (ob1 + i * 3) rfl (wd_ldN I_ok rfl rfl (fun w' hw' => ((hsb i him).zq2 (hXd.zq4 hw'))) rfl ?_))
     refine wd_eqK rfl rfl gChgD 10 (by decide) kChgD (chgForm rfl) (chgForm rfl) (chgKey ha1.1 ha1.2) (chgKey ha2.1 ha2.2) chg_eq ?_
     simp only [Bool.false_eq_true, if_false]
     refine wd_sw (zv0 (zq1 (c_if rfl (fun hc => ?_) (fun hc => ?_))))
     ·refine zq5 ?_
      refine zq0 (wl_p I_ok rfl (zq3 (zq1 (zj0 (zz3 (zx5 (zx5 (zz3 (zx5 (zz2 rfl rfl ?_))))))))))
      exact ⟨congrArg Value.bool (by symm; rw [decide_eq_false_iff_not]; intro e; subst e; exact hc rfl), hX⟩
     ·have hei := Decidable.not_not.1 hc
      refine zx7 (zx6 (zq1 (zq0 (wl_p I_ok rfl ?_))))
      rw [IntWalk.i64_in _ (by omega)]
      refine zq3 ?_
      exact zv1 (i + 1) rfl ⟨⟨by omega, fun k hk hlt => (by rcases Nat.lt_or_ge k i with h0 | h0; exact hok k hk h0; (have e : k = i := (by omega)); subst e; exact hei)⟩, hb2, hb3, hX⟩ (by first | omega | (dsimp only; omega))
    ·have e3 : x.rows = y.rows := list_ext hl3 fun k hk => hok k hk (by omega)
     refine c_exit (zx3 (zx3 (zz0 (zq1 (c_cutK (α := Bool) [] rfl (fun z => [(4, .bool z)]) (fun z u => (z = decide (x = y)) ∧ Ext No w u) ?_ ?_)))))
     ·refine zq0 ?_
      refine wl_p I_ok rfl (wl (st_ld I_ok rfl oa.kind (wl_p I_ok rfl (wl (st_ld I_ok rfl ob.kind (wl_p I_ok rfl (zj4 97 rfl (fun hg => ?_) (fun hg => ?_))))))))
      ·have t1 : x.kind = y.kind := by exact hg
       refine zz5 I_ok 1 rfl (wl (st_ld I_ok rfl oa.text (zz5 I_ok 1 rfl (wl (st_ld I_ok rfl ob.text (zz5 I_ok 3 rfl (zj4 104 rfl (fun hg => ?_) (fun hg => ?_))))))))
       ·have t2 : x.text = y.text := by exact str_iff.1 hg
        refine zz5 I_ok 1 rfl (wl (st_ld I_ok rfl oa.style (zz5 I_ok 1 rfl (wl (st_ld I_ok rfl ob.style (zz5 I_ok 3 rfl (zj4 111 rfl (fun hg => ?_) (fun hg => ?_))))))))
        ·have t3 : x.style = y.style := by exact hg
         refine zz5 I_ok 1 rfl (wl (st_ldN I_ok rfl oa.tree (IdIn.len hx.tree) (zz5 I_ok 1 rfl (wl (st_ldN I_ok rfl ob.tree (IdIn.len hy.tree) ?_)))))
         refine wl (st_eqK rfl gId 10 (by decide) kId (idForm hx.tree) (idForm hy.tree) (idKey hx.tree) (idKey hy.tree) idLits_inj ?_)
         simp only [if_true]
         refine wl_p I_ok rfl (zj4 118 rfl (fun hg => ?_) (fun hg => ?_))
         ·have t4 : x.tree = y.tree := by exact hg
          refine zz5 I_ok 1 rfl (wl (st_ldN I_ok rfl oa.base (IdIn.len hx.base) (zz5 I_ok 1 rfl (wl (st_ldN I_ok rfl ob.base (IdIn.len hy.base) ?_)))))
          refine wl (st_eqK rfl gId 10 (by decide) kId (idForm hx.base) (idForm hy.base) (idKey hx.base) (idKey hy.base) idLits_inj ?_)
          simp only [if_true]
          refine wl_p I_ok rfl (zj4 125 rfl (fun hg => ?_) (fun hg => ?_))
          ·have t5 : x.base = y.base := by exact hg
           refine zz5 I_ok 1 rfl (wl (st_ld I_ok rfl oa.number (zz5 I_ok 1 rfl (wl (st_ld I_ok rfl ob.number (zz5 I_ok 3 rfl (zj4 132 rfl (fun hg => ?_) (fun hg => ?_))))))))
           ·have t6 : x.number = y.number := by omega
            refine zz5 I_ok 1 rfl (wl (st_ld I_ok rfl oa.author (zz5 I_ok 1 rfl (wl (st_ld I_ok rfl ob.author (zz5 I_ok 3 rfl (zj4 139 rfl (fun hg => ?_) (fun hg => ?_))))))))
            ·have t7 : x.author = y.author := by omega
             refine zz5 I_ok 1 rfl (wl (st_ld I_ok rfl oa.note (zz5 I_ok 1 rfl (wl (st_ld I_ok rfl ob.note (zz5 I_ok 3 rfl (zq3 ?_)))))))
             exact zz7 (_) rfl ⟨by rw [decide_eq_decide, str_iff]; exact ⟨fun h => same_iff.2 ⟨⟨t1, t2, t3, t4, t5, t6, t7, h⟩, e1, e2, e3⟩, fun h => (same_iff.1 h).1.2.2.2.2.2.2.2⟩, hX⟩
            ·have n7 : ¬ x.author = y.author := fun e => hg (by rw [e])
             refine zz5 I_ok 7 rfl (zq3 ?_)
             exact zz7 (false) rfl ⟨by symm; rw [decide_eq_false_iff_not]; intro e; have h := (same_iff.1 e).1; exact n7 h.2.2.2.2.2.2.1, hX⟩
           ·have n6 : ¬ x.number = y.number := fun e => hg (by rw [e])
            refine zz5 I_ok 14 rfl (zq3 ?_)
            exact zz7 (false) rfl ⟨by symm; rw [decide_eq_false_iff_not]; intro e; have h := (same_iff.1 e).1; exact n6 h.2.2.2.2.2.1, hX⟩
          ·have n5 : ¬ x.base = y.base := fun e => hg (by rw [e])
           refine zz5 I_ok 21 rfl (zq3 ?_)
           exact zz7 (false) rfl ⟨by symm; rw [decide_eq_false_iff_not]; intro e; have h := (same_iff.1 e).1; exact n5 h.2.2.2.2.1, hX⟩
         ·have n4 : ¬ x.tree = y.tree := fun e => hg (by rw [e])
          refine zz5 I_ok 28 rfl (zq3 ?_)
          exact zz7 (false) rfl ⟨by symm; rw [decide_eq_false_iff_not]; intro e; have h := (same_iff.1 e).1; exact n4 h.2.2.2.1, hX⟩
        ·have n3 : ¬ x.style = y.style := fun e => hg (by rw [e])
         refine zz5 I_ok 35 rfl (zq3 ?_)
         exact zz7 (false) rfl ⟨by symm; rw [decide_eq_false_iff_not]; intro e; have h := (same_iff.1 e).1; exact n3 h.2.2.1, hX⟩
       ·have n2 : ¬ x.text = y.text := fun e => hg (by rw [e])
        refine zz5 I_ok 42 rfl (zq3 ?_)
        exact zz7 (false) rfl ⟨by symm; rw [decide_eq_false_iff_not]; intro e; have h := (same_iff.1 e).1; exact n2 h.2.1, hX⟩
      ·have n1 : ¬ x.kind = y.kind := fun e => hg (by rw [e])
       refine zz5 I_ok 49 rfl (zq3 ?_)
       exact zz7 (false) rfl ⟨by symm; rw [decide_eq_false_iff_not]; intro e; have h := (same_iff.1 e).1; exact n1 h.1, hX⟩
     rintro z w10 ⟨rfl, hX⟩
     refine zj0 (zz2 rfl rfl ?_)
     exact ⟨rfl, hX⟩
theorem objC_parents {o : ObjD} {a : ObjP} (h : ObjIn o) {p : Option Addr} {c : Nat} : (objC o a).set (68 + 0) (.slice p o.parents.length c) = objC o ⟨a.lp, a.lc, p, c, a.rp, a.rc⟩ := objC_set h 0 _
theorem objC_rows {o : ObjD} {a : ObjP} (h : ObjIn o) {p : Option Addr} {c : Nat} : (objC o a).set (68 + 1) (.slice p o.rows.length c) = objC o ⟨a.lp, a.lc, a.pp, a.pc, p, c⟩ := objC_set h 1 _
theorem newB {n b : Nat} (h : n ≤ b) : ∀ x, OwnB (some ⟨b, 0, none⟩) x → n ≤ x := fun x hx => by have e : b = x := congrArg Addr.block (Option.some.inj hx); omega
theorem copy6_calls (w : World) {x : ObjD} {a : ObjP} (hx : ObjIn x) (hxl : ObjL w x a) (hlx1 : x.leaves.length < 1000000000) (hlx2 : x.parents.length < 1000000000) (hlx3 : x.rows.length < 1000000000) :
  zz1 Tryz.prog 54 [.agg (objC x a).toArray] w fun v w' => ∃ a', v = .agg (objC x a').toArray ∧ ObjNew w w' x a' ∧ Ext No w w' := by
 refine zq9 Tryz.func54 rfl rfl rfl rfl ?_
 have hX := Ext.refl No w
 refine zq5 (zq0 (wl (zz9 I_ok rfl fun b1 w1 hn1 hb1 hE1 => ?_)))
 have fr1 := Nat.le_trans hX.size hn1
 have hX := hX.zq4 hE1
 have hb1 : Blk w1 b1 46 (objC x a) := hb1
 refine wl (zz9 I_ok rfl fun b2 w2 hn2 hb2 hE2 => ?_)
 have ne1_2 : b1 ≠ b2 := Nat.ne_of_lt (Nat.lt_of_lt_of_le hb1.lt hn2)
 have fr2 := Nat.le_trans hX.size hn2
 have hb1 := hb1.zq2 hE2
 have hX := hX.zq4 hE2
 refine zq3 (zq1 (c_cutK (α := ObjP) [1, 2] rfl (fun z => []) (fun z u => (ObjNew w u x z) ∧ Blk u b1 46 (objC x z) ∧ Blk u b2 46 (cellsOf ti46.zero) ∧ Ext No w u) ?_ ?_))
 ·refine c_drawX rfl 14 14 [14, 15, 16, 17, 18, 19] (No) (by kernel_rfl) fun w3 hE3 hs3 => ?_
  have hd1 := hb1
  have hb1 := hb1.zq2 hE3
  have hb2 := hb2.zq2 hE3
  have hX := hX.zq4 hE3
  have hC : Ext No _ w3 := hE3
  refine wx_plan [(1, true), (2, true), (5, true), (6, true), (9, true), (10, true), (11, true)] 7 rfl (by kernel_rfl) (wd_k I_ok 1 rfl (wd_ld I_ok rfl rfl (fun w' hw' => ((hd1.zq2 hw').seg.obj hx).leaves) ?_))
  refine wd_k I_ok 1 rfl (wd_ld I_ok rfl rfl (fun w' hw' => ((hd1.zq2 hw').seg.obj hx).parents) ?_)
  refine wd_k I_ok 2 rfl (wd_ld I_ok rfl rfl (fun w' hw' => ((hd1.zq2 hw').seg.obj hx).rows) ?_)
  refine wd_tail rfl (wx_alt [0, 4, 8] rfl (by kernel_rfl) ⟨⟨_, rfl, ?_⟩, ⟨_, rfl, ?_⟩, ⟨_, rfl, ?_⟩, trivial⟩)
  ·refine st_bs I_ok rfl 33 rfl leafZ_c (zj8.len rfl) (by decide) (by decide) trivial (l' := []) rfl fun b3 w4 hn3 hb3 hE4 hs4 => ⟨hC.zq4 hE4, ?_⟩
   have fr3 := Nat.le_trans hX.size hn3
   have frhC3 := Nat.le_trans hC.size hn3
   have hb1 := hb1.zq2 hE4
   have hb2 := hb2.zq2 hE4
   have hX := hX.zq4 hE4
   have hC := hC.zq4 hE4
   refine wx_plan [] 6 rfl (by kernel_rfl) (wd_tail rfl (wx_alt [3, 4, 8] rfl (by kernel_rfl) ⟨⟨_, rfl, ?_⟩, ⟨_, rfl, ?_⟩, ⟨_, rfl, ?_⟩, trivial⟩))
   ·have hX0 := hX
    have hbsL := hb3
    refine zv2 I_ok rfl 33 48 rfl rfl rfl (by decide) (Own.blk (n := 0) (c := 0) hb3 33 rfl (Nat.le_refl _) (by decide)) (Src.slice (hxl.leaves.zq2 hX) OneC.h) (by dsimp only [maxLen]; omega) (by dsimp only; omega) fun p5 c5 w5 ho5 hE5 hB5 => ⟨hC.trans hE5 (fun y hy hF => by have e : b3 = y := congrArg Addr.block (Option.some.inj hF); omega), ?_⟩
    have hC := hC.trans hE5 (fun y hy hF => by have e : b3 = y := congrArg Addr.block (Option.some.inj hF); omega)
    dsimp only at ho5 hE5 hB5 ⊢
    have hbo5 := Own.blk (n := 0) (c := 0) hbsL 33 rfl (Nat.le_refl _) (by decide)
    have hb1 := hb1.zq8 hbo5 hE5 (show (56 : Nat) ≠ 46 from by decide)
    have hb2 := hb2.zq8 hbo5 hE5 (show (56 : Nat) ≠ 46 from by decide)
    try have hP := hP.zq8 hbo5 hE5 (show (56 : Nat) ≠ 31 from by decide)
    try have hR := hR.zq8 hbo5 hE5 (show (56 : Nat) ≠ 114 from by decide)
    try have hb7 := hb7.zq8 hbo5 hE5 (show (56 : Nat) ≠ 31 from by decide)
    try have hb11 := hb11.zq8 hbo5 hE5 (show (56 : Nat) ≠ 114 from by decide)
    have hX := hX0.trans hE5 fun y hy hF => by have e : b3 = y := congrArg Addr.block (Option.some.inj hF); omega
    obtain ⟨qL, kL, e1, e2, hL⟩ : ∃ q k, q = p5 ∧ k = c5 ∧ Own w5 q x.leaves.length k 56 33 (x.leaves.flatMap zj8.cells) := ⟨_, _, rfl, rfl, by have h := ho5; rw [Nat.zero_add] at h; exact h⟩
    have nL := newW hX0 (newB fr3) hB5
    rw [← e1] at nL
    rw [← e1, ← e2, Nat.zero_add]
    refine wx_plan [(13, true)] 4 rfl (by kernel_rfl) (wd_k I_ok 1 rfl (wd_tail rfl (wx_alt [4, 8] rfl (by kernel_rfl) ⟨⟨_, rfl, ?_⟩, ⟨_, rfl, ?_⟩, trivial⟩)))
    ·refine st_bs I_ok rfl 32 rfl idZ_c.symm (by rw [zx0]; rfl) (by decide) (by decide) trivial (l' := []) rfl fun b7 w6 hn7 hb7 hE6 hs6 => ⟨hC.zq4 hE6, ?_⟩
     have fr7 := Nat.le_trans hX.size hn7
     have frhC7 := Nat.le_trans hC.size hn7
     have hb1 := hb1.zq2 hE6
     have hb2 := hb2.zq2 hE6
     have hL := hL.ext hE6 fun _ _ => id
     have hX := hX.zq4 hE6
     have hC := hC.zq4 hE6
     refine wx_plan [] 3 rfl (by kernel_rfl) (wd_tail rfl (wx_alt [7, 8] rfl (by kernel_rfl) ⟨⟨_, rfl, ?_⟩, ⟨_, rfl, ?_⟩, trivial⟩))
     ·have hX0 := hX
      have hbsP := hb7
      refine zv2 I_ok rfl 32 32 rfl rfl rfl (by decide) (Own.blk (n := 0) (c := 0) hb7 32 rfl (Nat.le_refl _) (by decide)) (Src.slice (hxl.parents.zq2 hX) OneC.h) (by dsimp only [maxLen]; omega) (by dsimp only; omega) fun p7 c7 w7 ho7 hE7 hB7 => ⟨hC.trans hE7 (fun y hy hF => by have e : b7 = y := congrArg Addr.block (Option.some.inj hF); omega), ?_⟩
      have hC := hC.trans hE7 (fun y hy hF => by have e : b7 = y := congrArg Addr.block (Option.some.inj hF); omega)
      dsimp only at ho7 hE7 hB7 ⊢
      have hbo7 := Own.blk (n := 0) (c := 0) hbsP 32 rfl (Nat.le_refl _) (by decide)
      have hb1 := hb1.zq8 hbo7 hE7 (show (31 : Nat) ≠ 46 from by decide)
      have hb2 := hb2.zq8 hbo7 hE7 (show (31 : Nat) ≠ 46 from by decide)
      try have hL := hL.zq8 hbo7 hE7 (show (31 : Nat) ≠ 56 from by decide)
      try have hR := hR.zq8 hbo7 hE7 (show (31 : Nat) ≠ 114 from by decide)
      try have hb11 := hb11.zq8 hbo7 hE7 (show (31 : Nat) ≠ 114 from by decide)
      have hX := hX0.trans hE7 fun y hy hF => by have e : b7 = y := congrArg Addr.block (Option.some.inj hF); omega
      obtain ⟨qP, kP, e1, e2, hP⟩ : ∃ q k, q = p7 ∧ k = c7 ∧ Own w7 q x.parents.length k 31 32 (x.parents.flatMap zq6) := ⟨_, _, rfl, rfl, by have h := ho7; rw [Nat.zero_add] at h; exact h⟩
      have nP := newW hX0 (newB fr7) hB7
      rw [← e1] at nP
      rw [← e1, ← e2, Nat.zero_add]
      refine wx_plan [(8, false), (12, false)] 0 rfl (by kernel_rfl) (wd_l rfl (st_bs I_ok rfl 3 rfl chgZ_c rfl (by decide) (by decide) trivial (l' := []) rfl fun b11 w8 hn11 hb11 hE8 hs8 => ⟨hC.zq4 hE8, ?_⟩))
      have fr11 := Nat.le_trans hX.size hn11
      have frhC11 := Nat.le_trans hC.size hn11
      have hb1 := hb1.zq2 hE8
      have hb2 := hb2.zq2 hE8
      have hL := hL.ext hE8 fun _ _ => id
      have hP := hP.ext hE8 fun _ _ => id
      have hX := hX.zq4 hE8
      have hC := hC.zq4 hE8
      have hX0 := hX
      have hbsR := hb11
      refine wd_l rfl (zv2 I_ok rfl 3 40 rfl rfl rfl (by decide) (Own.blk (n := 0) (c := 0) hb11 3 rfl (Nat.le_refl _) (by decide)) (Src.slice (hxl.rows.zq2 hX) OneC.h) (by dsimp only [maxLen]; omega) (by dsimp only; omega) fun p9 c9 w9 ho9 hE9 hB9 => ⟨hC.trans hE9 (fun y hy hF => by have e : b11 = y := congrArg Addr.block (Option.some.inj hF); omega), ?_⟩)
      dsimp only at ho9 hE9 hB9 ⊢
      have hbo9 := Own.blk (n := 0) (c := 0) hbsR 3 rfl (Nat.le_refl _) (by decide)
      have hb1 := hb1.zq8 hbo9 hE9 (show (114 : Nat) ≠ 46 from by decide)
      have hb2 := hb2.zq8 hbo9 hE9 (show (114 : Nat) ≠ 46 from by decide)
      try have hL := hL.zq8 hbo9 hE9 (show (114 : Nat) ≠ 56 from by decide)
      try have hP := hP.zq8 hbo9 hE9 (show (114 : Nat) ≠ 31 from by decide)
      have hX := hX0.trans hE9 fun y hy hF => by have e : b11 = y := congrArg Addr.block (Option.some.inj hF); omega
      obtain ⟨qR, kR, e1, e2, hR⟩ : ∃ q k, q = p9 ∧ k = c9 ∧ Own w9 q x.rows.length k 114 3 (x.rows.flatMap ChgD.cells) := ⟨_, _, rfl, rfl, by have h := ho9; rw [Nat.zero_add] at h; exact h⟩
      have nR := newW hX0 (newB fr11) hB9
      rw [← e1] at nR
      rw [← e1, ← e2, Nat.zero_add]
      refine wd_sw ?_
      have hb1o := hb1
      refine wb rfl (st_st I_ok hb1 rfl rfl rfl fun w10 hb1 hE10 hs10 => ?_)
      have hb2 := hb2.ext1 hE10 ne1_2.symm
      have hL := hL.zx9 hE10 hb1o (by decide)
      have hP := hP.zx9 hE10 hb1o (by decide)
      have hR := hR.zx9 hE10 hb1o (by decide)
      have hX := hX.zx1 hE10 fr1
      have hb1 : Blk w10 b1 46 (objC x ⟨qL, kL, a.pp, a.pc, a.rp, a.rc⟩) := hb1
      refine wb rfl (st_p I_ok rfl rfl rfl ?_)
      have hb1o := hb1
      refine wb rfl (st_set I_ok hb1 rfl rfl (by rw [zq7 hx]; decide) fun w11 hb1 hE11 hs11 => ?_)
      have hb2 := hb2.ext1 hE11 ne1_2.symm
      have hL := hL.zx9 hE11 hb1o (by decide)
      have hP := hP.zx9 hE11 hb1o (by decide)
      have hR := hR.zx9 hE11 hb1o (by decide)
      have hX := hX.zx1 hE11 fr1
      have hb1 : Blk w11 b1 46 (objC x ⟨qL, kL, qP, kP, a.rp, a.rc⟩) := (by have h : Blk _ b1 _ ((objC x ⟨qL, kL, a.pp, a.pc, a.rp, a.rc⟩).set (68 + 0) (.slice qP x.parents.length kP)) := hb1; rw [objC_parents hx] at h; exact h)
      refine wb rfl (st_p I_ok rfl rfl rfl (wb rfl (st_p I_ok rfl rfl rfl ?_)))
      have hb1o := hb1
      refine wb rfl (st_set I_ok hb1 rfl rfl (by rw [zq7 hx]; decide) fun w12 hb1 hE12 hs12 => ?_)
      have hb2 := hb2.ext1 hE12 ne1_2.symm
      have hL := hL.zx9 hE12 hb1o (by decide)
      have hP := hP.zx9 hE12 hb1o (by decide)
      have hR := hR.zx9 hE12 hb1o (by decide)
      have hX := hX.zx1 hE12 fr1
      have hb1 : Blk w12 b1 46 (objC x ⟨qL, kL, qP, kP, qR, kR⟩) := (by have h : Blk _ b1 _ ((objC x ⟨qL, kL, qP, kP, a.rp, a.rc⟩).set (68 + 1) (.slice qR x.rows.length kR)) := hb1; rw [objC_rows hx] at h; exact h)
      refine zv0 ?_
      exact zz7 (⟨qL, kL, qP, kP, qR, kR⟩) rfl ⟨⟨hL, hP, hR, nL, nP, nR⟩, hb1, hb2, hX⟩
     ·refine st_bs I_ok rfl 3 rfl chgZ_c rfl (by decide) (by decide) trivial (l' := []) rfl fun b11 w13 hn11 hb11 hE13 hs13 => ⟨hC.zq4 hE13, ?_⟩
      have fr11 := Nat.le_trans hX.size hn11
      have frhC11 := Nat.le_trans hC.size hn11
      have hb1 := hb1.zq2 hE13
      have hb2 := hb2.zq2 hE13
      have hb7 := hb7.zq2 hE13
      have hL := hL.ext hE13 fun _ _ => id
      have hX := hX.zq4 hE13
      have hC := hC.zq4 hE13
      refine wx_plan [(7, false), (12, false)] 0 rfl (by kernel_rfl) ?_
      have hX0 := hX
      have hbsP := hb7
      refine wd_l rfl (zv2 I_ok rfl 32 32 rfl rfl rfl (by decide) (Own.blk (n := 0) (c := 0) hb7 32 rfl (Nat.le_refl _) (by decide)) (Src.slice (hxl.parents.zq2 hX) OneC.h) (by dsimp only [maxLen]; omega) (by dsimp only; omega) fun p14 c14 w14 ho14 hE14 hB14 => ⟨hC.trans hE14 (fun y hy hF => by have e : b7 = y := congrArg Addr.block (Option.some.inj hF); omega), ?_⟩)
      have hC := hC.trans hE14 (fun y hy hF => by have e : b7 = y := congrArg Addr.block (Option.some.inj hF); omega)
      dsimp only at ho14 hE14 hB14 ⊢
      have hbo14 := Own.blk (n := 0) (c := 0) hbsP 32 rfl (Nat.le_refl _) (by decide)
      have hb1 := hb1.zq8 hbo14 hE14 (show (31 : Nat) ≠ 46 from by decide)
      have hb2 := hb2.zq8 hbo14 hE14 (show (31 : Nat) ≠ 46 from by decide)
      try have hL := hL.zq8 hbo14 hE14 (show (31 : Nat) ≠ 56 from by decide)
      try have hR := hR.zq8 hbo14 hE14 (show (31 : Nat) ≠ 114 from by decide)
      try have hb11 := hb11.zq8 hbo14 hE14 (show (31 : Nat) ≠ 114 from by decide)
      have hX := hX0.trans hE14 fun y hy hF => by have e : b7 = y := congrArg Addr.block (Option.some.inj hF); omega
      obtain ⟨qP, kP, e1, e2, hP⟩ : ∃ q k, q = p14 ∧ k = c14 ∧ Own w14 q x.parents.length k 31 32 (x.parents.flatMap zq6) := ⟨_, _, rfl, rfl, by have h := ho14; rw [Nat.zero_add] at h; exact h⟩
      have nP := newW hX0 (newB fr7) hB14
      rw [← e1] at nP
      rw [← e1, ← e2, Nat.zero_add]
      have hX0 := hX
      have hbsR := hb11
      refine wd_l rfl (zv2 I_ok rfl 3 40 rfl rfl rfl (by decide) (Own.blk (n := 0) (c := 0) hb11 3 rfl (Nat.le_refl _) (by decide)) (Src.slice (hxl.rows.zq2 hX) OneC.h) (by dsimp only [maxLen]; omega) (by dsimp only; omega) fun p15 c15 w15 ho15 hE15 hB15 => ⟨hC.trans hE15 (fun y hy hF => by have e : b11 = y := congrArg Addr.block (Option.some.inj hF); omega), ?_⟩)
      dsimp only at ho15 hE15 hB15 ⊢
      have hbo15 := Own.blk (n := 0) (c := 0) hbsR 3 rfl (Nat.le_refl _) (by decide)
      have hb1 := hb1.zq8 hbo15 hE15 (show (114 : Nat) ≠ 46 from by decide)
      have hb2 := hb2.zq8 hbo15 hE15 (show (114 : Nat) ≠ 46 from by decide)
      try have hL := hL.zq8 hbo15 hE15 (show (114 : Nat) ≠ 56 from by decide)
      try have hP := hP.zq8 hbo15 hE15 (show (114 : Nat) ≠ 31 from by decide)
      have hX := hX0.trans hE15 fun y hy hF => by have e : b11 = y := congrArg Addr.block (Option.some.inj hF); omega
      obtain ⟨qR, kR, e1, e2, hR⟩ : ∃ q k, q = p15 ∧ k = c15 ∧ Own w15 q x.rows.length k 114 3 (x.rows.flatMap ChgD.cells) := ⟨_, _, rfl, rfl, by have h := ho15; rw [Nat.zero_add] at h; exact h⟩
      have nR := newW hX0 (newB fr11) hB15
      rw [← e1] at nR
      rw [← e1, ← e2, Nat.zero_add]
      refine wd_sw ?_
      have hb1o := hb1
      refine wb rfl (st_st I_ok hb1 rfl rfl rfl fun w16 hb1 hE16 hs16 => ?_)
      have hb2 := hb2.ext1 hE16 ne1_2.symm
      have hL := hL.zx9 hE16 hb1o (by decide)
      have hP := hP.zx9 hE16 hb1o (by decide)
      have hR := hR.zx9 hE16 hb1o (by decide)
      have hX := hX.zx1 hE16 fr1
      have hb1 : Blk w16 b1 46 (objC x ⟨qL, kL, a.pp, a.pc, a.rp, a.rc⟩) := hb1
      refine wb rfl (st_p I_ok rfl rfl rfl ?_)
      have hb1o := hb1
      refine wb rfl (st_set I_ok hb1 rfl rfl (by rw [zq7 hx]; decide) fun w17 hb1 hE17 hs17 => ?_)
      have hb2 := hb2.ext1 hE17 ne1_2.symm
      have hL := hL.zx9 hE17 hb1o (by decide)
      have hP := hP.zx9 hE17 hb1o (by decide)
      have hR := hR.zx9 hE17 hb1o (by decide)
      have hX := hX.zx1 hE17 fr1
      have hb1 : Blk w17 b1 46 (objC x ⟨qL, kL, qP, kP, a.rp, a.rc⟩) := (by have h : Blk _ b1 _ ((objC x ⟨qL, kL, a.pp, a.pc, a.rp, a.rc⟩).set (68 + 0) (.slice qP x.parents.length kP)) := hb1; rw [objC_parents hx] at h; exact h)
      refine wb rfl (st_p I_ok rfl rfl rfl (wb rfl (st_p I_ok rfl rfl rfl ?_)))
      have hb1o := hb1
      refine wb rfl (st_set I_ok hb1 rfl rfl (by rw [zq7 hx]; decide) fun w18 hb1 hE18 hs18 => ?_)
      have hb2 := hb2.ext1 hE18 ne1_2.symm
      have hL := hL.zx9 hE18 hb1o (by decide)
      have hP := hP.zx9 hE18 hb1o (by decide)
      have hR := hR.zx9 hE18 hb1o (by decide)
      have hX := hX.zx1 hE18 fr1
      have hb1 : Blk w18 b1 46 (objC x ⟨qL, kL, qP, kP, qR, kR⟩) := (by have h : Blk _ b1 _ ((objC x ⟨qL, kL, qP, kP, a.rp, a.rc⟩).set (68 + 1) (.slice qR x.rows.length kR)) := hb1; rw [objC_rows hx] at h; exact h)
      refine zv0 ?_
      exact zz7 (⟨qL, kL, qP, kP, qR, kR⟩) rfl ⟨⟨hL, hP, hR, nL, nP, nR⟩, hb1, hb2, hX⟩
    ·refine st_bs I_ok rfl 3 rfl chgZ_c rfl (by decide) (by decide) trivial (l' := []) rfl fun b11 w19 hn11 hb11 hE19 hs19 => ⟨hC.zq4 hE19, ?_⟩
     have fr11 := Nat.le_trans hX.size hn11
     have frhC11 := Nat.le_trans hC.size hn11
     have hb1 := hb1.zq2 hE19
     have hb2 := hb2.zq2 hE19
     have hL := hL.ext hE19 fun _ _ => id
     have hX := hX.zq4 hE19
     have hC := hC.zq4 hE19
     refine wx_plan [(4, false), (7, false), (12, false)] 0 rfl (by kernel_rfl) ?_
     refine wd_l rfl (st_bs I_ok rfl 32 rfl idZ_c.symm (by rw [zx0]; rfl) (by decide) (by decide) trivial (l' := []) rfl fun b7 w20 hn7 hb7 hE20 hs20 => ⟨hC.zq4 hE20, ?_⟩)
     have fr7 := Nat.le_trans hX.size hn7
     have frhC7 := Nat.le_trans hC.size hn7
     have hb1 := hb1.zq2 hE20
     have hb2 := hb2.zq2 hE20
     have hb11 := hb11.zq2 hE20
     have hL := hL.ext hE20 fun _ _ => id
     have hX := hX.zq4 hE20
     have hC := hC.zq4 hE20
     have hX0 := hX
     have hbsP := hb7
     refine wd_l rfl (zv2 I_ok rfl 32 32 rfl rfl rfl (by decide) (Own.blk (n := 0) (c := 0) hb7 32 rfl (Nat.le_refl _) (by decide)) (Src.slice (hxl.parents.zq2 hX) OneC.h) (by dsimp only [maxLen]; omega) (by dsimp only; omega) fun p21 c21 w21 ho21 hE21 hB21 => ⟨hC.trans hE21 (fun y hy hF => by have e : b7 = y := congrArg Addr.block (Option.some.inj hF); omega), ?_⟩)
     have hC := hC.trans hE21 (fun y hy hF => by have e : b7 = y := congrArg Addr.block (Option.some.inj hF); omega)
     dsimp only at ho21 hE21 hB21 ⊢
     have hbo21 := Own.blk (n := 0) (c := 0) hbsP 32 rfl (Nat.le_refl _) (by decide)
     have hb1 := hb1.zq8 hbo21 hE21 (show (31 : Nat) ≠ 46 from by decide)
     have hb2 := hb2.zq8 hbo21 hE21 (show (31 : Nat) ≠ 46 from by decide)
     try have hL := hL.zq8 hbo21 hE21 (show (31 : Nat) ≠ 56 from by decide)
     try have hR := hR.zq8 hbo21 hE21 (show (31 : Nat) ≠ 114 from by decide)
     try have hb11 := hb11.zq8 hbo21 hE21 (show (31 : Nat) ≠ 114 from by decide)
     have hX := hX0.trans hE21 fun y hy hF => by have e : b7 = y := congrArg Addr.block (Option.some.inj hF); omega
     obtain ⟨qP, kP, e1, e2, hP⟩ : ∃ q k, q = p21 ∧ k = c21 ∧ Own w21 q x.parents.length k 31 32 (x.parents.flatMap zq6) := ⟨_, _, rfl, rfl, by have h := ho21; rw [Nat.zero_add] at h; exact h⟩
     have nP := newW hX0 (newB fr7) hB21
     rw [← e1] at nP
     rw [← e1, ← e2, Nat.zero_add]
     have hX0 := hX
     have hbsR := hb11
     refine wd_l rfl (zv2 I_ok rfl 3 40 rfl rfl rfl (by decide) (Own.blk (n := 0) (c := 0) hb11 3 rfl (Nat.le_refl _) (by decide)) (Src.slice (hxl.rows.zq2 hX) OneC.h) (by dsimp only [maxLen]; omega) (by dsimp only; omega) fun p22 c22 w22 ho22 hE22 hB22 => ⟨hC.trans hE22 (fun y hy hF => by have e : b11 = y := congrArg Addr.block (Option.some.inj hF); omega), ?_⟩)
     dsimp only at ho22 hE22 hB22 ⊢
     have hbo22 := Own.blk (n := 0) (c := 0) hbsR 3 rfl (Nat.le_refl _) (by decide)
     have hb1 := hb1.zq8 hbo22 hE22 (show (114 : Nat) ≠ 46 from by decide)
     have hb2 := hb2.zq8 hbo22 hE22 (show (114 : Nat) ≠ 46 from by decide)
     try have hL := hL.zq8 hbo22 hE22 (show (114 : Nat) ≠ 56 from by decide)
     try have hP := hP.zq8 hbo22 hE22 (show (114 : Nat) ≠ 31 from by decide)
     have hX := hX0.trans hE22 fun y hy hF => by have e : b11 = y := congrArg Addr.block (Option.some.inj hF); omega
     obtain ⟨qR, kR, e1, e2, hR⟩ : ∃ q k, q = p22 ∧ k = c22 ∧ Own w22 q x.rows.length k 114 3 (x.rows.flatMap ChgD.cells) := ⟨_, _, rfl, rfl, by have h := ho22; rw [Nat.zero_add] at h; exact h⟩
     have nR := newW hX0 (newB fr11) hB22
     rw [← e1] at nR
     rw [← e1, ← e2, Nat.zero_add]
     refine wd_sw ?_
     have hb1o := hb1
     refine wb rfl (st_st I_ok hb1 rfl rfl rfl fun w23 hb1 hE23 hs23 => ?_)
     have hb2 := hb2.ext1 hE23 ne1_2.symm
     have hL := hL.zx9 hE23 hb1o (by decide)
     have hP := hP.zx9 hE23 hb1o (by decide)
     have hR := hR.zx9 hE23 hb1o (by decide)
     have hX := hX.zx1 hE23 fr1
     have hb1 : Blk w23 b1 46 (objC x ⟨qL, kL, a.pp, a.pc, a.rp, a.rc⟩) := hb1
     refine wb rfl (st_p I_ok rfl rfl rfl ?_)
     have hb1o := hb1
     refine wb rfl (st_set I_ok hb1 rfl rfl (by rw [zq7 hx]; decide) fun w24 hb1 hE24 hs24 => ?_)
     have hb2 := hb2.ext1 hE24 ne1_2.symm
     have hL := hL.zx9 hE24 hb1o (by decide)
     have hP := hP.zx9 hE24 hb1o (by decide)
     have hR := hR.zx9 hE24 hb1o (by decide)
     have hX := hX.zx1 hE24 fr1
     have hb1 : Blk w24 b1 46 (objC x ⟨qL, kL, qP, kP, a.rp, a.rc⟩) := (by have h : Blk _ b1 _ ((objC x ⟨qL, kL, a.pp, a.pc, a.rp, a.rc⟩).set (68 + 0) (.slice qP x.parents.length kP)) := hb1; rw [objC_parents hx] at h; exact h)
     refine wb rfl (st_p I_ok rfl rfl rfl (wb rfl (st_p I_ok rfl rfl rfl ?_)))
     have hb1o := hb1
     refine wb rfl (st_set I_ok hb1 rfl rfl (by rw [zq7 hx]; decide) fun w25 hb1 hE25 hs25 => ?_)
     have hb2 := hb2.ext1 hE25 ne1_2.symm
     have hL := hL.zx9 hE25 hb1o (by decide)
     have hP := hP.zx9 hE25 hb1o (by decide)
     have hR := hR.zx9 hE25 hb1o (by decide)
     have hX := hX.zx1 hE25 fr1
     have hb1 : Blk w25 b1 46 (objC x ⟨qL, kL, qP, kP, qR, kR⟩) := (by have h : Blk _ b1 _ ((objC x ⟨qL, kL, qP, kP, a.rp, a.rc⟩).set (68 + 1) (.slice qR x.rows.length kR)) := hb1; rw [objC_rows hx] at h; exact h)
     refine zv0 ?_
     exact zz7 (⟨qL, kL, qP, kP, qR, kR⟩) rfl ⟨⟨hL, hP, hR, nL, nP, nR⟩, hb1, hb2, hX⟩
   ·refine st_bs I_ok rfl 32 rfl idZ_c.symm (by rw [zx0]; rfl) (by decide) (by decide) trivial (l' := []) rfl fun b7 w26 hn7 hb7 hE26 hs26 => ⟨hC.zq4 hE26, ?_⟩
    have fr7 := Nat.le_trans hX.size hn7
    have frhC7 := Nat.le_trans hC.size hn7
    have hb1 := hb1.zq2 hE26
    have hb2 := hb2.zq2 hE26
    have hb3 := hb3.zq2 hE26
    have hX := hX.zq4 hE26
    have hC := hC.zq4 hE26
    refine wx_plan [] 5 rfl (by kernel_rfl) (wd_tail rfl (wx_alt [3, 8] rfl (by kernel_rfl) ⟨⟨_, rfl, ?_⟩, ⟨_, rfl, ?_⟩, trivial⟩))
    ·have hX0 := hX
     have hbsL := hb3
     refine zv2 I_ok rfl 33 48 rfl rfl rfl (by decide) (Own.blk (n := 0) (c := 0) hb3 33 rfl (Nat.le_refl _) (by decide)) (Src.slice (hxl.leaves.zq2 hX) OneC.h) (by dsimp only [maxLen]; omega) (by dsimp only; omega) fun p27 c27 w27 ho27 hE27 hB27 => ⟨hC.trans hE27 (fun y hy hF => by have e : b3 = y := congrArg Addr.block (Option.some.inj hF); omega), ?_⟩
     have hC := hC.trans hE27 (fun y hy hF => by have e : b3 = y := congrArg Addr.block (Option.some.inj hF); omega)
     dsimp only at ho27 hE27 hB27 ⊢
     have hbo27 := Own.blk (n := 0) (c := 0) hbsL 33 rfl (Nat.le_refl _) (by decide)
     have hb1 := hb1.zq8 hbo27 hE27 (show (56 : Nat) ≠ 46 from by decide)
     have hb2 := hb2.zq8 hbo27 hE27 (show (56 : Nat) ≠ 46 from by decide)
     try have hP := hP.zq8 hbo27 hE27 (show (56 : Nat) ≠ 31 from by decide)
     try have hR := hR.zq8 hbo27 hE27 (show (56 : Nat) ≠ 114 from by decide)
     try have hb7 := hb7.zq8 hbo27 hE27 (show (56 : Nat) ≠ 31 from by decide)
     try have hb11 := hb11.zq8 hbo27 hE27 (show (56 : Nat) ≠ 114 from by decide)
     have hX := hX0.trans hE27 fun y hy hF => by have e : b3 = y := congrArg Addr.block (Option.some.inj hF); omega
     obtain ⟨qL, kL, e1, e2, hL⟩ : ∃ q k, q = p27 ∧ k = c27 ∧ Own w27 q x.leaves.length k 56 33 (x.leaves.flatMap zj8.cells) := ⟨_, _, rfl, rfl, by have h := ho27; rw [Nat.zero_add] at h; exact h⟩
     have nL := newW hX0 (newB fr3) hB27
     rw [← e1] at nL
     rw [← e1, ← e2, Nat.zero_add]
     refine wx_plan [(13, true)] 3 rfl (by kernel_rfl) (wd_k I_ok 1 rfl (wd_tail rfl (wx_alt [7, 8] rfl (by kernel_rfl) ⟨⟨_, rfl, ?_⟩, ⟨_, rfl, ?_⟩, trivial⟩)))
     ·have hX0 := hX
      have hbsP := hb7
      refine zv2 I_ok rfl 32 32 rfl rfl rfl (by decide) (Own.blk (n := 0) (c := 0) hb7 32 rfl (Nat.le_refl _) (by decide)) (Src.slice (hxl.parents.zq2 hX) OneC.h) (by dsimp only [maxLen]; omega) (by dsimp only; omega) fun p28 c28 w28 ho28 hE28 hB28 => ⟨hC.trans hE28 (fun y hy hF => by have e : b7 = y := congrArg Addr.block (Option.some.inj hF); omega), ?_⟩
      have hC := hC.trans hE28 (fun y hy hF => by have e : b7 = y := congrArg Addr.block (Option.some.inj hF); omega)
      dsimp only at ho28 hE28 hB28 ⊢
      have hbo28 := Own.blk (n := 0) (c := 0) hbsP 32 rfl (Nat.le_refl _) (by decide)
      have hb1 := hb1.zq8 hbo28 hE28 (show (31 : Nat) ≠ 46 from by decide)
      have hb2 := hb2.zq8 hbo28 hE28 (show (31 : Nat) ≠ 46 from by decide)
      try have hL := hL.zq8 hbo28 hE28 (show (31 : Nat) ≠ 56 from by decide)
      try have hR := hR.zq8 hbo28 hE28 (show (31 : Nat) ≠ 114 from by decide)
      try have hb11 := hb11.zq8 hbo28 hE28 (show (31 : Nat) ≠ 114 from by decide)
      have hX := hX0.trans hE28 fun y hy hF => by have e : b7 = y := congrArg Addr.block (Option.some.inj hF); omega
      obtain ⟨qP, kP, e1, e2, hP⟩ : ∃ q k, q = p28 ∧ k = c28 ∧ Own w28 q x.parents.length k 31 32 (x.parents.flatMap zq6) := ⟨_, _, rfl, rfl, by have h := ho28; rw [Nat.zero_add] at h; exact h⟩
      have nP := newW hX0 (newB fr7) hB28
      rw [← e1] at nP
      rw [← e1, ← e2, Nat.zero_add]
      refine wx_plan [(8, false), (12, false)] 0 rfl (by kernel_rfl) (wd_l rfl (st_bs I_ok rfl 3 rfl chgZ_c rfl (by decide) (by decide) trivial (l' := []) rfl fun b11 w29 hn11 hb11 hE29 hs29 => ⟨hC.zq4 hE29, ?_⟩))
      have fr11 := Nat.le_trans hX.size hn11
      have frhC11 := Nat.le_trans hC.size hn11
      have hb1 := hb1.zq2 hE29
      have hb2 := hb2.zq2 hE29
      have hL := hL.ext hE29 fun _ _ => id
      have hP := hP.ext hE29 fun _ _ => id
      have hX := hX.zq4 hE29
      have hC := hC.zq4 hE29
      have hX0 := hX
      have hbsR := hb11
      refine wd_l rfl (zv2 I_ok rfl 3 40 rfl rfl rfl (by decide) (Own.blk (n := 0) (c := 0) hb11 3 rfl (Nat.le_refl _) (by decide)) (Src.slice (hxl.rows.zq2 hX) OneC.h) (by dsimp only [maxLen]; omega) (by dsimp only; omega) fun p30 c30 w30 ho30 hE30 hB30 => ⟨hC.trans hE30 (fun y hy hF => by have e : b11 = y := congrArg Addr.block (Option.some.inj hF); omega), ?_⟩)
      dsimp only at ho30 hE30 hB30 ⊢
      have hbo30 := Own.blk (n := 0) (c := 0) hbsR 3 rfl (Nat.le_refl _) (by decide)
      have hb1 := hb1.zq8 hbo30 hE30 (show (114 : Nat) ≠ 46 from by decide)
      have hb2 := hb2.zq8 hbo30 hE30 (show (114 : Nat) ≠ 46 from by decide)
      try have hL := hL.zq8 hbo30 hE30 (show (114 : Nat) ≠ 56 from by decide)
      try have hP := hP.zq8 hbo30 hE30 (show (114 : Nat) ≠ 31 from by decide)
      have hX := hX0.trans hE30 fun y hy hF => by have e : b11 = y := congrArg Addr.block (Option.some.inj hF); omega
      obtain ⟨qR, kR, e1, e2, hR⟩ : ∃ q k, q = p30 ∧ k = c30 ∧ Own w30 q x.rows.length k 114 3 (x.rows.flatMap ChgD.cells) := ⟨_, _, rfl, rfl, by have h := ho30; rw [Nat.zero_add] at h; exact h⟩
      have nR := newW hX0 (newB fr11) hB30
      rw [← e1] at nR
      rw [← e1, ← e2, Nat.zero_add]
      refine wd_sw ?_
      have hb1o := hb1
      refine wb rfl (st_st I_ok hb1 rfl rfl rfl fun w31 hb1 hE31 hs31 => ?_)
      have hb2 := hb2.ext1 hE31 ne1_2.symm
      have hL := hL.zx9 hE31 hb1o (by decide)
      have hP := hP.zx9 hE31 hb1o (by decide)
      have hR := hR.zx9 hE31 hb1o (by decide)
      have hX := hX.zx1 hE31 fr1
      have hb1 : Blk w31 b1 46 (objC x ⟨qL, kL, a.pp, a.pc, a.rp, a.rc⟩) := hb1
      refine wb rfl (st_p I_ok rfl rfl rfl ?_)
      have hb1o := hb1
      refine wb rfl (st_set I_ok hb1 rfl rfl (by rw [zq7 hx]; decide) fun w32 hb1 hE32 hs32 => ?_)
      have hb2 := hb2.ext1 hE32 ne1_2.symm
      have hL := hL.zx9 hE32 hb1o (by decide)
      have hP := hP.zx9 hE32 hb1o (by decide)
      have hR := hR.zx9 hE32 hb1o (by decide)
      have hX := hX.zx1 hE32 fr1
      have hb1 : Blk w32 b1 46 (objC x ⟨qL, kL, qP, kP, a.rp, a.rc⟩) := (by have h : Blk _ b1 _ ((objC x ⟨qL, kL, a.pp, a.pc, a.rp, a.rc⟩).set (68 + 0) (.slice qP x.parents.length kP)) := hb1; rw [objC_parents hx] at h; exact h)
      refine wb rfl (st_p I_ok rfl rfl rfl (wb rfl (st_p I_ok rfl rfl rfl ?_)))
      have hb1o := hb1
      refine wb rfl (st_set I_ok hb1 rfl rfl (by rw [zq7 hx]; decide) fun w33 hb1 hE33 hs33 => ?_)
      have hb2 := hb2.ext1 hE33 ne1_2.symm
      have hL := hL.zx9 hE33 hb1o (by decide)
      have hP := hP.zx9 hE33 hb1o (by decide)
      have hR := hR.zx9 hE33 hb1o (by decide)
      have hX := hX.zx1 hE33 fr1
      have hb1 : Blk w33 b1 46 (objC x ⟨qL, kL, qP, kP, qR, kR⟩) := (by have h : Blk _ b1 _ ((objC x ⟨qL, kL, qP, kP, a.rp, a.rc⟩).set (68 + 1) (.slice qR x.rows.length kR)) := hb1; rw [objC_rows hx] at h; exact h)
      refine zv0 ?_
      exact zz7 (⟨qL, kL, qP, kP, qR, kR⟩) rfl ⟨⟨hL, hP, hR, nL, nP, nR⟩, hb1, hb2, hX⟩
     ·refine st_bs I_ok rfl 3 rfl chgZ_c rfl (by decide) (by decide) trivial (l' := []) rfl fun b11 w34 hn11 hb11 hE34 hs34 => ⟨hC.zq4 hE34, ?_⟩
      have fr11 := Nat.le_trans hX.size hn11
      have frhC11 := Nat.le_trans hC.size hn11
      have hb1 := hb1.zq2 hE34
      have hb2 := hb2.zq2 hE34
      have hb7 := hb7.zq2 hE34
      have hL := hL.ext hE34 fun _ _ => id
      have hX := hX.zq4 hE34
      have hC := hC.zq4 hE34
      refine wx_plan [(7, false), (12, false)] 0 rfl (by kernel_rfl) ?_
      have hX0 := hX
      have hbsP := hb7
      refine wd_l rfl (zv2 I_ok rfl 32 32 rfl rfl rfl (by decide) (Own.blk (n := 0) (c := 0) hb7 32 rfl (Nat.le_refl _) (by decide)) (Src.slice (hxl.parents.zq2 hX) OneC.h) (by dsimp only [maxLen]; omega) (by dsimp only; omega) fun p35 c35 w35 ho35 hE35 hB35 => ⟨hC.trans hE35 (fun y hy hF => by have e : b7 = y := congrArg Addr.block (Option.some.inj hF); omega), ?_⟩)
      have hC := hC.trans hE35 (fun y hy hF => by have e : b7 = y := congrArg Addr.block (Option.some.inj hF); omega)
      dsimp only at ho35 hE35 hB35 ⊢
      have hbo35 := Own.blk (n := 0) (c := 0) hbsP 32 rfl (Nat.le_refl _) (by decide)
      have hb1 := hb1.zq8 hbo35 hE35 (show (31 : Nat) ≠ 46 from by decide)
      have hb2 := hb2.zq8 hbo35 hE35 (show (31 : Nat) ≠ 46 from by decide)
      try have hL := hL.zq8 hbo35 hE35 (show (31 : Nat) ≠ 56 from by decide)
      try have hR := hR.zq8 hbo35 hE35 (show (31 : Nat) ≠ 114 from by decide)
      try have hb11 := hb11.zq8 hbo35 hE35 (show (31 : Nat) ≠ 114 from by decide)
      have hX := hX0.trans hE35 fun y hy hF => by have e : b7 = y := congrArg Addr.block (Option.some.inj hF); omega
      obtain ⟨qP, kP, e1, e2, hP⟩ : ∃ q k, q = p35 ∧ k = c35 ∧ Own w35 q x.parents.length k 31 32 (x.parents.flatMap zq6) := ⟨_, _, rfl, rfl, by have h := ho35; rw [Nat.zero_add] at h; exact h⟩
      have nP := newW hX0 (newB fr7) hB35
      rw [← e1] at nP
      rw [← e1, ← e2, Nat.zero_add]
      have hX0 := hX
      have hbsR := hb11
      refine wd_l rfl (zv2 I_ok rfl 3 40 rfl rfl rfl (by decide) (Own.blk (n := 0) (c := 0) hb11 3 rfl (Nat.le_refl _) (by decide)) (Src.slice (hxl.rows.zq2 hX) OneC.h) (by dsimp only [maxLen]; omega) (by dsimp only; omega) fun p36 c36 w36 ho36 hE36 hB36 => ⟨hC.trans hE36 (fun y hy hF => by have e : b11 = y := congrArg Addr.block (Option.some.inj hF); omega), ?_⟩)
      dsimp only at ho36 hE36 hB36 ⊢
      have hbo36 := Own.blk (n := 0) (c := 0) hbsR 3 rfl (Nat.le_refl _) (by decide)
      have hb1 := hb1.zq8 hbo36 hE36 (show (114 : Nat) ≠ 46 from by decide)
      have hb2 := hb2.zq8 hbo36 hE36 (show (114 : Nat) ≠ 46 from by decide)
      try have hL := hL.zq8 hbo36 hE36 (show (114 : Nat) ≠ 56 from by decide)
      try have hP := hP.zq8 hbo36 hE36 (show (114 : Nat) ≠ 31 from by decide)
      have hX := hX0.trans hE36 fun y hy hF => by have e : b11 = y := congrArg Addr.block (Option.some.inj hF); omega
      obtain ⟨qR, kR, e1, e2, hR⟩ : ∃ q k, q = p36 ∧ k = c36 ∧ Own w36 q x.rows.length k 114 3 (x.rows.flatMap ChgD.cells) := ⟨_, _, rfl, rfl, by have h := ho36; rw [Nat.zero_add] at h; exact h⟩
      have nR := newW hX0 (newB fr11) hB36
      rw [← e1] at nR
      rw [← e1, ← e2, Nat.zero_add]
      refine wd_sw ?_
      have hb1o := hb1
      refine wb rfl (st_st I_ok hb1 rfl rfl rfl fun w37 hb1 hE37 hs37 => ?_)
      have hb2 := hb2.ext1 hE37 ne1_2.symm
      have hL := hL.zx9 hE37 hb1o (by decide)
      have hP := hP.zx9 hE37 hb1o (by decide)
      have hR := hR.zx9 hE37 hb1o (by decide)
      have hX := hX.zx1 hE37 fr1
      have hb1 : Blk w37 b1 46 (objC x ⟨qL, kL, a.pp, a.pc, a.rp, a.rc⟩) := hb1
      refine wb rfl (st_p I_ok rfl rfl rfl ?_)
      have hb1o := hb1
      refine wb rfl (st_set I_ok hb1 rfl rfl (by rw [zq7 hx]; decide) fun w38 hb1 hE38 hs38 => ?_)
      have hb2 := hb2.ext1 hE38 ne1_2.symm
      have hL := hL.zx9 hE38 hb1o (by decide)
      have hP := hP.zx9 hE38 hb1o (by decide)
      have hR := hR.zx9 hE38 hb1o (by decide)
      have hX := hX.zx1 hE38 fr1
      have hb1 : Blk w38 b1 46 (objC x ⟨qL, kL, qP, kP, a.rp, a.rc⟩) := (by have h : Blk _ b1 _ ((objC x ⟨qL, kL, a.pp, a.pc, a.rp, a.rc⟩).set (68 + 0) (.slice qP x.parents.length kP)) := hb1; rw [objC_parents hx] at h; exact h)
      refine wb rfl (st_p I_ok rfl rfl rfl (wb rfl (st_p I_ok rfl rfl rfl ?_)))
      have hb1o := hb1
      refine wb rfl (st_set I_ok hb1 rfl rfl (by rw [zq7 hx]; decide) fun w39 hb1 hE39 hs39 => ?_)
      have hb2 := hb2.ext1 hE39 ne1_2.symm
      have hL := hL.zx9 hE39 hb1o (by decide)
      have hP := hP.zx9 hE39 hb1o (by decide)
      have hR := hR.zx9 hE39 hb1o (by decide)
      have hX := hX.zx1 hE39 fr1
      have hb1 : Blk w39 b1 46 (objC x ⟨qL, kL, qP, kP, qR, kR⟩) := (by have h : Blk _ b1 _ ((objC x ⟨qL, kL, qP, kP, a.rp, a.rc⟩).set (68 + 1) (.slice qR x.rows.length kR)) := hb1; rw [objC_rows hx] at h; exact h)
      refine zv0 ?_
      exact zz7 (⟨qL, kL, qP, kP, qR, kR⟩) rfl ⟨⟨hL, hP, hR, nL, nP, nR⟩, hb1, hb2, hX⟩
    ·refine st_bs I_ok rfl 3 rfl chgZ_c rfl (by decide) (by decide) trivial (l' := []) rfl fun b11 w40 hn11 hb11 hE40 hs40 => ⟨hC.zq4 hE40, ?_⟩
     have fr11 := Nat.le_trans hX.size hn11
     have frhC11 := Nat.le_trans hC.size hn11
     have hb1 := hb1.zq2 hE40
     have hb2 := hb2.zq2 hE40
     have hb3 := hb3.zq2 hE40
     have hb7 := hb7.zq2 hE40
     have hX := hX.zq4 hE40
     have hC := hC.zq4 hE40
     refine wx_plan [(3, false), (13, true), (7, false), (12, false)] 0 rfl (by kernel_rfl) ?_
     have hX0 := hX
     have hbsL := hb3
     refine wd_l rfl (zv2 I_ok rfl 33 48 rfl rfl rfl (by decide) (Own.blk (n := 0) (c := 0) hb3 33 rfl (Nat.le_refl _) (by decide)) (Src.slice (hxl.leaves.zq2 hX) OneC.h) (by dsimp only [maxLen]; omega) (by dsimp only; omega) fun p41 c41 w41 ho41 hE41 hB41 => ⟨hC.trans hE41 (fun y hy hF => by have e : b3 = y := congrArg Addr.block (Option.some.inj hF); omega), ?_⟩)
     have hC := hC.trans hE41 (fun y hy hF => by have e : b3 = y := congrArg Addr.block (Option.some.inj hF); omega)
     dsimp only at ho41 hE41 hB41 ⊢
     have hbo41 := Own.blk (n := 0) (c := 0) hbsL 33 rfl (Nat.le_refl _) (by decide)
     have hb1 := hb1.zq8 hbo41 hE41 (show (56 : Nat) ≠ 46 from by decide)
     have hb2 := hb2.zq8 hbo41 hE41 (show (56 : Nat) ≠ 46 from by decide)
     try have hP := hP.zq8 hbo41 hE41 (show (56 : Nat) ≠ 31 from by decide)
     try have hR := hR.zq8 hbo41 hE41 (show (56 : Nat) ≠ 114 from by decide)
     try have hb7 := hb7.zq8 hbo41 hE41 (show (56 : Nat) ≠ 31 from by decide)
     try have hb11 := hb11.zq8 hbo41 hE41 (show (56 : Nat) ≠ 114 from by decide)
     have hX := hX0.trans hE41 fun y hy hF => by have e : b3 = y := congrArg Addr.block (Option.some.inj hF); omega
     obtain ⟨qL, kL, e1, e2, hL⟩ : ∃ q k, q = p41 ∧ k = c41 ∧ Own w41 q x.leaves.length k 56 33 (x.leaves.flatMap zj8.cells) := ⟨_, _, rfl, rfl, by have h := ho41; rw [Nat.zero_add] at h; exact h⟩
     have nL := newW hX0 (newB fr3) hB41
     rw [← e1] at nL
     rw [← e1, ← e2, Nat.zero_add]
     refine wd_k I_ok 1 rfl ?_
     have hX0 := hX
     have hbsP := hb7
     refine wd_l rfl (zv2 I_ok rfl 32 32 rfl rfl rfl (by decide) (Own.blk (n := 0) (c := 0) hb7 32 rfl (Nat.le_refl _) (by decide)) (Src.slice (hxl.parents.zq2 hX) OneC.h) (by dsimp only [maxLen]; omega) (by dsimp only; omega) fun p42 c42 w42 ho42 hE42 hB42 => ⟨hC.trans hE42 (fun y hy hF => by have e : b7 = y := congrArg Addr.block (Option.some.inj hF); omega), ?_⟩)
     have hC := hC.trans hE42 (fun y hy hF => by have e : b7 = y := congrArg Addr.block (Option.some.inj hF); omega)
     dsimp only at ho42 hE42 hB42 ⊢
     have hbo42 := Own.blk (n := 0) (c := 0) hbsP 32 rfl (Nat.le_refl _) (by decide)
     have hb1 := hb1.zq8 hbo42 hE42 (show (31 : Nat) ≠ 46 from by decide)
     have hb2 := hb2.zq8 hbo42 hE42 (show (31 : Nat) ≠ 46 from by decide)
     try have hL := hL.zq8 hbo42 hE42 (show (31 : Nat) ≠ 56 from by decide)
     try have hR := hR.zq8 hbo42 hE42 (show (31 : Nat) ≠ 114 from by decide)
     try have hb11 := hb11.zq8 hbo42 hE42 (show (31 : Nat) ≠ 114 from by decide)
     have hX := hX0.trans hE42 fun y hy hF => by have e : b7 = y := congrArg Addr.block (Option.some.inj hF); omega
     obtain ⟨qP, kP, e1, e2, hP⟩ : ∃ q k, q = p42 ∧ k = c42 ∧ Own w42 q x.parents.length k 31 32 (x.parents.flatMap zq6) := ⟨_, _, rfl, rfl, by have h := ho42; rw [Nat.zero_add] at h; exact h⟩
     have nP := newW hX0 (newB fr7) hB42
     rw [← e1] at nP
     rw [← e1, ← e2, Nat.zero_add]
     have hX0 := hX
     have hbsR := hb11
     refine wd_l rfl (zv2 I_ok rfl 3 40 rfl rfl rfl (by decide) (Own.blk (n := 0) (c := 0) hb11 3 rfl (Nat.le_refl _) (by decide)) (Src.slice (hxl.rows.zq2 hX) OneC.h) (by dsimp only [maxLen]; omega) (by dsimp only; omega) fun p43 c43 w43 ho43 hE43 hB43 => ⟨hC.trans hE43 (fun y hy hF => by have e : b11 = y := congrArg Addr.block (Option.some.inj hF); omega), ?_⟩)
     dsimp only at ho43 hE43 hB43 ⊢
     have hbo43 := Own.blk (n := 0) (c := 0) hbsR 3 rfl (Nat.le_refl _) (by decide)
     have hb1 := hb1.zq8 hbo43 hE43 (show (114 : Nat) ≠ 46 from by decide)
     have hb2 := hb2.zq8 hbo43 hE43 (show (114 : Nat) ≠ 46 from by decide)
     try have hL := hL.zq8 hbo43 hE43 (show (114 : Nat) ≠ 56 from by decide)
     try have hP := hP.zq8 hbo43 hE43 (show (114 : Nat) ≠ 31 from by decide)
     have hX := hX0.trans hE43 fun y hy hF => by have e : b11 = y := congrArg Addr.block (Option.some.inj hF); omega
     obtain ⟨qR, kR, e1, e2, hR⟩ : ∃ q k, q = p43 ∧ k = c43 ∧ Own w43 q x.rows.length k 114 3 (x.rows.flatMap ChgD.cells) := ⟨_, _, rfl, rfl, by have h := ho43; rw [Nat.zero_add] at h; exact h⟩
     have nR := newW hX0 (newB fr11) hB43
     rw [← e1] at nR
     rw [← e1, ← e2, Nat.zero_add]
     refine wd_sw ?_
     have hb1o := hb1
     refine wb rfl (st_st I_ok hb1 rfl rfl rfl fun w44 hb1 hE44 hs44 => ?_)
     have hb2 := hb2.ext1 hE44 ne1_2.symm
     have hL := hL.zx9 hE44 hb1o (by decide)
     have hP := hP.zx9 hE44 hb1o (by decide)
     have hR := hR.zx9 hE44 hb1o (by decide)
     have hX := hX.zx1 hE44 fr1
     have hb1 : Blk w44 b1 46 (objC x ⟨qL, kL, a.pp, a.pc, a.rp, a.rc⟩) := hb1
     refine wb rfl (st_p I_ok rfl rfl rfl ?_)
     have hb1o := hb1
     refine wb rfl (st_set I_ok hb1 rfl rfl (by rw [zq7 hx]; decide) fun w45 hb1 hE45 hs45 => ?_)
     have hb2 := hb2.ext1 hE45 ne1_2.symm
     have hL := hL.zx9 hE45 hb1o (by decide)
     have hP := hP.zx9 hE45 hb1o (by decide)
     have hR := hR.zx9 hE45 hb1o (by decide)
     have hX := hX.zx1 hE45 fr1
     have hb1 : Blk w45 b1 46 (objC x ⟨qL, kL, qP, kP, a.rp, a.rc⟩) := (by have h : Blk _ b1 _ ((objC x ⟨qL, kL, a.pp, a.pc, a.rp, a.rc⟩).set (68 + 0) (.slice qP x.parents.length kP)) := hb1; rw [objC_parents hx] at h; exact h)
     refine wb rfl (st_p I_ok rfl rfl rfl (wb rfl (st_p I_ok rfl rfl rfl ?_)))
     have hb1o := hb1
     refine wb rfl (st_set I_ok hb1 rfl rfl (by rw [zq7 hx]; decide) fun w46 hb1 hE46 hs46 => ?_)
     have hb2 := hb2.ext1 hE46 ne1_2.symm
     have hL := hL.zx9 hE46 hb1o (by decide)
     have hP := hP.zx9 hE46 hb1o (by decide)
     have hR := hR.zx9 hE46 hb1o (by decide)
     have hX := hX.zx1 hE46 fr1
     have hb1 : Blk w46 b1 46 (objC x ⟨qL, kL, qP, kP, qR, kR⟩) := (by have h : Blk _ b1 _ ((objC x ⟨qL, kL, qP, kP, a.rp, a.rc⟩).set (68 + 1) (.slice qR x.rows.length kR)) := hb1; rw [objC_rows hx] at h; exact h)
     refine zv0 ?_
     exact zz7 (⟨qL, kL, qP, kP, qR, kR⟩) rfl ⟨⟨hL, hP, hR, nL, nP, nR⟩, hb1, hb2, hX⟩
   ·refine st_bs I_ok rfl 3 rfl chgZ_c rfl (by decide) (by decide) trivial (l' := []) rfl fun b11 w47 hn11 hb11 hE47 hs47 => ⟨hC.zq4 hE47, ?_⟩
    have fr11 := Nat.le_trans hX.size hn11
    have frhC11 := Nat.le_trans hC.size hn11
    have hb1 := hb1.zq2 hE47
    have hb2 := hb2.zq2 hE47
    have hb3 := hb3.zq2 hE47
    have hX := hX.zq4 hE47
    have hC := hC.zq4 hE47
    refine wx_plan [] 5 rfl (by kernel_rfl) (wd_tail rfl (wx_alt [3, 4] rfl (by kernel_rfl) ⟨⟨_, rfl, ?_⟩, ⟨_, rfl, ?_⟩, trivial⟩))
    ·have hX0 := hX
     have hbsL := hb3
     refine zv2 I_ok rfl 33 48 rfl rfl rfl (by decide) (Own.blk (n := 0) (c := 0) hb3 33 rfl (Nat.le_refl _) (by decide)) (Src.slice (hxl.leaves.zq2 hX) OneC.h) (by dsimp only [maxLen]; omega) (by dsimp only; omega) fun p48 c48 w48 ho48 hE48 hB48 => ⟨hC.trans hE48 (fun y hy hF => by have e : b3 = y := congrArg Addr.block (Option.some.inj hF); omega), ?_⟩
     have hC := hC.trans hE48 (fun y hy hF => by have e : b3 = y := congrArg Addr.block (Option.some.inj hF); omega)
     dsimp only at ho48 hE48 hB48 ⊢
     have hbo48 := Own.blk (n := 0) (c := 0) hbsL 33 rfl (Nat.le_refl _) (by decide)
     have hb1 := hb1.zq8 hbo48 hE48 (show (56 : Nat) ≠ 46 from by decide)
     have hb2 := hb2.zq8 hbo48 hE48 (show (56 : Nat) ≠ 46 from by decide)
     try have hP := hP.zq8 hbo48 hE48 (show (56 : Nat) ≠ 31 from by decide)
     try have hR := hR.zq8 hbo48 hE48 (show (56 : Nat) ≠ 114 from by decide)
     try have hb7 := hb7.zq8 hbo48 hE48 (show (56 : Nat) ≠ 31 from by decide)
     try have hb11 := hb11.zq8 hbo48 hE48 (show (56 : Nat) ≠ 114 from by decide)
     have hX := hX0.trans hE48 fun y hy hF => by have e : b3 = y := congrArg Addr.block (Option.some.inj hF); omega
     obtain ⟨qL, kL, e1, e2, hL⟩ : ∃ q k, q = p48 ∧ k = c48 ∧ Own w48 q x.leaves.length k 56 33 (x.leaves.flatMap zj8.cells) := ⟨_, _, rfl, rfl, by have h := ho48; rw [Nat.zero_add] at h; exact h⟩
     have nL := newW hX0 (newB fr3) hB48
     rw [← e1] at nL
     rw [← e1, ← e2, Nat.zero_add]
     refine wx_plan [(13, true), (4, false), (7, false), (12, false)] 0 rfl (by kernel_rfl) (wd_k I_ok 1 rfl ?_)
     refine wd_l rfl (st_bs I_ok rfl 32 rfl idZ_c.symm (by rw [zx0]; rfl) (by decide) (by decide) trivial (l' := []) rfl fun b7 w49 hn7 hb7 hE49 hs49 => ⟨hC.zq4 hE49, ?_⟩)
     have fr7 := Nat.le_trans hX.size hn7
     have frhC7 := Nat.le_trans hC.size hn7
     have hb1 := hb1.zq2 hE49
     have hb2 := hb2.zq2 hE49
     have hb11 := hb11.zq2 hE49
     have hL := hL.ext hE49 fun _ _ => id
     have hX := hX.zq4 hE49
     have hC := hC.zq4 hE49
     have hX0 := hX
     have hbsP := hb7
     refine wd_l rfl (zv2 I_ok rfl 32 32 rfl rfl rfl (by decide) (Own.blk (n := 0) (c := 0) hb7 32 rfl (Nat.le_refl _) (by decide)) (Src.slice (hxl.parents.zq2 hX) OneC.h) (by dsimp only [maxLen]; omega) (by dsimp only; omega) fun p50 c50 w50 ho50 hE50 hB50 => ⟨hC.trans hE50 (fun y hy hF => by have e : b7 = y := congrArg Addr.block (Option.some.inj hF); omega), ?_⟩)
     have hC := hC.trans hE50 (fun y hy hF => by have e : b7 = y := congrArg Addr.block (Option.some.inj hF); omega)
     dsimp only at ho50 hE50 hB50 ⊢
     have hbo50 := Own.blk (n := 0) (c := 0) hbsP 32 rfl (Nat.le_refl _) (by decide)
     have hb1 := hb1.zq8 hbo50 hE50 (show (31 : Nat) ≠ 46 from by decide)
     have hb2 := hb2.zq8 hbo50 hE50 (show (31 : Nat) ≠ 46 from by decide)
     try have hL := hL.zq8 hbo50 hE50 (show (31 : Nat) ≠ 56 from by decide)
     try have hR := hR.zq8 hbo50 hE50 (show (31 : Nat) ≠ 114 from by decide)
     try have hb11 := hb11.zq8 hbo50 hE50 (show (31 : Nat) ≠ 114 from by decide)
     have hX := hX0.trans hE50 fun y hy hF => by have e : b7 = y := congrArg Addr.block (Option.some.inj hF); omega
     obtain ⟨qP, kP, e1, e2, hP⟩ : ∃ q k, q = p50 ∧ k = c50 ∧ Own w50 q x.parents.length k 31 32 (x.parents.flatMap zq6) := ⟨_, _, rfl, rfl, by have h := ho50; rw [Nat.zero_add] at h; exact h⟩
     have nP := newW hX0 (newB fr7) hB50
     rw [← e1] at nP
     rw [← e1, ← e2, Nat.zero_add]
     have hX0 := hX
     have hbsR := hb11
     refine wd_l rfl (zv2 I_ok rfl 3 40 rfl rfl rfl (by decide) (Own.blk (n := 0) (c := 0) hb11 3 rfl (Nat.le_refl _) (by decide)) (Src.slice (hxl.rows.zq2 hX) OneC.h) (by dsimp only [maxLen]; omega) (by dsimp only; omega) fun p51 c51 w51 ho51 hE51 hB51 => ⟨hC.trans hE51 (fun y hy hF => by have e : b11 = y := congrArg Addr.block (Option.some.inj hF); omega), ?_⟩)
     dsimp only at ho51 hE51 hB51 ⊢
     have hbo51 := Own.blk (n := 0) (c := 0) hbsR 3 rfl (Nat.le_refl _) (by decide)
     have hb1 := hb1.zq8 hbo51 hE51 (show (114 : Nat) ≠ 46 from by decide)
     have hb2 := hb2.zq8 hbo51 hE51 (show (114 : Nat) ≠ 46 from by decide)
     try have hL := hL.zq8 hbo51 hE51 (show (114 : Nat) ≠ 56 from by decide)
     try have hP := hP.zq8 hbo51 hE51 (show (114 : Nat) ≠ 31 from by decide)
     have hX := hX0.trans hE51 fun y hy hF => by have e : b11 = y := congrArg Addr.block (Option.some.inj hF); omega
     obtain ⟨qR, kR, e1, e2, hR⟩ : ∃ q k, q = p51 ∧ k = c51 ∧ Own w51 q x.rows.length k 114 3 (x.rows.flatMap ChgD.cells) := ⟨_, _, rfl, rfl, by have h := ho51; rw [Nat.zero_add] at h; exact h⟩
     have nR := newW hX0 (newB fr11) hB51
     rw [← e1] at nR
     rw [← e1, ← e2, Nat.zero_add]
     refine wd_sw ?_
     have hb1o := hb1
     refine wb rfl (st_st I_ok hb1 rfl rfl rfl fun w52 hb1 hE52 hs52 => ?_)
     have hb2 := hb2.ext1 hE52 ne1_2.symm
     have hL := hL.zx9 hE52 hb1o (by decide)
     have hP := hP.zx9 hE52 hb1o (by decide)
     have hR := hR.zx9 hE52 hb1o (by decide)
     have hX := hX.zx1 hE52 fr1
     have hb1 : Blk w52 b1 46 (objC x ⟨qL, kL, a.pp, a.pc, a.rp, a.rc⟩) := hb1
     refine wb rfl (st_p I_ok rfl rfl rfl ?_)
     have hb1o := hb1
     refine wb rfl (st_set I_ok hb1 rfl rfl (by rw [zq7 hx]; decide) fun w53 hb1 hE53 hs53 => ?_)
     have hb2 := hb2.ext1 hE53 ne1_2.symm
     have hL := hL.zx9 hE53 hb1o (by decide)
     have hP := hP.zx9 hE53 hb1o (by decide)
     have hR := hR.zx9 hE53 hb1o (by decide)
     have hX := hX.zx1 hE53 fr1
     have hb1 : Blk w53 b1 46 (objC x ⟨qL, kL, qP, kP, a.rp, a.rc⟩) := (by have h : Blk _ b1 _ ((objC x ⟨qL, kL, a.pp, a.pc, a.rp, a.rc⟩).set (68 + 0) (.slice qP x.parents.length kP)) := hb1; rw [objC_parents hx] at h; exact h)
     refine wb rfl (st_p I_ok rfl rfl rfl (wb rfl (st_p I_ok rfl rfl rfl ?_)))
     have hb1o := hb1
     refine wb rfl (st_set I_ok hb1 rfl rfl (by rw [zq7 hx]; decide) fun w54 hb1 hE54 hs54 => ?_)
     have hb2 := hb2.ext1 hE54 ne1_2.symm
     have hL := hL.zx9 hE54 hb1o (by decide)
     have hP := hP.zx9 hE54 hb1o (by decide)
     have hR := hR.zx9 hE54 hb1o (by decide)
     have hX := hX.zx1 hE54 fr1
     have hb1 : Blk w54 b1 46 (objC x ⟨qL, kL, qP, kP, qR, kR⟩) := (by have h : Blk _ b1 _ ((objC x ⟨qL, kL, qP, kP, a.rp, a.rc⟩).set (68 + 1) (.slice qR x.rows.length kR)) := hb1; rw [objC_rows hx] at h; exact h)
     refine zv0 ?_
     exact zz7 (⟨qL, kL, qP, kP, qR, kR⟩) rfl ⟨⟨hL, hP, hR, nL, nP, nR⟩, hb1, hb2, hX⟩
    ·refine st_bs I_ok rfl 32 rfl idZ_c.symm (by rw [zx0]; rfl) (by decide) (by decide) trivial (l' := []) rfl fun b7 w55 hn7 hb7 hE55 hs55 => ⟨hC.zq4 hE55, ?_⟩
     have fr7 := Nat.le_trans hX.size hn7
     have frhC7 := Nat.le_trans hC.size hn7
     have hb1 := hb1.zq2 hE55
     have hb2 := hb2.zq2 hE55
     have hb3 := hb3.zq2 hE55
     have hb11 := hb11.zq2 hE55
     have hX := hX.zq4 hE55
     have hC := hC.zq4 hE55
     refine wx_plan [(3, false), (13, true), (7, false), (12, false)] 0 rfl (by kernel_rfl) ?_
     have hX0 := hX
     have hbsL := hb3
     refine wd_l rfl (zv2 I_ok rfl 33 48 rfl rfl rfl (by decide) (Own.blk (n := 0) (c := 0) hb3 33 rfl (Nat.le_refl _) (by decide)) (Src.slice (hxl.leaves.zq2 hX) OneC.h) (by dsimp only [maxLen]; omega) (by dsimp only; omega) fun p56 c56 w56 ho56 hE56 hB56 => ⟨hC.trans hE56 (fun y hy hF => by have e : b3 = y := congrArg Addr.block (Option.some.inj hF); omega), ?_⟩)
     have hC := hC.trans hE56 (fun y hy hF => by have e : b3 = y := congrArg Addr.block (Option.some.inj hF); omega)
     dsimp only at ho56 hE56 hB56 ⊢
     have hbo56 := Own.blk (n := 0) (c := 0) hbsL 33 rfl (Nat.le_refl _) (by decide)
     have hb1 := hb1.zq8 hbo56 hE56 (show (56 : Nat) ≠ 46 from by decide)
     have hb2 := hb2.zq8 hbo56 hE56 (show (56 : Nat) ≠ 46 from by decide)
     try have hP := hP.zq8 hbo56 hE56 (show (56 : Nat) ≠ 31 from by decide)
     try have hR := hR.zq8 hbo56 hE56 (show (56 : Nat) ≠ 114 from by decide)
     try have hb7 := hb7.zq8 hbo56 hE56 (show (56 : Nat) ≠ 31 from by decide)
     try have hb11 := hb11.zq8 hbo56 hE56 (show (56 : Nat) ≠ 114 from by decide)
     have hX := hX0.trans hE56 fun y hy hF => by have e : b3 = y := congrArg Addr.block (Option.some.inj hF); omega
     obtain ⟨qL, kL, e1, e2, hL⟩ : ∃ q k, q = p56 ∧ k = c56 ∧ Own w56 q x.leaves.length k 56 33 (x.leaves.flatMap zj8.cells) := ⟨_, _, rfl, rfl, by have h := ho56; rw [Nat.zero_add] at h; exact h⟩
     have nL := newW hX0 (newB fr3) hB56
     rw [← e1] at nL
     rw [← e1, ← e2, Nat.zero_add]
     refine wd_k I_ok 1 rfl ?_
     have hX0 := hX
     have hbsP := hb7
     refine wd_l rfl (zv2 I_ok rfl 32 32 rfl rfl rfl (by decide) (Own.blk (n := 0) (c := 0) hb7 32 rfl (Nat.le_refl _) (by decide)) (Src.slice (hxl.parents.zq2 hX) OneC.h) (by dsimp only [maxLen]; omega) (by dsimp only; omega) fun p57 c57 w57 ho57 hE57 hB57 => ⟨hC.trans hE57 (fun y hy hF => by have e : b7 = y := congrArg Addr.block (Option.some.inj hF); omega), ?_⟩)
     have hC := hC.trans hE57 (fun y hy hF => by have e : b7 = y := congrArg Addr.block (Option.some.inj hF); omega)
     dsimp only at ho57 hE57 hB57 ⊢
     have hbo57 := Own.blk (n := 0) (c := 0) hbsP 32 rfl (Nat.le_refl _) (by decide)
     have hb1 := hb1.zq8 hbo57 hE57 (show (31 : Nat) ≠ 46 from by decide)
     have hb2 := hb2.zq8 hbo57 hE57 (show (31 : Nat) ≠ 46 from by decide)
     try have hL := hL.zq8 hbo57 hE57 (show (31 : Nat) ≠ 56 from by decide)
     try have hR := hR.zq8 hbo57 hE57 (show (31 : Nat) ≠ 114 from by decide)
     try have hb11 := hb11.zq8 hbo57 hE57 (show (31 : Nat) ≠ 114 from by decide)
     have hX := hX0.trans hE57 fun y hy hF => by have e : b7 = y := congrArg Addr.block (Option.some.inj hF); omega
     obtain ⟨qP, kP, e1, e2, hP⟩ : ∃ q k, q = p57 ∧ k = c57 ∧ Own w57 q x.parents.length k 31 32 (x.parents.flatMap zq6) := ⟨_, _, rfl, rfl, by have h := ho57; rw [Nat.zero_add] at h; exact h⟩
     have nP := newW hX0 (newB fr7) hB57
     rw [← e1] at nP
     rw [← e1, ← e2, Nat.zero_add]
     have hX0 := hX
     have hbsR := hb11
     refine wd_l rfl (zv2 I_ok rfl 3 40 rfl rfl rfl (by decide) (Own.blk (n := 0) (c := 0) hb11 3 rfl (Nat.le_refl _) (by decide)) (Src.slice (hxl.rows.zq2 hX) OneC.h) (by dsimp only [maxLen]; omega) (by dsimp only; omega) fun p58 c58 w58 ho58 hE58 hB58 => ⟨hC.trans hE58 (fun y hy hF => by have e : b11 = y := congrArg Addr.block (Option.some.inj hF); omega), ?_⟩)
     dsimp only at ho58 hE58 hB58 ⊢
     have hbo58 := Own.blk (n := 0) (c := 0) hbsR 3 rfl (Nat.le_refl _) (by decide)
     have hb1 := hb1.zq8 hbo58 hE58 (show (114 : Nat) ≠ 46 from by decide)
     have hb2 := hb2.zq8 hbo58 hE58 (show (114 : Nat) ≠ 46 from by decide)
     try have hL := hL.zq8 hbo58 hE58 (show (114 : Nat) ≠ 56 from by decide)
     try have hP := hP.zq8 hbo58 hE58 (show (114 : Nat) ≠ 31 from by decide)
     have hX := hX0.trans hE58 fun y hy hF => by have e : b11 = y := congrArg Addr.block (Option.some.inj hF); omega
     obtain ⟨qR, kR, e1, e2, hR⟩ : ∃ q k, q = p58 ∧ k = c58 ∧ Own w58 q x.rows.length k 114 3 (x.rows.flatMap ChgD.cells) := ⟨_, _, rfl, rfl, by have h := ho58; rw [Nat.zero_add] at h; exact h⟩
     have nR := newW hX0 (newB fr11) hB58
     rw [← e1] at nR
     rw [← e1, ← e2, Nat.zero_add]
     refine wd_sw ?_
     have hb1o := hb1
     refine wb rfl (st_st I_ok hb1 rfl rfl rfl fun w59 hb1 hE59 hs59 => ?_)
     have hb2 := hb2.ext1 hE59 ne1_2.symm
     have hL := hL.zx9 hE59 hb1o (by decide)
     have hP := hP.zx9 hE59 hb1o (by decide)
     have hR := hR.zx9 hE59 hb1o (by decide)
     have hX := hX.zx1 hE59 fr1
     have hb1 : Blk w59 b1 46 (objC x ⟨qL, kL, a.pp, a.pc, a.rp, a.rc⟩) := hb1
     refine wb rfl (st_p I_ok rfl rfl rfl ?_)
     have hb1o := hb1
     refine wb rfl (st_set I_ok hb1 rfl rfl (by rw [zq7 hx]; decide) fun w60 hb1 hE60 hs60 => ?_)
     have hb2 := hb2.ext1 hE60 ne1_2.symm
     have hL := hL.zx9 hE60 hb1o (by decide)
     have hP := hP.zx9 hE60 hb1o (by decide)
     have hR := hR.zx9 hE60 hb1o (by decide)
     have hX := hX.zx1 hE60 fr1
     have hb1 : Blk w60 b1 46 (objC x ⟨qL, kL, qP, kP, a.rp, a.rc⟩) := (by have h : Blk _ b1 _ ((objC x ⟨qL, kL, a.pp, a.pc, a.rp, a.rc⟩).set (68 + 0) (.slice qP x.parents.length kP)) := hb1; rw [objC_parents hx] at h; exact h)
     refine wb rfl (st_p I_ok rfl rfl rfl (wb rfl (st_p I_ok rfl rfl rfl ?_)))
     have hb1o := hb1
     refine wb rfl (st_set I_ok hb1 rfl rfl (by rw [zq7 hx]; decide) fun w61 hb1 hE61 hs61 => ?_)
     have hb2 := hb2.ext1 hE61 ne1_2.symm
     have hL := hL.zx9 hE61 hb1o (by decide)
     have hP := hP.zx9 hE61 hb1o (by decide)
     have hR := hR.zx9 hE61 hb1o (by decide)
     have hX := hX.zx1 hE61 fr1
     have hb1 : Blk w61 b1 46 (objC x ⟨qL, kL, qP, kP, qR, kR⟩) := (by have h : Blk _ b1 _ ((objC x ⟨qL, kL, qP, kP, a.rp, a.rc⟩).set (68 + 1) (.slice qR x.rows.length kR)) := hb1; rw [objC_rows hx] at h; exact h)
     refine zv0 ?_
     exact zz7 (⟨qL, kL, qP, kP, qR, kR⟩) rfl ⟨⟨hL, hP, hR, nL, nP, nR⟩, hb1, hb2, hX⟩
  ·refine st_bs I_ok rfl 32 rfl idZ_c.symm (by rw [zx0]; rfl) (by decide) (by decide) trivial (l' := []) rfl fun b7 w62 hn7 hb7 hE62 hs62 => ⟨hC.zq4 hE62, ?_⟩
   have fr7 := Nat.le_trans hX.size hn7
   have frhC7 := Nat.le_trans hC.size hn7
   have hb1 := hb1.zq2 hE62
   have hb2 := hb2.zq2 hE62
   have hX := hX.zq4 hE62
   have hC := hC.zq4 hE62
   refine wx_plan [] 6 rfl (by kernel_rfl) (wd_tail rfl (wx_alt [0, 8] rfl (by kernel_rfl) ⟨⟨_, rfl, ?_⟩, ⟨_, rfl, ?_⟩, trivial⟩))
   ·refine st_bs I_ok rfl 33 rfl leafZ_c (zj8.len rfl) (by decide) (by decide) trivial (l' := []) rfl fun b3 w63 hn3 hb3 hE63 hs63 => ⟨hC.zq4 hE63, ?_⟩
    have fr3 := Nat.le_trans hX.size hn3
    have frhC3 := Nat.le_trans hC.size hn3
    have hb1 := hb1.zq2 hE63
    have hb2 := hb2.zq2 hE63
    have hb7 := hb7.zq2 hE63
    have hX := hX.zq4 hE63
    have hC := hC.zq4 hE63
    refine wx_plan [] 5 rfl (by kernel_rfl) (wd_tail rfl (wx_alt [3, 8] rfl (by kernel_rfl) ⟨⟨_, rfl, ?_⟩, ⟨_, rfl, ?_⟩, trivial⟩))
    ·have hX0 := hX
     have hbsL := hb3
     refine zv2 I_ok rfl 33 48 rfl rfl rfl (by decide) (Own.blk (n := 0) (c := 0) hb3 33 rfl (Nat.le_refl _) (by decide)) (Src.slice (hxl.leaves.zq2 hX) OneC.h) (by dsimp only [maxLen]; omega) (by dsimp only; omega) fun p64 c64 w64 ho64 hE64 hB64 => ⟨hC.trans hE64 (fun y hy hF => by have e : b3 = y := congrArg Addr.block (Option.some.inj hF); omega), ?_⟩
     have hC := hC.trans hE64 (fun y hy hF => by have e : b3 = y := congrArg Addr.block (Option.some.inj hF); omega)
     dsimp only at ho64 hE64 hB64 ⊢
     have hbo64 := Own.blk (n := 0) (c := 0) hbsL 33 rfl (Nat.le_refl _) (by decide)
     have hb1 := hb1.zq8 hbo64 hE64 (show (56 : Nat) ≠ 46 from by decide)
     have hb2 := hb2.zq8 hbo64 hE64 (show (56 : Nat) ≠ 46 from by decide)
     try have hP := hP.zq8 hbo64 hE64 (show (56 : Nat) ≠ 31 from by decide)
     try have hR := hR.zq8 hbo64 hE64 (show (56 : Nat) ≠ 114 from by decide)
     try have hb7 := hb7.zq8 hbo64 hE64 (show (56 : Nat) ≠ 31 from by decide)
     try have hb11 := hb11.zq8 hbo64 hE64 (show (56 : Nat) ≠ 114 from by decide)
     have hX := hX0.trans hE64 fun y hy hF => by have e : b3 = y := congrArg Addr.block (Option.some.inj hF); omega
     obtain ⟨qL, kL, e1, e2, hL⟩ : ∃ q k, q = p64 ∧ k = c64 ∧ Own w64 q x.leaves.length k 56 33 (x.leaves.flatMap zj8.cells) := ⟨_, _, rfl, rfl, by have h := ho64; rw [Nat.zero_add] at h; exact h⟩
     have nL := newW hX0 (newB fr3) hB64
     rw [← e1] at nL
     rw [← e1, ← e2, Nat.zero_add]
     refine wx_plan [(13, true)] 3 rfl (by kernel_rfl) (wd_k I_ok 1 rfl (wd_tail rfl (wx_alt [7, 8] rfl (by kernel_rfl) ⟨⟨_, rfl, ?_⟩, ⟨_, rfl, ?_⟩, trivial⟩)))
     ·have hX0 := hX
      have hbsP := hb7
      refine zv2 I_ok rfl 32 32 rfl rfl rfl (by decide) (Own.blk (n := 0) (c := 0) hb7 32 rfl (Nat.le_refl _) (by decide)) (Src.slice (hxl.parents.zq2 hX) OneC.h) (by dsimp only [maxLen]; omega) (by dsimp only; omega) fun p65 c65 w65 ho65 hE65 hB65 => ⟨hC.trans hE65 (fun y hy hF => by have e : b7 = y := congrArg Addr.block (Option.some.inj hF); omega), ?_⟩
      have hC := hC.trans hE65 (fun y hy hF => by have e : b7 = y := congrArg Addr.block (Option.some.inj hF); omega)
      dsimp only at ho65 hE65 hB65 ⊢
      have hbo65 := Own.blk (n := 0) (c := 0) hbsP 32 rfl (Nat.le_refl _) (by decide)
      have hb1 := hb1.zq8 hbo65 hE65 (show (31 : Nat) ≠ 46 from by decide)
      have hb2 := hb2.zq8 hbo65 hE65 (show (31 : Nat) ≠ 46 from by decide)
      try have hL := hL.zq8 hbo65 hE65 (show (31 : Nat) ≠ 56 from by decide)
      try have hR := hR.zq8 hbo65 hE65 (show (31 : Nat) ≠ 114 from by decide)
      try have hb11 := hb11.zq8 hbo65 hE65 (show (31 : Nat) ≠ 114 from by decide)
      have hX := hX0.trans hE65 fun y hy hF => by have e : b7 = y := congrArg Addr.block (Option.some.inj hF); omega
      obtain ⟨qP, kP, e1, e2, hP⟩ : ∃ q k, q = p65 ∧ k = c65 ∧ Own w65 q x.parents.length k 31 32 (x.parents.flatMap zq6) := ⟨_, _, rfl, rfl, by have h := ho65; rw [Nat.zero_add] at h; exact h⟩
      have nP := newW hX0 (newB fr7) hB65
      rw [← e1] at nP
      rw [← e1, ← e2, Nat.zero_add]
      refine wx_plan [(8, false), (12, false)] 0 rfl (by kernel_rfl) (wd_l rfl (st_bs I_ok rfl 3 rfl chgZ_c rfl (by decide) (by decide) trivial (l' := []) rfl fun b11 w66 hn11 hb11 hE66 hs66 => ⟨hC.zq4 hE66, ?_⟩))
      have fr11 := Nat.le_trans hX.size hn11
      have frhC11 := Nat.le_trans hC.size hn11
      have hb1 := hb1.zq2 hE66
      have hb2 := hb2.zq2 hE66
      have hL := hL.ext hE66 fun _ _ => id
      have hP := hP.ext hE66 fun _ _ => id
      have hX := hX.zq4 hE66
      have hC := hC.zq4 hE66
      have hX0 := hX
      have hbsR := hb11
      refine wd_l rfl (zv2 I_ok rfl 3 40 rfl rfl rfl (by decide) (Own.blk (n := 0) (c := 0) hb11 3 rfl (Nat.le_refl _) (by decide)) (Src.slice (hxl.rows.zq2 hX) OneC.h) (by dsimp only [maxLen]; omega) (by dsimp only; omega) fun p67 c67 w67 ho67 hE67 hB67 => ⟨hC.trans hE67 (fun y hy hF => by have e : b11 = y := congrArg Addr.block (Option.some.inj hF); omega), ?_⟩)
      dsimp only at ho67 hE67 hB67 ⊢
      have hbo67 := Own.blk (n := 0) (c := 0) hbsR 3 rfl (Nat.le_refl _) (by decide)
      have hb1 := hb1.zq8 hbo67 hE67 (show (114 : Nat) ≠ 46 from by decide)
      have hb2 := hb2.zq8 hbo67 hE67 (show (114 : Nat) ≠ 46 from by decide)
      try have hL := hL.zq8 hbo67 hE67 (show (114 : Nat) ≠ 56 from by decide)
      try have hP := hP.zq8 hbo67 hE67 (show (114 : Nat) ≠ 31 from by decide)
      have hX := hX0.trans hE67 fun y hy hF => by have e : b11 = y := congrArg Addr.block (Option.some.inj hF); omega
      obtain ⟨qR, kR, e1, e2, hR⟩ : ∃ q k, q = p67 ∧ k = c67 ∧ Own w67 q x.rows.length k 114 3 (x.rows.flatMap ChgD.cells) := ⟨_, _, rfl, rfl, by have h := ho67; rw [Nat.zero_add] at h; exact h⟩
      have nR := newW hX0 (newB fr11) hB67
      rw [← e1] at nR
      rw [← e1, ← e2, Nat.zero_add]
      refine wd_sw ?_
      have hb1o := hb1
      refine wb rfl (st_st I_ok hb1 rfl rfl rfl fun w68 hb1 hE68 hs68 => ?_)
      have hb2 := hb2.ext1 hE68 ne1_2.symm
      have hL := hL.zx9 hE68 hb1o (by decide)
      have hP := hP.zx9 hE68 hb1o (by decide)
      have hR := hR.zx9 hE68 hb1o (by decide)
      have hX := hX.zx1 hE68 fr1
      have hb1 : Blk w68 b1 46 (objC x ⟨qL, kL, a.pp, a.pc, a.rp, a.rc⟩) := hb1
      refine wb rfl (st_p I_ok rfl rfl rfl ?_)
      have hb1o := hb1
      refine wb rfl (st_set I_ok hb1 rfl rfl (by rw [zq7 hx]; decide) fun w69 hb1 hE69 hs69 => ?_)
      have hb2 := hb2.ext1 hE69 ne1_2.symm
      have hL := hL.zx9 hE69 hb1o (by decide)
      have hP := hP.zx9 hE69 hb1o (by decide)
      have hR := hR.zx9 hE69 hb1o (by decide)
      have hX := hX.zx1 hE69 fr1
      have hb1 : Blk w69 b1 46 (objC x ⟨qL, kL, qP, kP, a.rp, a.rc⟩) := (by have h : Blk _ b1 _ ((objC x ⟨qL, kL, a.pp, a.pc, a.rp, a.rc⟩).set (68 + 0) (.slice qP x.parents.length kP)) := hb1; rw [objC_parents hx] at h; exact h)
      refine wb rfl (st_p I_ok rfl rfl rfl (wb rfl (st_p I_ok rfl rfl rfl ?_)))
      have hb1o := hb1
      refine wb rfl (st_set I_ok hb1 rfl rfl (by rw [zq7 hx]; decide) fun w70 hb1 hE70 hs70 => ?_)
      have hb2 := hb2.ext1 hE70 ne1_2.symm
      have hL := hL.zx9 hE70 hb1o (by decide)
      have hP := hP.zx9 hE70 hb1o (by decide)
      have hR := hR.zx9 hE70 hb1o (by decide)
      have hX := hX.zx1 hE70 fr1
      have hb1 : Blk w70 b1 46 (objC x ⟨qL, kL, qP, kP, qR, kR⟩) := (by have h : Blk _ b1 _ ((objC x ⟨qL, kL, qP, kP, a.rp, a.rc⟩).set (68 + 1) (.slice qR x.rows.length kR)) := hb1; rw [objC_rows hx] at h; exact h)
      refine zv0 ?_
      exact zz7 (⟨qL, kL, qP, kP, qR, kR⟩) rfl ⟨⟨hL, hP, hR, nL, nP, nR⟩, hb1, hb2, hX⟩
     ·refine st_bs I_ok rfl 3 rfl chgZ_c rfl (by decide) (by decide) trivial (l' := []) rfl fun b11 w71 hn11 hb11 hE71 hs71 => ⟨hC.zq4 hE71, ?_⟩
      have fr11 := Nat.le_trans hX.size hn11
      have frhC11 := Nat.le_trans hC.size hn11
      have hb1 := hb1.zq2 hE71
      have hb2 := hb2.zq2 hE71
      have hb7 := hb7.zq2 hE71
      have hL := hL.ext hE71 fun _ _ => id
      have hX := hX.zq4 hE71
      have hC := hC.zq4 hE71
      refine wx_plan [(7, false), (12, false)] 0 rfl (by kernel_rfl) ?_
      have hX0 := hX
      have hbsP := hb7
      refine wd_l rfl (zv2 I_ok rfl 32 32 rfl rfl rfl (by decide) (Own.blk (n := 0) (c := 0) hb7 32 rfl (Nat.le_refl _) (by decide)) (Src.slice (hxl.parents.zq2 hX) OneC.h) (by dsimp only [maxLen]; omega) (by dsimp only; omega) fun p72 c72 w72 ho72 hE72 hB72 => ⟨hC.trans hE72 (fun y hy hF => by have e : b7 = y := congrArg Addr.block (Option.some.inj hF); omega), ?_⟩)
      have hC := hC.trans hE72 (fun y hy hF => by have e : b7 = y := congrArg Addr.block (Option.some.inj hF); omega)
      dsimp only at ho72 hE72 hB72 ⊢
      have hbo72 := Own.blk (n := 0) (c := 0) hbsP 32 rfl (Nat.le_refl _) (by decide)
      have hb1 := hb1.zq8 hbo72 hE72 (show (31 : Nat) ≠ 46 from by decide)
      have hb2 := hb2.zq8 hbo72 hE72 (show (31 : Nat) ≠ 46 from by decide)
      try have hL := hL.zq8 hbo72 hE72 (show (31 : Nat) ≠ 56 from by decide)
      try have hR := hR.zq8 hbo72 hE72 (show (31 : Nat) ≠ 114 from by decide)
      try have hb11 := hb11.zq8 hbo72 hE72 (show (31 : Nat) ≠ 114 from by decide)
      have hX := hX0.trans hE72 fun y hy hF => by have e : b7 = y := congrArg Addr.block (Option.some.inj hF); omega
      obtain ⟨qP, kP, e1, e2, hP⟩ : ∃ q k, q = p72 ∧ k = c72 ∧ Own w72 q x.parents.length k 31 32 (x.parents.flatMap zq6) := ⟨_, _, rfl, rfl, by have h := ho72; rw [Nat.zero_add] at h; exact h⟩
      have nP := newW hX0 (newB fr7) hB72
      rw [← e1] at nP
      rw [← e1, ← e2, Nat.zero_add]
      have hX0 := hX
      have hbsR := hb11
      refine wd_l rfl (zv2 I_ok rfl 3 40 rfl rfl rfl (by decide) (Own.blk (n := 0) (c := 0) hb11 3 rfl (Nat.le_refl _) (by decide)) (Src.slice (hxl.rows.zq2 hX) OneC.h) (by dsimp only [maxLen]; omega) (by dsimp only; omega) fun p73 c73 w73 ho73 hE73 hB73 => ⟨hC.trans hE73 (fun y hy hF => by have e : b11 = y := congrArg Addr.block (Option.some.inj hF); omega), ?_⟩)
      dsimp only at ho73 hE73 hB73 ⊢
      have hbo73 := Own.blk (n := 0) (c := 0) hbsR 3 rfl (Nat.le_refl _) (by decide)
      have hb1 := hb1.zq8 hbo73 hE73 (show (114 : Nat) ≠ 46 from by decide)
      have hb2 := hb2.zq8 hbo73 hE73 (show (114 : Nat) ≠ 46 from by decide)
      try have hL := hL.zq8 hbo73 hE73 (show (114 : Nat) ≠ 56 from by decide)
      try have hP := hP.zq8 hbo73 hE73 (show (114 : Nat) ≠ 31 from by decide)
      have hX := hX0.trans hE73 fun y hy hF => by have e : b11 = y := congrArg Addr.block (Option.some.inj hF); omega
      obtain ⟨qR, kR, e1, e2, hR⟩ : ∃ q k, q = p73 ∧ k = c73 ∧ Own w73 q x.rows.length k 114 3 (x.rows.flatMap ChgD.cells) := ⟨_, _, rfl, rfl, by have h := ho73; rw [Nat.zero_add] at h; exact h⟩
      have nR := newW hX0 (newB fr11) hB73
      rw [← e1] at nR
      rw [← e1, ← e2, Nat.zero_add]
      refine wd_sw ?_
      have hb1o := hb1
      refine wb rfl (st_st I_ok hb1 rfl rfl rfl fun w74 hb1 hE74 hs74 => ?_)
      have hb2 := hb2.ext1 hE74 ne1_2.symm
      have hL := hL.zx9 hE74 hb1o (by decide)
      have hP := hP.zx9 hE74 hb1o (by decide)
      have hR := hR.zx9 hE74 hb1o (by decide)
      have hX := hX.zx1 hE74 fr1
      have hb1 : Blk w74 b1 46 (objC x ⟨qL, kL, a.pp, a.pc, a.rp, a.rc⟩) := hb1
      refine wb rfl (st_p I_ok rfl rfl rfl ?_)
      have hb1o := hb1
      refine wb rfl (st_set I_ok hb1 rfl rfl (by rw [zq7 hx]; decide) fun w75 hb1 hE75 hs75 => ?_)
      have hb2 := hb2.ext1 hE75 ne1_2.symm
      have hL := hL.zx9 hE75 hb1o (by decide)
      have hP := hP.zx9 hE75 hb1o (by decide)
      have hR := hR.zx9 hE75 hb1o (by decide)
      have hX := hX.zx1 hE75 fr1
      have hb1 : Blk w75 b1 46 (objC x ⟨qL, kL, qP, kP, a.rp, a.rc⟩) := (by have h : Blk _ b1 _ ((objC x ⟨qL, kL, a.pp, a.pc, a.rp, a.rc⟩).set (68 + 0) (.slice qP x.parents.length kP)) := hb1; rw [objC_parents hx] at h; exact h)
      refine wb rfl (st_p I_ok rfl rfl rfl (wb rfl (st_p I_ok rfl rfl rfl ?_)))
      have hb1o := hb1
      refine wb rfl (st_set I_ok hb1 rfl rfl (by rw [zq7 hx]; decide) fun w76 hb1 hE76 hs76 => ?_)
      have hb2 := hb2.ext1 hE76 ne1_2.symm
      have hL := hL.zx9 hE76 hb1o (by decide)
      have hP := hP.zx9 hE76 hb1o (by decide)
      have hR := hR.zx9 hE76 hb1o (by decide)
      have hX := hX.zx1 hE76 fr1
      have hb1 : Blk w76 b1 46 (objC x ⟨qL, kL, qP, kP, qR, kR⟩) := (by have h : Blk _ b1 _ ((objC x ⟨qL, kL, qP, kP, a.rp, a.rc⟩).set (68 + 1) (.slice qR x.rows.length kR)) := hb1; rw [objC_rows hx] at h; exact h)
      refine zv0 ?_
      exact zz7 (⟨qL, kL, qP, kP, qR, kR⟩) rfl ⟨⟨hL, hP, hR, nL, nP, nR⟩, hb1, hb2, hX⟩
    ·refine st_bs I_ok rfl 3 rfl chgZ_c rfl (by decide) (by decide) trivial (l' := []) rfl fun b11 w77 hn11 hb11 hE77 hs77 => ⟨hC.zq4 hE77, ?_⟩
     have fr11 := Nat.le_trans hX.size hn11
     have frhC11 := Nat.le_trans hC.size hn11
     have hb1 := hb1.zq2 hE77
     have hb2 := hb2.zq2 hE77
     have hb7 := hb7.zq2 hE77
     have hb3 := hb3.zq2 hE77
     have hX := hX.zq4 hE77
     have hC := hC.zq4 hE77
     refine wx_plan [(3, false), (13, true), (7, false), (12, false)] 0 rfl (by kernel_rfl) ?_
     have hX0 := hX
     have hbsL := hb3
     refine wd_l rfl (zv2 I_ok rfl 33 48 rfl rfl rfl (by decide) (Own.blk (n := 0) (c := 0) hb3 33 rfl (Nat.le_refl _) (by decide)) (Src.slice (hxl.leaves.zq2 hX) OneC.h) (by dsimp only [maxLen]; omega) (by dsimp only; omega) fun p78 c78 w78 ho78 hE78 hB78 => ⟨hC.trans hE78 (fun y hy hF => by have e : b3 = y := congrArg Addr.block (Option.some.inj hF); omega), ?_⟩)
     have hC := hC.trans hE78 (fun y hy hF => by have e : b3 = y := congrArg Addr.block (Option.some.inj hF); omega)
     dsimp only at ho78 hE78 hB78 ⊢
     have hbo78 := Own.blk (n := 0) (c := 0) hbsL 33 rfl (Nat.le_refl _) (by decide)
     have hb1 := hb1.zq8 hbo78 hE78 (show (56 : Nat) ≠ 46 from by decide)
     have hb2 := hb2.zq8 hbo78 hE78 (show (56 : Nat) ≠ 46 from by decide)
     try have hP := hP.zq8 hbo78 hE78 (show (56 : Nat) ≠ 31 from by decide)
     try have hR := hR.zq8 hbo78 hE78 (show (56 : Nat) ≠ 114 from by decide)
     try have hb7 := hb7.zq8 hbo78 hE78 (show (56 : Nat) ≠ 31 from by decide)
     try have hb11 := hb11.zq8 hbo78 hE78 (show (56 : Nat) ≠ 114 from by decide)
     have hX := hX0.trans hE78 fun y hy hF => by have e : b3 = y := congrArg Addr.block (Option.some.inj hF); omega
     obtain ⟨qL, kL, e1, e2, hL⟩ : ∃ q k, q = p78 ∧ k = c78 ∧ Own w78 q x.leaves.length k 56 33 (x.leaves.flatMap zj8.cells) := ⟨_, _, rfl, rfl, by have h := ho78; rw [Nat.zero_add] at h; exact h⟩
     have nL := newW hX0 (newB fr3) hB78
     rw [← e1] at nL
     rw [← e1, ← e2, Nat.zero_add]
     refine wd_k I_ok 1 rfl ?_
     have hX0 := hX
     have hbsP := hb7
     refine wd_l rfl (zv2 I_ok rfl 32 32 rfl rfl rfl (by decide) (Own.blk (n := 0) (c := 0) hb7 32 rfl (Nat.le_refl _) (by decide)) (Src.slice (hxl.parents.zq2 hX) OneC.h) (by dsimp only [maxLen]; omega) (by dsimp only; omega) fun p79 c79 w79 ho79 hE79 hB79 => ⟨hC.trans hE79 (fun y hy hF => by have e : b7 = y := congrArg Addr.block (Option.some.inj hF); omega), ?_⟩)
     have hC := hC.trans hE79 (fun y hy hF => by have e : b7 = y := congrArg Addr.block (Option.some.inj hF); omega)
     dsimp only at ho79 hE79 hB79 ⊢
     have hbo79 := Own.blk (n := 0) (c := 0) hbsP 32 rfl (Nat.le_refl _) (by decide)
     have hb1 := hb1.zq8 hbo79 hE79 (show (31 : Nat) ≠ 46 from by decide)
     have hb2 := hb2.zq8 hbo79 hE79 (show (31 : Nat) ≠ 46 from by decide)
     try have hL := hL.zq8 hbo79 hE79 (show (31 : Nat) ≠ 56 from by decide)
     try have hR := hR.zq8 hbo79 hE79 (show (31 : Nat) ≠ 114 from by decide)
     try have hb11 := hb11.zq8 hbo79 hE79 (show (31 : Nat) ≠ 114 from by decide)
     have hX := hX0.trans hE79 fun y hy hF => by have e : b7 = y := congrArg Addr.block (Option.some.inj hF); omega
     obtain ⟨qP, kP, e1, e2, hP⟩ : ∃ q k, q = p79 ∧ k = c79 ∧ Own w79 q x.parents.length k 31 32 (x.parents.flatMap zq6) := ⟨_, _, rfl, rfl, by have h := ho79; rw [Nat.zero_add] at h; exact h⟩
     have nP := newW hX0 (newB fr7) hB79
     rw [← e1] at nP
     rw [← e1, ← e2, Nat.zero_add]
     have hX0 := hX
     have hbsR := hb11
     refine wd_l rfl (zv2 I_ok rfl 3 40 rfl rfl rfl (by decide) (Own.blk (n := 0) (c := 0) hb11 3 rfl (Nat.le_refl _) (by decide)) (Src.slice (hxl.rows.zq2 hX) OneC.h) (by dsimp only [maxLen]; omega) (by dsimp only; omega) fun p80 c80 w80 ho80 hE80 hB80 => ⟨hC.trans hE80 (fun y hy hF => by have e : b11 = y := congrArg Addr.block (Option.some.inj hF); omega), ?_⟩)
     dsimp only at ho80 hE80 hB80 ⊢
     have hbo80 := Own.blk (n := 0) (c := 0) hbsR 3 rfl (Nat.le_refl _) (by decide)
     have hb1 := hb1.zq8 hbo80 hE80 (show (114 : Nat) ≠ 46 from by decide)
     have hb2 := hb2.zq8 hbo80 hE80 (show (114 : Nat) ≠ 46 from by decide)
     try have hL := hL.zq8 hbo80 hE80 (show (114 : Nat) ≠ 56 from by decide)
     try have hP := hP.zq8 hbo80 hE80 (show (114 : Nat) ≠ 31 from by decide)
     have hX := hX0.trans hE80 fun y hy hF => by have e : b11 = y := congrArg Addr.block (Option.some.inj hF); omega
     obtain ⟨qR, kR, e1, e2, hR⟩ : ∃ q k, q = p80 ∧ k = c80 ∧ Own w80 q x.rows.length k 114 3 (x.rows.flatMap ChgD.cells) := ⟨_, _, rfl, rfl, by have h := ho80; rw [Nat.zero_add] at h; exact h⟩
     have nR := newW hX0 (newB fr11) hB80
     rw [← e1] at nR
     rw [← e1, ← e2, Nat.zero_add]
     refine wd_sw ?_
     have hb1o := hb1
     refine wb rfl (st_st I_ok hb1 rfl rfl rfl fun w81 hb1 hE81 hs81 => ?_)
     have hb2 := hb2.ext1 hE81 ne1_2.symm
     have hL := hL.zx9 hE81 hb1o (by decide)
     have hP := hP.zx9 hE81 hb1o (by decide)
     have hR := hR.zx9 hE81 hb1o (by decide)
     have hX := hX.zx1 hE81 fr1
     have hb1 : Blk w81 b1 46 (objC x ⟨qL, kL, a.pp, a.pc, a.rp, a.rc⟩) := hb1
     refine wb rfl (st_p I_ok rfl rfl rfl ?_)
     have hb1o := hb1
     refine wb rfl (st_set I_ok hb1 rfl rfl (by rw [zq7 hx]; decide) fun w82 hb1 hE82 hs82 => ?_)
     have hb2 := hb2.ext1 hE82 ne1_2.symm
     have hL := hL.zx9 hE82 hb1o (by decide)
     have hP := hP.zx9 hE82 hb1o (by decide)
     have hR := hR.zx9 hE82 hb1o (by decide)
     have hX := hX.zx1 hE82 fr1
     have hb1 : Blk w82 b1 46 (objC x ⟨qL, kL, qP, kP, a.rp, a.rc⟩) := (by have h : Blk _ b1 _ ((objC x ⟨qL, kL, a.pp, a.pc, a.rp, a.rc⟩).set (68 + 0) (.slice qP x.parents.length kP)) := hb1; rw [objC_parents hx] at h; exact h)
     refine wb rfl (st_p I_ok rfl rfl rfl (wb rfl (st_p I_ok rfl rfl rfl ?_)))
     have hb1o := hb1
     refine wb rfl (st_set I_ok hb1 rfl rfl (by rw [zq7 hx]; decide) fun w83 hb1 hE83 hs83 => ?_)
     have hb2 := hb2.ext1 hE83 ne1_2.symm
     have hL := hL.zx9 hE83 hb1o (by decide)
     have hP := hP.zx9 hE83 hb1o (by decide)
     have hR := hR.zx9 hE83 hb1o (by decide)
     have hX := hX.zx1 hE83 fr1
     have hb1 : Blk w83 b1 46 (objC x ⟨qL, kL, qP, kP, qR, kR⟩) := (by have h : Blk _ b1 _ ((objC x ⟨qL, kL, qP, kP, a.rp, a.rc⟩).set (68 + 1) (.slice qR x.rows.length kR)) := hb1; rw [objC_rows hx] at h; exact h)
     refine zv0 ?_
     exact zz7 (⟨qL, kL, qP, kP, qR, kR⟩) rfl ⟨⟨hL, hP, hR, nL, nP, nR⟩, hb1, hb2, hX⟩
   ·refine st_bs I_ok rfl 3 rfl chgZ_c rfl (by decide) (by decide) trivial (l' := []) rfl fun b11 w84 hn11 hb11 hE84 hs84 => ⟨hC.zq4 hE84, ?_⟩
    have fr11 := Nat.le_trans hX.size hn11
    have frhC11 := Nat.le_trans hC.size hn11
    have hb1 := hb1.zq2 hE84
    have hb2 := hb2.zq2 hE84
    have hb7 := hb7.zq2 hE84
    have hX := hX.zq4 hE84
    have hC := hC.zq4 hE84
    refine wx_plan [(0, false), (3, false), (13, true), (7, false), (12, false)] 0 rfl (by kernel_rfl) ?_
    refine wd_l rfl (st_bs I_ok rfl 33 rfl leafZ_c (zj8.len rfl) (by decide) (by decide) trivial (l' := []) rfl fun b3 w85 hn3 hb3 hE85 hs85 => ⟨hC.zq4 hE85, ?_⟩)
    have fr3 := Nat.le_trans hX.size hn3
    have frhC3 := Nat.le_trans hC.size hn3
    have hb1 := hb1.zq2 hE85
    have hb2 := hb2.zq2 hE85
    have hb7 := hb7.zq2 hE85
    have hb11 := hb11.zq2 hE85
    have hX := hX.zq4 hE85
    have hC := hC.zq4 hE85
    have hX0 := hX
    have hbsL := hb3
    refine wd_l rfl (zv2 I_ok rfl 33 48 rfl rfl rfl (by decide) (Own.blk (n := 0) (c := 0) hb3 33 rfl (Nat.le_refl _) (by decide)) (Src.slice (hxl.leaves.zq2 hX) OneC.h) (by dsimp only [maxLen]; omega) (by dsimp only; omega) fun p86 c86 w86 ho86 hE86 hB86 => ⟨hC.trans hE86 (fun y hy hF => by have e : b3 = y := congrArg Addr.block (Option.some.inj hF); omega), ?_⟩)
    have hC := hC.trans hE86 (fun y hy hF => by have e : b3 = y := congrArg Addr.block (Option.some.inj hF); omega)
    dsimp only at ho86 hE86 hB86 ⊢
    have hbo86 := Own.blk (n := 0) (c := 0) hbsL 33 rfl (Nat.le_refl _) (by decide)
    have hb1 := hb1.zq8 hbo86 hE86 (show (56 : Nat) ≠ 46 from by decide)
    have hb2 := hb2.zq8 hbo86 hE86 (show (56 : Nat) ≠ 46 from by decide)
    try have hP := hP.zq8 hbo86 hE86 (show (56 : Nat) ≠ 31 from by decide)
    try have hR := hR.zq8 hbo86 hE86 (show (56 : Nat) ≠ 114 from by decide)
    try have hb7 := hb7.zq8 hbo86 hE86 (show (56 : Nat) ≠ 31 from by decide)
    try have hb11 := hb11.zq8 hbo86 hE86 (show (56 : Nat) ≠ 114 from by decide)
    have hX := hX0.trans hE86 fun y hy hF => by have e : b3 = y := congrArg Addr.block (Option.some.inj hF); omega
    obtain ⟨qL, kL, e1, e2, hL⟩ : ∃ q k, q = p86 ∧ k = c86 ∧ Own w86 q x.leaves.length k 56 33 (x.leaves.flatMap zj8.cells) := ⟨_, _, rfl, rfl, by have h := ho86; rw [Nat.zero_add] at h; exact h⟩
    have nL := newW hX0 (newB fr3) hB86
    rw [← e1] at nL
    rw [← e1, ← e2, Nat.zero_add]
    refine wd_k I_ok 1 rfl ?_
    have hX0 := hX
    have hbsP := hb7
    refine wd_l rfl (zv2 I_ok rfl 32 32 rfl rfl rfl (by decide) (Own.blk (n := 0) (c := 0) hb7 32 rfl (Nat.le_refl _) (by decide)) (Src.slice (hxl.parents.zq2 hX) OneC.h) (by dsimp only [maxLen]; omega) (by dsimp only; omega) fun p87 c87 w87 ho87 hE87 hB87 => ⟨hC.trans hE87 (fun y hy hF => by have e : b7 = y := congrArg Addr.block (Option.some.inj hF); omega), ?_⟩)
    have hC := hC.trans hE87 (fun y hy hF => by have e : b7 = y := congrArg Addr.block (Option.some.inj hF); omega)
    dsimp only at ho87 hE87 hB87 ⊢
    have hbo87 := Own.blk (n := 0) (c := 0) hbsP 32 rfl (Nat.le_refl _) (by decide)
    have hb1 := hb1.zq8 hbo87 hE87 (show (31 : Nat) ≠ 46 from by decide)
    have hb2 := hb2.zq8 hbo87 hE87 (show (31 : Nat) ≠ 46 from by decide)
    try have hL := hL.zq8 hbo87 hE87 (show (31 : Nat) ≠ 56 from by decide)
    try have hR := hR.zq8 hbo87 hE87 (show (31 : Nat) ≠ 114 from by decide)
    try have hb11 := hb11.zq8 hbo87 hE87 (show (31 : Nat) ≠ 114 from by decide)
    have hX := hX0.trans hE87 fun y hy hF => by have e : b7 = y := congrArg Addr.block (Option.some.inj hF); omega
    obtain ⟨qP, kP, e1, e2, hP⟩ : ∃ q k, q = p87 ∧ k = c87 ∧ Own w87 q x.parents.length k 31 32 (x.parents.flatMap zq6) := ⟨_, _, rfl, rfl, by have h := ho87; rw [Nat.zero_add] at h; exact h⟩
    have nP := newW hX0 (newB fr7) hB87
    rw [← e1] at nP
    rw [← e1, ← e2, Nat.zero_add]
    have hX0 := hX
    have hbsR := hb11
    refine wd_l rfl (zv2 I_ok rfl 3 40 rfl rfl rfl (by decide) (Own.blk (n := 0) (c := 0) hb11 3 rfl (Nat.le_refl _) (by decide)) (Src.slice (hxl.rows.zq2 hX) OneC.h) (by dsimp only [maxLen]; omega) (by dsimp only; omega) fun p88 c88 w88 ho88 hE88 hB88 => ⟨hC.trans hE88 (fun y hy hF => by have e : b11 = y := congrArg Addr.block (Option.some.inj hF); omega), ?_⟩)
    dsimp only at ho88 hE88 hB88 ⊢
    have hbo88 := Own.blk (n := 0) (c := 0) hbsR 3 rfl (Nat.le_refl _) (by decide)
    have hb1 := hb1.zq8 hbo88 hE88 (show (114 : Nat) ≠ 46 from by decide)
    have hb2 := hb2.zq8 hbo88 hE88 (show (114 : Nat) ≠ 46 from by decide)
    try have hL := hL.zq8 hbo88 hE88 (show (114 : Nat) ≠ 56 from by decide)
    try have hP := hP.zq8 hbo88 hE88 (show (114 : Nat) ≠ 31 from by decide)
    have hX := hX0.trans hE88 fun y hy hF => by have e : b11 = y := congrArg Addr.block (Option.some.inj hF); omega
    obtain ⟨qR, kR, e1, e2, hR⟩ : ∃ q k, q = p88 ∧ k = c88 ∧ Own w88 q x.rows.length k 114 3 (x.rows.flatMap ChgD.cells) := ⟨_, _, rfl, rfl, by have h := ho88; rw [Nat.zero_add] at h; exact h⟩
    have nR := newW hX0 (newB fr11) hB88
    rw [← e1] at nR
    rw [← e1, ← e2, Nat.zero_add]
    refine wd_sw ?_
    have hb1o := hb1
    refine wb rfl (st_st I_ok hb1 rfl rfl rfl fun w89 hb1 hE89 hs89 => ?_)
    have hb2 := hb2.ext1 hE89 ne1_2.symm
    have hL := hL.zx9 hE89 hb1o (by decide)
    have hP := hP.zx9 hE89 hb1o (by decide)
    have hR := hR.zx9 hE89 hb1o (by decide)
    have hX := hX.zx1 hE89 fr1
    have hb1 : Blk w89 b1 46 (objC x ⟨qL, kL, a.pp, a.pc, a.rp, a.rc⟩) := hb1
    refine wb rfl (st_p I_ok rfl rfl rfl ?_)
    have hb1o := hb1
    refine wb rfl (st_set I_ok hb1 rfl rfl (by rw [zq7 hx]; decide) fun w90 hb1 hE90 hs90 => ?_)
    have hb2 := hb2.ext1 hE90 ne1_2.symm
    have hL := hL.zx9 hE90 hb1o (by decide)
    have hP := hP.zx9 hE90 hb1o (by decide)
    have hR := hR.zx9 hE90 hb1o (by decide)
    have hX := hX.zx1 hE90 fr1
    have hb1 : Blk w90 b1 46 (objC x ⟨qL, kL, qP, kP, a.rp, a.rc⟩) := (by have h : Blk _ b1 _ ((objC x ⟨qL, kL, a.pp, a.pc, a.rp, a.rc⟩).set (68 + 0) (.slice qP x.parents.length kP)) := hb1; rw [objC_parents hx] at h; exact h)
    refine wb rfl (st_p I_ok rfl rfl rfl (wb rfl (st_p I_ok rfl rfl rfl ?_)))
    have hb1o := hb1
    refine wb rfl (st_set I_ok hb1 rfl rfl (by rw [zq7 hx]; decide) fun w91 hb1 hE91 hs91 => ?_)
    have hb2 := hb2.ext1 hE91 ne1_2.symm
    have hL := hL.zx9 hE91 hb1o (by decide)
    have hP := hP.zx9 hE91 hb1o (by decide)
    have hR := hR.zx9 hE91 hb1o (by decide)
    have hX := hX.zx1 hE91 fr1
    have hb1 : Blk w91 b1 46 (objC x ⟨qL, kL, qP, kP, qR, kR⟩) := (by have h : Blk _ b1 _ ((objC x ⟨qL, kL, qP, kP, a.rp, a.rc⟩).set (68 + 1) (.slice qR x.rows.length kR)) := hb1; rw [objC_rows hx] at h; exact h)
    refine zv0 ?_
    exact zz7 (⟨qL, kL, qP, kP, qR, kR⟩) rfl ⟨⟨hL, hP, hR, nL, nP, nR⟩, hb1, hb2, hX⟩
  ·refine st_bs I_ok rfl 3 rfl chgZ_c rfl (by decide) (by decide) trivial (l' := []) rfl fun b11 w92 hn11 hb11 hE92 hs92 => ⟨hC.zq4 hE92, ?_⟩
   have fr11 := Nat.le_trans hX.size hn11
   have frhC11 := Nat.le_trans hC.size hn11
   have hb1 := hb1.zq2 hE92
   have hb2 := hb2.zq2 hE92
   have hX := hX.zq4 hE92
   have hC := hC.zq4 hE92
   refine wx_plan [] 6 rfl (by kernel_rfl) (wd_tail rfl (wx_alt [0, 4] rfl (by kernel_rfl) ⟨⟨_, rfl, ?_⟩, ⟨_, rfl, ?_⟩, trivial⟩))
   ·refine st_bs I_ok rfl 33 rfl leafZ_c (zj8.len rfl) (by decide) (by decide) trivial (l' := []) rfl fun b3 w93 hn3 hb3 hE93 hs93 => ⟨hC.zq4 hE93, ?_⟩
    have fr3 := Nat.le_trans hX.size hn3
    have frhC3 := Nat.le_trans hC.size hn3
    have hb1 := hb1.zq2 hE93
    have hb2 := hb2.zq2 hE93
    have hb11 := hb11.zq2 hE93
    have hX := hX.zq4 hE93
    have hC := hC.zq4 hE93
    refine wx_plan [] 5 rfl (by kernel_rfl) (wd_tail rfl (wx_alt [3, 4] rfl (by kernel_rfl) ⟨⟨_, rfl, ?_⟩, ⟨_, rfl, ?_⟩, trivial⟩))
    ·have hX0 := hX
     have hbsL := hb3
     refine zv2 I_ok rfl 33 48 rfl rfl rfl (by decide) (Own.blk (n := 0) (c := 0) hb3 33 rfl (Nat.le_refl _) (by decide)) (Src.slice (hxl.leaves.zq2 hX) OneC.h) (by dsimp only [maxLen]; omega) (by dsimp only; omega) fun p94 c94 w94 ho94 hE94 hB94 => ⟨hC.trans hE94 (fun y hy hF => by have e : b3 = y := congrArg Addr.block (Option.some.inj hF); omega), ?_⟩
     have hC := hC.trans hE94 (fun y hy hF => by have e : b3 = y := congrArg Addr.block (Option.some.inj hF); omega)
     dsimp only at ho94 hE94 hB94 ⊢
     have hbo94 := Own.blk (n := 0) (c := 0) hbsL 33 rfl (Nat.le_refl _) (by decide)
     have hb1 := hb1.zq8 hbo94 hE94 (show (56 : Nat) ≠ 46 from by decide)
     have hb2 := hb2.zq8 hbo94 hE94 (show (56 : Nat) ≠ 46 from by decide)
     try have hP := hP.zq8 hbo94 hE94 (show (56 : Nat) ≠ 31 from by decide)
     try have hR := hR.zq8 hbo94 hE94 (show (56 : Nat) ≠ 114 from by decide)
     try have hb7 := hb7.zq8 hbo94 hE94 (show (56 : Nat) ≠ 31 from by decide)
     try have hb11 := hb11.zq8 hbo94 hE94 (show (56 : Nat) ≠ 114 from by decide)
     have hX := hX0.trans hE94 fun y hy hF => by have e : b3 = y := congrArg Addr.block (Option.some.inj hF); omega
     obtain ⟨qL, kL, e1, e2, hL⟩ : ∃ q k, q = p94 ∧ k = c94 ∧ Own w94 q x.leaves.length k 56 33 (x.leaves.flatMap zj8.cells) := ⟨_, _, rfl, rfl, by have h := ho94; rw [Nat.zero_add] at h; exact h⟩
     have nL := newW hX0 (newB fr3) hB94
     rw [← e1] at nL
     rw [← e1, ← e2, Nat.zero_add]
     refine wx_plan [(13, true), (4, false), (7, false), (12, false)] 0 rfl (by kernel_rfl) (wd_k I_ok 1 rfl ?_)
     refine wd_l rfl (st_bs I_ok rfl 32 rfl idZ_c.symm (by rw [zx0]; rfl) (by decide) (by decide) trivial (l' := []) rfl fun b7 w95 hn7 hb7 hE95 hs95 => ⟨hC.zq4 hE95, ?_⟩)
     have fr7 := Nat.le_trans hX.size hn7
     have frhC7 := Nat.le_trans hC.size hn7
     have hb1 := hb1.zq2 hE95
     have hb2 := hb2.zq2 hE95
     have hb11 := hb11.zq2 hE95
     have hL := hL.ext hE95 fun _ _ => id
     have hX := hX.zq4 hE95
     have hC := hC.zq4 hE95
     have hX0 := hX
     have hbsP := hb7
     refine wd_l rfl (zv2 I_ok rfl 32 32 rfl rfl rfl (by decide) (Own.blk (n := 0) (c := 0) hb7 32 rfl (Nat.le_refl _) (by decide)) (Src.slice (hxl.parents.zq2 hX) OneC.h) (by dsimp only [maxLen]; omega) (by dsimp only; omega) fun p96 c96 w96 ho96 hE96 hB96 => ⟨hC.trans hE96 (fun y hy hF => by have e : b7 = y := congrArg Addr.block (Option.some.inj hF); omega), ?_⟩)
     have hC := hC.trans hE96 (fun y hy hF => by have e : b7 = y := congrArg Addr.block (Option.some.inj hF); omega)
     dsimp only at ho96 hE96 hB96 ⊢
     have hbo96 := Own.blk (n := 0) (c := 0) hbsP 32 rfl (Nat.le_refl _) (by decide)
     have hb1 := hb1.zq8 hbo96 hE96 (show (31 : Nat) ≠ 46 from by decide)
     have hb2 := hb2.zq8 hbo96 hE96 (show (31 : Nat) ≠ 46 from by decide)
     try have hL := hL.zq8 hbo96 hE96 (show (31 : Nat) ≠ 56 from by decide)
     try have hR := hR.zq8 hbo96 hE96 (show (31 : Nat) ≠ 114 from by decide)
     try have hb11 := hb11.zq8 hbo96 hE96 (show (31 : Nat) ≠ 114 from by decide)
     have hX := hX0.trans hE96 fun y hy hF => by have e : b7 = y := congrArg Addr.block (Option.some.inj hF); omega
     obtain ⟨qP, kP, e1, e2, hP⟩ : ∃ q k, q = p96 ∧ k = c96 ∧ Own w96 q x.parents.length k 31 32 (x.parents.flatMap zq6) := ⟨_, _, rfl, rfl, by have h := ho96; rw [Nat.zero_add] at h; exact h⟩
     have nP := newW hX0 (newB fr7) hB96
     rw [← e1] at nP
     rw [← e1, ← e2, Nat.zero_add]
     have hX0 := hX
     have hbsR := hb11
     refine wd_l rfl (zv2 I_ok rfl 3 40 rfl rfl rfl (by decide) (Own.blk (n := 0) (c := 0) hb11 3 rfl (Nat.le_refl _) (by decide)) (Src.slice (hxl.rows.zq2 hX) OneC.h) (by dsimp only [maxLen]; omega) (by dsimp only; omega) fun p97 c97 w97 ho97 hE97 hB97 => ⟨hC.trans hE97 (fun y hy hF => by have e : b11 = y := congrArg Addr.block (Option.some.inj hF); omega), ?_⟩)
     dsimp only at ho97 hE97 hB97 ⊢
     have hbo97 := Own.blk (n := 0) (c := 0) hbsR 3 rfl (Nat.le_refl _) (by decide)
     have hb1 := hb1.zq8 hbo97 hE97 (show (114 : Nat) ≠ 46 from by decide)
     have hb2 := hb2.zq8 hbo97 hE97 (show (114 : Nat) ≠ 46 from by decide)
     try have hL := hL.zq8 hbo97 hE97 (show (114 : Nat) ≠ 56 from by decide)
     try have hP := hP.zq8 hbo97 hE97 (show (114 : Nat) ≠ 31 from by decide)
     have hX := hX0.trans hE97 fun y hy hF => by have e : b11 = y := congrArg Addr.block (Option.some.inj hF); omega
     obtain ⟨qR, kR, e1, e2, hR⟩ : ∃ q k, q = p97 ∧ k = c97 ∧ Own w97 q x.rows.length k 114 3 (x.rows.flatMap ChgD.cells) := ⟨_, _, rfl, rfl, by have h := ho97; rw [Nat.zero_add] at h; exact h⟩
     have nR := newW hX0 (newB fr11) hB97
     rw [← e1] at nR
     rw [← e1, ← e2, Nat.zero_add]
     refine wd_sw ?_
     have hb1o := hb1
     refine wb rfl (st_st I_ok hb1 rfl rfl rfl fun w98 hb1 hE98 hs98 => ?_)
     have hb2 := hb2.ext1 hE98 ne1_2.symm
     have hL := hL.zx9 hE98 hb1o (by decide)
     have hP := hP.zx9 hE98 hb1o (by decide)
     have hR := hR.zx9 hE98 hb1o (by decide)
     have hX := hX.zx1 hE98 fr1
     have hb1 : Blk w98 b1 46 (objC x ⟨qL, kL, a.pp, a.pc, a.rp, a.rc⟩) := hb1
     refine wb rfl (st_p I_ok rfl rfl rfl ?_)
     have hb1o := hb1
     refine wb rfl (st_set I_ok hb1 rfl rfl (by rw [zq7 hx]; decide) fun w99 hb1 hE99 hs99 => ?_)
     have hb2 := hb2.ext1 hE99 ne1_2.symm
     have hL := hL.zx9 hE99 hb1o (by decide)
     have hP := hP.zx9 hE99 hb1o (by decide)
     have hR := hR.zx9 hE99 hb1o (by decide)
     have hX := hX.zx1 hE99 fr1
     have hb1 : Blk w99 b1 46 (objC x ⟨qL, kL, qP, kP, a.rp, a.rc⟩) := (by have h : Blk _ b1 _ ((objC x ⟨qL, kL, a.pp, a.pc, a.rp, a.rc⟩).set (68 + 0) (.slice qP x.parents.length kP)) := hb1; rw [objC_parents hx] at h; exact h)
     refine wb rfl (st_p I_ok rfl rfl rfl (wb rfl (st_p I_ok rfl rfl rfl ?_)))
     have hb1o := hb1
     refine wb rfl (st_set I_ok hb1 rfl rfl (by rw [zq7 hx]; decide) fun w100 hb1 hE100 hs100 => ?_)
     have hb2 := hb2.ext1 hE100 ne1_2.symm
     have hL := hL.zx9 hE100 hb1o (by decide)
     have hP := hP.zx9 hE100 hb1o (by decide)
     have hR := hR.zx9 hE100 hb1o (by decide)
     have hX := hX.zx1 hE100 fr1
     have hb1 : Blk w100 b1 46 (objC x ⟨qL, kL, qP, kP, qR, kR⟩) := (by have h : Blk _ b1 _ ((objC x ⟨qL, kL, qP, kP, a.rp, a.rc⟩).set (68 + 1) (.slice qR x.rows.length kR)) := hb1; rw [objC_rows hx] at h; exact h)
     refine zv0 ?_
     exact zz7 (⟨qL, kL, qP, kP, qR, kR⟩) rfl ⟨⟨hL, hP, hR, nL, nP, nR⟩, hb1, hb2, hX⟩
    ·refine st_bs I_ok rfl 32 rfl idZ_c.symm (by rw [zx0]; rfl) (by decide) (by decide) trivial (l' := []) rfl fun b7 w101 hn7 hb7 hE101 hs101 => ⟨hC.zq4 hE101, ?_⟩
     have fr7 := Nat.le_trans hX.size hn7
     have frhC7 := Nat.le_trans hC.size hn7
     have hb1 := hb1.zq2 hE101
     have hb2 := hb2.zq2 hE101
     have hb11 := hb11.zq2 hE101
     have hb3 := hb3.zq2 hE101
     have hX := hX.zq4 hE101
     have hC := hC.zq4 hE101
     refine wx_plan [(3, false), (13, true), (7, false), (12, false)] 0 rfl (by kernel_rfl) ?_
     have hX0 := hX
     have hbsL := hb3
     refine wd_l rfl (zv2 I_ok rfl 33 48 rfl rfl rfl (by decide) (Own.blk (n := 0) (c := 0) hb3 33 rfl (Nat.le_refl _) (by decide)) (Src.slice (hxl.leaves.zq2 hX) OneC.h) (by dsimp only [maxLen]; omega) (by dsimp only; omega) fun p102 c102 w102 ho102 hE102 hB102 => ⟨hC.trans hE102 (fun y hy hF => by have e : b3 = y := congrArg Addr.block (Option.some.inj hF); omega), ?_⟩)
     have hC := hC.trans hE102 (fun y hy hF => by have e : b3 = y := congrArg Addr.block (Option.some.inj hF); omega)
     dsimp only at ho102 hE102 hB102 ⊢
     have hbo102 := Own.blk (n := 0) (c := 0) hbsL 33 rfl (Nat.le_refl _) (by decide)
     have hb1 := hb1.zq8 hbo102 hE102 (show (56 : Nat) ≠ 46 from by decide)
     have hb2 := hb2.zq8 hbo102 hE102 (show (56 : Nat) ≠ 46 from by decide)
     try have hP := hP.zq8 hbo102 hE102 (show (56 : Nat) ≠ 31 from by decide)
     try have hR := hR.zq8 hbo102 hE102 (show (56 : Nat) ≠ 114 from by decide)
     try have hb7 := hb7.zq8 hbo102 hE102 (show (56 : Nat) ≠ 31 from by decide)
     try have hb11 := hb11.zq8 hbo102 hE102 (show (56 : Nat) ≠ 114 from by decide)
     have hX := hX0.trans hE102 fun y hy hF => by have e : b3 = y := congrArg Addr.block (Option.some.inj hF); omega
     obtain ⟨qL, kL, e1, e2, hL⟩ : ∃ q k, q = p102 ∧ k = c102 ∧ Own w102 q x.leaves.length k 56 33 (x.leaves.flatMap zj8.cells) := ⟨_, _, rfl, rfl, by have h := ho102; rw [Nat.zero_add] at h; exact h⟩
     have nL := newW hX0 (newB fr3) hB102
     rw [← e1] at nL
     rw [← e1, ← e2, Nat.zero_add]
     refine wd_k I_ok 1 rfl ?_
     have hX0 := hX
     have hbsP := hb7
     refine wd_l rfl (zv2 I_ok rfl 32 32 rfl rfl rfl (by decide) (Own.blk (n := 0) (c := 0) hb7 32 rfl (Nat.le_refl _) (by decide)) (Src.slice (hxl.parents.zq2 hX) OneC.h) (by dsimp only [maxLen]; omega) (by dsimp only; omega) fun p103 c103 w103 ho103 hE103 hB103 => ⟨hC.trans hE103 (fun y hy hF => by have e : b7 = y := congrArg Addr.block (Option.some.inj hF); omega), ?_⟩)
     have hC := hC.trans hE103 (fun y hy hF => by have e : b7 = y := congrArg Addr.block (Option.some.inj hF); omega)
     dsimp only at ho103 hE103 hB103 ⊢
     have hbo103 := Own.blk (n := 0) (c := 0) hbsP 32 rfl (Nat.le_refl _) (by decide)
     have hb1 := hb1.zq8 hbo103 hE103 (show (31 : Nat) ≠ 46 from by decide)
     have hb2 := hb2.zq8 hbo103 hE103 (show (31 : Nat) ≠ 46 from by decide)
     try have hL := hL.zq8 hbo103 hE103 (show (31 : Nat) ≠ 56 from by decide)
     try have hR := hR.zq8 hbo103 hE103 (show (31 : Nat) ≠ 114 from by decide)
     try have hb11 := hb11.zq8 hbo103 hE103 (show (31 : Nat) ≠ 114 from by decide)
     have hX := hX0.trans hE103 fun y hy hF => by have e : b7 = y := congrArg Addr.block (Option.some.inj hF); omega
     obtain ⟨qP, kP, e1, e2, hP⟩ : ∃ q k, q = p103 ∧ k = c103 ∧ Own w103 q x.parents.length k 31 32 (x.parents.flatMap zq6) := ⟨_, _, rfl, rfl, by have h := ho103; rw [Nat.zero_add] at h; exact h⟩
     have nP := newW hX0 (newB fr7) hB103
     rw [← e1] at nP
     rw [← e1, ← e2, Nat.zero_add]
     have hX0 := hX
     have hbsR := hb11
     refine wd_l rfl (zv2 I_ok rfl 3 40 rfl rfl rfl (by decide) (Own.blk (n := 0) (c := 0) hb11 3 rfl (Nat.le_refl _) (by decide)) (Src.slice (hxl.rows.zq2 hX) OneC.h) (by dsimp only [maxLen]; omega) (by dsimp only; omega) fun p104 c104 w104 ho104 hE104 hB104 => ⟨hC.trans hE104 (fun y hy hF => by have e : b11 = y := congrArg Addr.block (Option.some.inj hF); omega), ?_⟩)
     dsimp only at ho104 hE104 hB104 ⊢
     have hbo104 := Own.blk (n := 0) (c := 0) hbsR 3 rfl (Nat.le_refl _) (by decide)
     have hb1 := hb1.zq8 hbo104 hE104 (show (114 : Nat) ≠ 46 from by decide)
     have hb2 := hb2.zq8 hbo104 hE104 (show (114 : Nat) ≠ 46 from by decide)
     try have hL := hL.zq8 hbo104 hE104 (show (114 : Nat) ≠ 56 from by decide)
     try have hP := hP.zq8 hbo104 hE104 (show (114 : Nat) ≠ 31 from by decide)
     have hX := hX0.trans hE104 fun y hy hF => by have e : b11 = y := congrArg Addr.block (Option.some.inj hF); omega
     obtain ⟨qR, kR, e1, e2, hR⟩ : ∃ q k, q = p104 ∧ k = c104 ∧ Own w104 q x.rows.length k 114 3 (x.rows.flatMap ChgD.cells) := ⟨_, _, rfl, rfl, by have h := ho104; rw [Nat.zero_add] at h; exact h⟩
     have nR := newW hX0 (newB fr11) hB104
     rw [← e1] at nR
     rw [← e1, ← e2, Nat.zero_add]
     refine wd_sw ?_
     have hb1o := hb1
     refine wb rfl (st_st I_ok hb1 rfl rfl rfl fun w105 hb1 hE105 hs105 => ?_)
     have hb2 := hb2.ext1 hE105 ne1_2.symm
     have hL := hL.zx9 hE105 hb1o (by decide)
     have hP := hP.zx9 hE105 hb1o (by decide)
     have hR := hR.zx9 hE105 hb1o (by decide)
     have hX := hX.zx1 hE105 fr1
     have hb1 : Blk w105 b1 46 (objC x ⟨qL, kL, a.pp, a.pc, a.rp, a.rc⟩) := hb1
     refine wb rfl (st_p I_ok rfl rfl rfl ?_)
     have hb1o := hb1
     refine wb rfl (st_set I_ok hb1 rfl rfl (by rw [zq7 hx]; decide) fun w106 hb1 hE106 hs106 => ?_)
     have hb2 := hb2.ext1 hE106 ne1_2.symm
     have hL := hL.zx9 hE106 hb1o (by decide)
     have hP := hP.zx9 hE106 hb1o (by decide)
     have hR := hR.zx9 hE106 hb1o (by decide)
     have hX := hX.zx1 hE106 fr1
     have hb1 : Blk w106 b1 46 (objC x ⟨qL, kL, qP, kP, a.rp, a.rc⟩) := (by have h : Blk _ b1 _ ((objC x ⟨qL, kL, a.pp, a.pc, a.rp, a.rc⟩).set (68 + 0) (.slice qP x.parents.length kP)) := hb1; rw [objC_parents hx] at h; exact h)
     refine wb rfl (st_p I_ok rfl rfl rfl (wb rfl (st_p I_ok rfl rfl rfl ?_)))
     have hb1o := hb1
     refine wb rfl (st_set I_ok hb1 rfl rfl (by rw [zq7 hx]; decide) fun w107 hb1 hE107 hs107 => ?_)
     have hb2 := hb2.ext1 hE107 ne1_2.symm
     have hL := hL.zx9 hE107 hb1o (by decide)
     have hP := hP.zx9 hE107 hb1o (by decide)
     have hR := hR.zx9 hE107 hb1o (by decide)
     have hX := hX.zx1 hE107 fr1
     have hb1 : Blk w107 b1 46 (objC x ⟨qL, kL, qP, kP, qR, kR⟩) := (by have h : Blk _ b1 _ ((objC x ⟨qL, kL, qP, kP, a.rp, a.rc⟩).set (68 + 1) (.slice qR x.rows.length kR)) := hb1; rw [objC_rows hx] at h; exact h)
     refine zv0 ?_
     exact zz7 (⟨qL, kL, qP, kP, qR, kR⟩) rfl ⟨⟨hL, hP, hR, nL, nP, nR⟩, hb1, hb2, hX⟩
   ·refine st_bs I_ok rfl 32 rfl idZ_c.symm (by rw [zx0]; rfl) (by decide) (by decide) trivial (l' := []) rfl fun b7 w108 hn7 hb7 hE108 hs108 => ⟨hC.zq4 hE108, ?_⟩
    have fr7 := Nat.le_trans hX.size hn7
    have frhC7 := Nat.le_trans hC.size hn7
    have hb1 := hb1.zq2 hE108
    have hb2 := hb2.zq2 hE108
    have hb11 := hb11.zq2 hE108
    have hX := hX.zq4 hE108
    have hC := hC.zq4 hE108
    refine wx_plan [(0, false), (3, false), (13, true), (7, false), (12, false)] 0 rfl (by kernel_rfl) ?_
    refine wd_l rfl (st_bs I_ok rfl 33 rfl leafZ_c (zj8.len rfl) (by decide) (by decide) trivial (l' := []) rfl fun b3 w109 hn3 hb3 hE109 hs109 => ⟨hC.zq4 hE109, ?_⟩)
    have fr3 := Nat.le_trans hX.size hn3
    have frhC3 := Nat.le_trans hC.size hn3
    have hb1 := hb1.zq2 hE109
    have hb2 := hb2.zq2 hE109
    have hb11 := hb11.zq2 hE109
    have hb7 := hb7.zq2 hE109
    have hX := hX.zq4 hE109
    have hC := hC.zq4 hE109
    have hX0 := hX
    have hbsL := hb3
    refine wd_l rfl (zv2 I_ok rfl 33 48 rfl rfl rfl (by decide) (Own.blk (n := 0) (c := 0) hb3 33 rfl (Nat.le_refl _) (by decide)) (Src.slice (hxl.leaves.zq2 hX) OneC.h) (by dsimp only [maxLen]; omega) (by dsimp only; omega) fun p110 c110 w110 ho110 hE110 hB110 => ⟨hC.trans hE110 (fun y hy hF => by have e : b3 = y := congrArg Addr.block (Option.some.inj hF); omega), ?_⟩)
    have hC := hC.trans hE110 (fun y hy hF => by have e : b3 = y := congrArg Addr.block (Option.some.inj hF); omega)
    dsimp only at ho110 hE110 hB110 ⊢
    have hbo110 := Own.blk (n := 0) (c := 0) hbsL 33 rfl (Nat.le_refl _) (by decide)
    have hb1 := hb1.zq8 hbo110 hE110 (show (56 : Nat) ≠ 46 from by decide)
    have hb2 := hb2.zq8 hbo110 hE110 (show (56 : Nat) ≠ 46 from by decide)
    try have hP := hP.zq8 hbo110 hE110 (show (56 : Nat) ≠ 31 from by decide)
    try have hR := hR.zq8 hbo110 hE110 (show (56 : Nat) ≠ 114 from by decide)
    try have hb7 := hb7.zq8 hbo110 hE110 (show (56 : Nat) ≠ 31 from by decide)
    try have hb11 := hb11.zq8 hbo110 hE110 (show (56 : Nat) ≠ 114 from by decide)
    have hX := hX0.trans hE110 fun y hy hF => by have e : b3 = y := congrArg Addr.block (Option.some.inj hF); omega
    obtain ⟨qL, kL, e1, e2, hL⟩ : ∃ q k, q = p110 ∧ k = c110 ∧ Own w110 q x.leaves.length k 56 33 (x.leaves.flatMap zj8.cells) := ⟨_, _, rfl, rfl, by have h := ho110; rw [Nat.zero_add] at h; exact h⟩
    have nL := newW hX0 (newB fr3) hB110
    rw [← e1] at nL
    rw [← e1, ← e2, Nat.zero_add]
    refine wd_k I_ok 1 rfl ?_
    have hX0 := hX
    have hbsP := hb7
    refine wd_l rfl (zv2 I_ok rfl 32 32 rfl rfl rfl (by decide) (Own.blk (n := 0) (c := 0) hb7 32 rfl (Nat.le_refl _) (by decide)) (Src.slice (hxl.parents.zq2 hX) OneC.h) (by dsimp only [maxLen]; omega) (by dsimp only; omega) fun p111 c111 w111 ho111 hE111 hB111 => ⟨hC.trans hE111 (fun y hy hF => by have e : b7 = y := congrArg Addr.block (Option.some.inj hF); omega), ?_⟩)
    have hC := hC.trans hE111 (fun y hy hF => by have e : b7 = y := congrArg Addr.block (Option.some.inj hF); omega)
    dsimp only at ho111 hE111 hB111 ⊢
    have hbo111 := Own.blk (n := 0) (c := 0) hbsP 32 rfl (Nat.le_refl _) (by decide)
    have hb1 := hb1.zq8 hbo111 hE111 (show (31 : Nat) ≠ 46 from by decide)
    have hb2 := hb2.zq8 hbo111 hE111 (show (31 : Nat) ≠ 46 from by decide)
    try have hL := hL.zq8 hbo111 hE111 (show (31 : Nat) ≠ 56 from by decide)
    try have hR := hR.zq8 hbo111 hE111 (show (31 : Nat) ≠ 114 from by decide)
    try have hb11 := hb11.zq8 hbo111 hE111 (show (31 : Nat) ≠ 114 from by decide)
    have hX := hX0.trans hE111 fun y hy hF => by have e : b7 = y := congrArg Addr.block (Option.some.inj hF); omega
    obtain ⟨qP, kP, e1, e2, hP⟩ : ∃ q k, q = p111 ∧ k = c111 ∧ Own w111 q x.parents.length k 31 32 (x.parents.flatMap zq6) := ⟨_, _, rfl, rfl, by have h := ho111; rw [Nat.zero_add] at h; exact h⟩
    have nP := newW hX0 (newB fr7) hB111
    rw [← e1] at nP
    rw [← e1, ← e2, Nat.zero_add]
    have hX0 := hX
    have hbsR := hb11
    refine wd_l rfl (zv2 I_ok rfl 3 40 rfl rfl rfl (by decide) (Own.blk (n := 0) (c := 0) hb11 3 rfl (Nat.le_refl _) (by decide)) (Src.slice (hxl.rows.zq2 hX) OneC.h) (by dsimp only [maxLen]; omega) (by dsimp only; omega) fun p112 c112 w112 ho112 hE112 hB112 => ⟨hC.trans hE112 (fun y hy hF => by have e : b11 = y := congrArg Addr.block (Option.some.inj hF); omega), ?_⟩)
    dsimp only at ho112 hE112 hB112 ⊢
    have hbo112 := Own.blk (n := 0) (c := 0) hbsR 3 rfl (Nat.le_refl _) (by decide)
    have hb1 := hb1.zq8 hbo112 hE112 (show (114 : Nat) ≠ 46 from by decide)
    have hb2 := hb2.zq8 hbo112 hE112 (show (114 : Nat) ≠ 46 from by decide)
    try have hL := hL.zq8 hbo112 hE112 (show (114 : Nat) ≠ 56 from by decide)
    try have hP := hP.zq8 hbo112 hE112 (show (114 : Nat) ≠ 31 from by decide)
    have hX := hX0.trans hE112 fun y hy hF => by have e : b11 = y := congrArg Addr.block (Option.some.inj hF); omega
    obtain ⟨qR, kR, e1, e2, hR⟩ : ∃ q k, q = p112 ∧ k = c112 ∧ Own w112 q x.rows.length k 114 3 (x.rows.flatMap ChgD.cells) := ⟨_, _, rfl, rfl, by have h := ho112; rw [Nat.zero_add] at h; exact h⟩
    have nR := newW hX0 (newB fr11) hB112
    rw [← e1] at nR
    rw [← e1, ← e2, Nat.zero_add]
    refine wd_sw ?_
    have hb1o := hb1
    refine wb rfl (st_st I_ok hb1 rfl rfl rfl fun w113 hb1 hE113 hs113 => ?_)
    have hb2 := hb2.ext1 hE113 ne1_2.symm
    have hL := hL.zx9 hE113 hb1o (by decide)
    have hP := hP.zx9 hE113 hb1o (by decide)
    have hR := hR.zx9 hE113 hb1o (by decide)
    have hX := hX.zx1 hE113 fr1
    have hb1 : Blk w113 b1 46 (objC x ⟨qL, kL, a.pp, a.pc, a.rp, a.rc⟩) := hb1
    refine wb rfl (st_p I_ok rfl rfl rfl ?_)
    have hb1o := hb1
    refine wb rfl (st_set I_ok hb1 rfl rfl (by rw [zq7 hx]; decide) fun w114 hb1 hE114 hs114 => ?_)
    have hb2 := hb2.ext1 hE114 ne1_2.symm
    have hL := hL.zx9 hE114 hb1o (by decide)
    have hP := hP.zx9 hE114 hb1o (by decide)
    have hR := hR.zx9 hE114 hb1o (by decide)
    have hX := hX.zx1 hE114 fr1
    have hb1 : Blk w114 b1 46 (objC x ⟨qL, kL, qP, kP, a.rp, a.rc⟩) := (by have h : Blk _ b1 _ ((objC x ⟨qL, kL, a.pp, a.pc, a.rp, a.rc⟩).set (68 + 0) (.slice qP x.parents.length kP)) := hb1; rw [objC_parents hx] at h; exact h)
    refine wb rfl (st_p I_ok rfl rfl rfl (wb rfl (st_p I_ok rfl rfl rfl ?_)))
    have hb1o := hb1
    refine wb rfl (st_set I_ok hb1 rfl rfl (by rw [zq7 hx]; decide) fun w115 hb1 hE115 hs115 => ?_)
    have hb2 := hb2.ext1 hE115 ne1_2.symm
    have hL := hL.zx9 hE115 hb1o (by decide)
    have hP := hP.zx9 hE115 hb1o (by decide)
    have hR := hR.zx9 hE115 hb1o (by decide)
    have hX := hX.zx1 hE115 fr1
    have hb1 : Blk w115 b1 46 (objC x ⟨qL, kL, qP, kP, qR, kR⟩) := (by have h : Blk _ b1 _ ((objC x ⟨qL, kL, qP, kP, a.rp, a.rc⟩).set (68 + 1) (.slice qR x.rows.length kR)) := hb1; rw [objC_rows hx] at h; exact h)
    refine zv0 ?_
    exact zz7 (⟨qL, kL, qP, kP, qR, kR⟩) rfl ⟨⟨hL, hP, hR, nL, nP, nR⟩, hb1, hb2, hX⟩
 rintro a' w116 ⟨hN, hb1, hb2, hX⟩
 refine zq5 (zq0 (wl (zj2 I_ok hb1 rfl (zq7 hx) ?_)))
 have hb2o := hb2
 refine wl (zj1 (l' := objC x a') I_ok hb2 rfl rfl (zq7 hx) (zq7 hx) OneC.h fun w117 hb2 hE117 hs117 => ?_)
 have hN := hN.ext1 hE117 hb2o (by decide) (by decide) (by decide)
 have hX := hX.zx1 hE117 fr2
 refine zq3 (zq1 (zj0 (f_ret [_] ⟨⟨b2, 0, rfl, ld_all I_ok rfl rfl hb2.seg (zq7 hx)⟩, trivial⟩ ?_)))
 exact ⟨a', rfl, hN, hX⟩
end Go.Proofs.YtpcdihkcenfgkaaGreatDoor
