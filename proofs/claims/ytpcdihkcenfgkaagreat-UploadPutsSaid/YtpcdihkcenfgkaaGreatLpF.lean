/-
  Walks and laws towards: UploadPutsSaid , walked
-/
import Derived.Shelf.GgSortFunc.InsertionK
import Derived.Shelf.SlSortCmp.WholeK
import Derived.Shelf.SlSortCmp.NoneTotal
import Derived.Test.YtpcdihkcenfgkaaGreatLpE
namespace Go.Proofs.YtpcdihkcenfgkaaGreat
open Go.Vc
abbrev ObjX := ObjD × ObjP
abbrev objX (x : ObjX) : List Value := objC x.1 x.2
instance (x : ObjX) : OneC (objX x) := inferInstanceAs (OneC (objC _ _))
def heldO (x : ObjX) : HeldT := ⟨idOf x.1, x.1, x.2⟩
def putS (acc : List HeldT) (x : ObjX) : List HeldT := if idOf x.1 ∈ acc.map HeldT.id then acc else acc ++ [heldO x]
/-- a heap with objects behind it -/
def putW (l : List HeldT) (xs : List ObjX) : List HeldT := xs.foldl putS l
theorem putW_take {l : List HeldT} {xs : List ObjX} {i : Nat} (hi : i < xs.length) : putW l (xs.take (i + 1)) = putS (putW l (xs.take i)) xs[i] := by
 rw [List.take_succ_eq_append_getElem hi, putW, List.foldl_append]; rfl
structure ObjsIn (w : World) (p : Option Addr) (xs : List ObjX) : Prop where
  sl : Sl w p xs.length 73 (xs.flatMap objX)
  o : ∀ x ∈ xs, ObjIn x.1
  sh : ∀ x ∈ xs, Short x.1
  l : ∀ x ∈ xs, ObjL w x.1 x.2
  f : ∀ x ∈ xs, BytesIn x.1
theorem putS_mem {P : HeldT → Prop} {acc : List HeldT} {x : ObjX} (h : ∀ y ∈ acc, P y) (hx : P (heldO x)) : ∀ y ∈ putS acc x, P y := fun y hy => by
 unfold putS at hy
 split at hy
 ·exact h y hy
 ·rcases List.mem_append.1 hy with hy | hy
  ·exact h y hy
  ·rw [List.mem_singleton.1 hy]; exact hx
theorem putW_mem {P : HeldT → Prop} : ∀ (xs : List ObjX) {l : List HeldT}, (∀ y ∈ l, P y) → (∀ x ∈ xs, P (heldO x)) → ∀ y ∈ putW l xs, P y
 | [], _, h, _ => h
 | x :: xs, l, h, hx => putW_mem xs (l := putS l x) (putS_mem h (hx x List.mem_cons_self)) fun z hz => hx z (List.mem_cons_of_mem _ hz)
theorem putW_len : ∀ (xs : List ObjX) (l : List HeldT), (putW l xs).length ≤ l.length + xs.length
 | [], l => Nat.le_refl _
 | x :: xs, l => by
  have := putW_len xs (putS l x)
  have h2 : (putS l x).length ≤ l.length + 1 := by unfold putS; split <;> simp
  rw [List.length_cons]
  show (putW (putS l x) xs).length ≤ _
  omega
theorem putW_lk : ∀ (xs : List ObjX) (l : List HeldT), ((putW l xs).flatMap fun e => linksOf e.o).length ≤ (l.flatMap fun e => linksOf e.o).length + (xs.flatMap fun x => linksOf x.1).length
 | [], l => Nat.le_refl _
 | x :: xs, l => by
  have := putW_lk xs (putS l x)
  have h2 : ((putS l x).flatMap fun e => linksOf e.o).length ≤ (l.flatMap fun e => linksOf e.o).length + (linksOf x.1).length := by
   unfold putS
   split
   ·omega
   ·rw [List.flatMap_append, List.length_append, List.flatMap_singleton]; exact Nat.le_refl _
  rw [List.flatMap_cons, List.length_append]
  show ((putW (putS l x) xs).flatMap fun e => linksOf e.o).length ≤ _
  omega
theorem flat_take_le {α β : Type} {f : α → List β} : ∀ (L : List α) (i : Nat), ((L.take i).flatMap f).length ≤ (L.flatMap f).length
 | [], i => by simp
 | a :: L, 0 => by simp
 | a :: L, i + 1 => by
  rw [List.take_succ_cons, List.flatMap_cons, List.flatMap_cons, List.length_append, List.length_append]
  have := flat_take_le (f := f) L i
  omega
theorem HeldIn.objO {w : World} {x : ObjX} (h1 : ObjIn x.1) (h2 : Short x.1) (h3 : ObjL w x.1 x.2) : HeldIn w (heldO x) := ⟨idOf_len _, h1, h2, h3⟩
theorem put8_calls (w : World) {p px : Option Addr} {c cx : Nat} {l : List HeldT} {xs : List ObjX} (h : HpIn w p l) (hxs : ObjsIn w px xs) (hn : l.length + xs.length < 1000000) (hlk : (l.flatMap fun e => linksOf e.o).length + (xs.flatMap fun x => linksOf x.1).length < 100000) :
  CallsV Tryz.prog 32 [.agg #[.slice p l.length c], .slice px xs.length cx] w fun v w' => ∃ q k, v = .agg #[.slice q (putW l xs).length k] ∧ Own w' q (putW l xs).length k 84 105 ((putW l xs).flatMap heldC) ∧ (∀ y, OwnB q y → w.heap.size ≤ y) ∧ HpIn w' q (putW l xs) ∧ Ext No w w' := by
 have hlen := h.len
 have hins : ∀ i, ∀ y ∈ putW l (xs.take i), HeldIn w y := fun i => putW_mem _ h.ins fun x hx => HeldIn.objO (hxs.o x (List.mem_of_mem_take hx)) (hxs.sh x (List.mem_of_mem_take hx)) (hxs.l x (List.mem_of_mem_take hx))
 refine calls_enter Tryz.func32 rfl rfl rfl rfl ?_
 have hX := Ext.refl No w
 refine c_seq (c_region (wl (st_al I_ok rfl fun b2 w1 hn2 hb2 hE1 => ?_)))
 have hX := hX.thenNo hE1
 have hb2 : Blk w1 b2 26 ([.slice p l.length c]) := hb2
 refine wl (st_al I_ok rfl fun b4 w2 hn4 hb4 hE2 => ?_)
 have fr4 := Nat.le_trans hX.size hn4
 have hb2 := hb2.extNo hE2
 have hX := hX.thenNo hE2
 have hb4 : Blk w2 b4 26 ([.slice none 0 0]) := hb4
 refine wl_nil (f_then (c_seq (c_region (wl (st_bs I_ok rfl 105 rfl heldZ_c (by rw [List.length_append, bytesU_len, objC_len objZ_in]; rfl) (by decide) (by decide) trivial (l' := []) rfl fun b9 w3 hn9 hb9 hE3 hs3 => ?_)))))
 have fr9 := Nat.le_trans hX.size hn9
 have hb2 := hb2.extNo hE3
 have hb4 := hb4.extNo hE3
 have hX := hX.thenNo hE3
 refine wl_p I_ok rfl (wl (st_ldb I_ok hb2 rfl rfl ?_))
 have hX0 := hX
 have hb9o := Own.blk (n := 0) (c := 0) hb9 105 rfl (Nat.le_refl _) (by decide)
 refine wl (st_app I_ok rfl 105 224 rfl rfl rfl (by decide) (Own.blk (n := 0) (c := 0) hb9 105 rfl (Nat.le_refl _) (by decide)) (Src.slice (h.sl.extNo hX) OneC.h) (by dsimp only [maxLen]; omega) (by dsimp only; omega) fun p4 c4 w4 ho4 hE4 hB4 => ?_)
 dsimp only at ho4 hE4 hB4 ⊢
 have e9 : ∀ y, OwnB (some ⟨b9, 0, none⟩) y → y = b9 := fun y hy => (congrArg Addr.block (Option.some.inj hy)).symm
 have hX := hX0.trans hE4 fun y hy hF => by have := e9 y hF; omega
 have hb4 := hb4.extOwn hb9o hE4 (by decide)
 obtain ⟨q, k, e1, e2, hq⟩ : ∃ q k, q = p4 ∧ k = c4 ∧ Own w4 q l.length k 84 105 (l.flatMap heldC) := ⟨_, _, rfl, rfl, by have h := ho4; rw [Nat.zero_add] at h; exact h⟩
 have hqn := newW hX0 (newB fr9) hB4
 rw [← e1] at hqn
 rw [← e1, ← e2, Nat.zero_add]
 refine wl (st_bd I_ok rfl ⟨⟨rfl, by decide⟩, trivial⟩ (l' := [.slice q l.length k]) rfl (wl (st_al I_ok rfl fun b5 w5 hn5 hb5 hE5 => ?_)))
 have ne4_5 : b4 ≠ b5 := Nat.ne_of_lt (Nat.lt_of_lt_of_le hb4.lt hn5)
 have fr5 := Nat.le_trans hX.size hn5
 have hb4 := hb4.extNo hE5
 have hq := hq.ext hE5 fun _ _ => id
 have hX := hX.thenNo hE5
 have hb5o := hb5
 refine wl (st_stW (l' := [.slice q l.length k]) I_ok hb5 rfl rfl rfl rfl OneC.h fun w6 hb5 hE6 hs6 => ?_)
 have hb4 := hb4.ext1 hE6 ne4_5
 have hq := hq.extTy hE6 hb5o (by decide)
 have hX := hX.thenNew hE6 fr5
 refine wl_nil (f_then (c_seq (c_seq (c_region (wl_p I_ok rfl (wl_nil (f_then (c_block ?_))))))))
 refine c_loopK (α := Nat × Option Addr × Nat) [4, 5, 14, 15] rfl (fun z => [(16, .int .i64 (z.1 : Int))]) (fun z u => (z.1 ≤ xs.length ∧ Own u z.2.1 (putW l (xs.take z.1)).length z.2.2 84 105 ((putW l (xs.take z.1)).flatMap heldC) ∧ (∀ y, OwnB z.2.1 y → w.heap.size ≤ y)) ∧ Blk u b4 26 ([.slice none 0 0]) ∧ Blk u b5 26 ([.slice z.2.1 (putW l (xs.take z.1)).length z.2.2]) ∧ Ext No w u) (fun z u => xs.length - z.1) (0, q, k) rfl ⟨⟨Nat.zero_le _, hq, hqn⟩, hb4, hb5, hX⟩ ?_
 rintro ⟨i, q, k⟩ w7 ⟨⟨hi, hq, hqn⟩, hb4, hb5, hX⟩
 try dsimp only
 dsimp only at hi hq hqn
 refine c_seq (c_region (wl_p I_ok rfl (wl_nil (f_then (c_seq (c_if rfl (fun hc => ?_) (fun hc => ?_)))))))
 ·have hi : i < xs.length := by omega
  obtain ⟨xb, xo, hpx, hsx⟩ := hxs.sl.rowAll (fun r hr => objC_len (hxs.o r hr)) (by omega)
  have hxm := List.getElem_mem hi
  have hoi := hxs.o _ hxm
  have hfo := hxs.f _ hxm
  have hol := hxs.l _ hxm
  have hPl : (putW l (xs.take i)).length ≤ l.length + i := by have := putW_len (xs.take i) l; rw [List.length_take] at this; omega
  have hPn : (putW l (xs.take i)).length < 1000000 := by omega
  have hPk : ((putW l (xs.take i)).flatMap fun e => linksOf e.o).length < 100000 := by
   have k1 := putW_lk (xs.take i) l
   have k2 := flat_take_le (f := fun x : ObjX => linksOf x.1) xs i
   omega
  rw [hpx]
  refine c_skip (f_then ?_)
  refine c_cutK (α := Option Addr × Nat) [4, 5, 14, 15, 16] rfl (fun z => []) (fun z u => (Own u z.1 (putW l (xs.take (i + 1))).length z.2 84 105 ((putW l (xs.take (i + 1))).flatMap heldC) ∧ (∀ y, OwnB z.1 y → w.heap.size ≤ y)) ∧ Blk u b4 26 ([.slice none 0 0]) ∧ Blk u b5 26 ([.slice z.1 (putW l (xs.take (i + 1))).length z.2]) ∧ Ext No w u) ?_ ?_
  ·refine c_block ?_
   refine c_seq (c_region (wl (st_ix I_ok rfl 73 rfl i rfl (by omega) (xo + i * 73) rfl (wl (st_ldN I_ok rfl ((hsx i hi).extNo hX) (objC_len hoi) (wl (st_al I_ok rfl fun b7 w8 hn7 hb7 hE8 => ?_)))))))
   have ne4_7 : b4 ≠ b7 := Nat.ne_of_lt (Nat.lt_of_lt_of_le hb4.lt hn7)
   have ne5_7 : b5 ≠ b7 := Nat.ne_of_lt (Nat.lt_of_lt_of_le hb5.lt hn7)
   have fr7 := Nat.le_trans hX.size hn7
   have hb4 := hb4.extNo hE8
   have hb5 := hb5.extNo hE8
   have hq := hq.ext hE8 fun _ _ => id
   have hX := hX.thenNo hE8
   have hb7o := hb7
   refine wl (st_stW (l' := objX xs[i]) I_ok hb7 rfl rfl (objC_len hoi) (by rw [objC_len hoi]; rfl) OneC.h fun w9 hb7 hE9 hs9 => ?_)
   have hb4 := hb4.ext1 hE9 ne4_7
   have hb5 := hb5.ext1 hE9 ne5_7
   have hq := hq.extTy hE9 hb7o (by decide)
   have hX := hX.thenNew hE9 fr7
   refine wl_nil (f_then (c_seq (c_region (wl (st_ldB I_ok hb7 rfl (objC_len hoi) (wl (st_call Tryz.call33 rfl rfl rfl rfl rfl rfl (id6_calls w9 hoi (hol.extNo hX) hfo) fun v10 w10 hr10 => ?_)))))))
   obtain ⟨rfl, hE10⟩ := hr10
   have hb4 := hb4.extNo hE10
   have hb5 := hb5.extNo hE10
   have hb7 := hb7.extNo hE10
   have hq := hq.ext hE10 fun _ _ => id
   have hX := hX.thenNo hE10
   refine wl (st_al I_ok rfl fun b8 w11 hn8 hb8 hE11 => ?_)
   have ne4_8 : b4 ≠ b8 := Nat.ne_of_lt (Nat.lt_of_lt_of_le hb4.lt hn8)
   have ne5_8 : b5 ≠ b8 := Nat.ne_of_lt (Nat.lt_of_lt_of_le hb5.lt hn8)
   have ne7_8 : b7 ≠ b8 := Nat.ne_of_lt (Nat.lt_of_lt_of_le hb7.lt hn8)
   have fr8 := Nat.le_trans hX.size hn8
   have hb4 := hb4.extNo hE11
   have hb5 := hb5.extNo hE11
   have hb7 := hb7.extNo hE11
   have hq := hq.ext hE11 fun _ _ => id
   have hX := hX.thenNo hE11
   have hb8o := hb8
   refine wl (st_stW (l' := bytesU (idOf xs[i].1)) I_ok hb8 rfl rfl (by rw [bytesU_len, idOf_len]) (by rw [bytesU_len, idOf_len]; rfl) OneC.h fun w12 hb8 hE12 hs12 => ?_)
   have hb4 := hb4.ext1 hE12 ne4_8
   have hb5 := hb5.ext1 hE12 ne5_8
   have hb7 := hb7.ext1 hE12 ne7_8
   have hq := hq.extTy hE12 hb8o (by decide)
   have hX := hX.thenNew hE12 fr8
   refine wl_nil (f_then (c_seq (c_region (wl (st_ldB I_ok hb5 rfl rfl (wl (st_ldB I_ok hb8 rfl (by rw [bytesU_len, idOf_len]) ?_)))))))
   refine wl (st_call Tryz.call67 rfl rfl rfl rfl rfl rfl (there8_calls w12 ⟨hq.sl, fun y hy => (hins i y hy).extNo hX, hPn, hPk⟩ (idOf_len _)) fun v13 w13 hr13 => ?_)
   obtain ⟨rfl, hE13⟩ := hr13
   have hb4 := hb4.extNo hE13
   have hb5 := hb5.extNo hE13
   have hb7 := hb7.extNo hE13
   have hb8 := hb8.extNo hE13
   have hq := hq.ext hE13 fun _ _ => id
   have hX := hX.thenNo hE13
   refine wl_p I_ok rfl (wl_nil (f_then (c_cond rfl (fun hc => ?_) (fun hc => ?_))))
   ·have hnm : ¬ idOf xs[i].1 ∈ (putW l (xs.take i)).map HeldT.id := by simpa using hc
    have eA : (putW l (xs.take (i + 1))) = (putW l (xs.take i)) ++ [heldO xs[i]] := by rw [putW_take hi, putS, if_neg hnm]
    refine c_region (wl_p I_ok rfl (wl (st_ldb I_ok hb5 rfl rfl (wl (st_ldB I_ok hb8 rfl (by rw [bytesU_len, idOf_len]) (wl (st_ldB I_ok hb7 rfl (objC_len hoi) ?_)))))))
    refine wl (st_bd I_ok rfl ⟨⟨by rw [cellsOf_agg, bytesU_len, idOf_len _], by decide⟩, ⟨by rw [cellsOf_agg]; exact objC_len hoi, by decide⟩, trivial⟩ (l' := heldC ⟨idOf xs[i].1, xs[i].1, xs[i].2⟩) (by rw [heldZ_c]; exact held_build (idOf_len _) hoi) ?_)
    refine wl (st_bs I_ok rfl 105 rfl heldZ_c (by rw [List.length_append, bytesU_len, objC_len objZ_in]; rfl) (by decide) (by decide) ⟨⟨by rw [cellsOf_agg]; exact heldC_len (h := heldO xs[i]) (idOf_len _) hoi, by decide⟩, trivial⟩ (l' := heldC (heldO xs[i])) (one_held (h := heldO xs[i]) (heldC_len (h := heldO xs[i]) (idOf_len _) hoi)) fun b31 w14 hn31 hb31 hE14 hs14 => ?_)
    have hb4 := hb4.extNo hE14
    have hb5 := hb5.extNo hE14
    have hq := hq.ext hE14 fun _ _ => id
    have hX := hX.thenNo hE14
    have hX1 := hX
    have hs31 : Sl w14 (some ⟨b31, 0, none⟩) 1 105 (heldC (heldO xs[i])) := ⟨heldC_len (h := heldO xs[i]) (idOf_len _) hoi, .inr ⟨b31, 0, rfl, hb31.seg⟩⟩
    have hr1 : (putW l (xs.take i)).length + 1 ≤ maxLen := room_ml (by omega)
    have hr2 : ((putW l (xs.take i)).length + 1) * 224 ≤ 140737488355328 := by have := hPl; omega
    refine wl (st_app I_ok rfl 105 224 rfl rfl rfl (by decide) hq (Src.slice (m := 1) hs31 OneC.h) hr1 hr2 fun p15 c15 w15 ho15 hE15 hB15 => ?_)
    dsimp only at ho15 hE15 hB15 ⊢
    have hX := hX1.trans hE15 fun y hy hF => by have := hqn y hF; omega
    have hb4 := hb4.extOwn hq hE15 (by decide)
    have hb5 := hb5.extOwn hq hE15 (by decide)
    have hsz1 := hX1.size
    obtain ⟨q2, k2, e1, e2, hq2⟩ : ∃ q2 k2, q2 = p15 ∧ k2 = c15 ∧ Own w15 q2 (putW l (xs.take (i + 1))).length k2 84 105 ((putW l (xs.take (i + 1))).flatMap heldC) := ⟨_, _, rfl, rfl, by
     rw [eA, List.flatMap_append, List.length_append, List.flatMap_singleton]
     exact ho15⟩
    rw [← e1] at hB15
    rw [← e1, ← e2]
    have hqn2 : (∀ y, OwnB q2 y → w.heap.size ≤ y) := fun x hx => (hB15 x hx).elim (fun h => hqn x h) fun h => by omega
    refine wl_p I_ok rfl ?_
    have hb5o := hb5
    refine wl (st_st I_ok hb5 rfl rfl rfl fun w16 hb5 hE16 hs16 => ?_)
    have hb4 := hb4.ext1 hE16 ne4_5
    have hq2 := hq2.extTy hE16 hb5o (by decide)
    have hX := hX.thenNew hE16 fr5
    have hb5 : Blk w16 b5 26 ([.slice q2 (putW l (xs.take (i + 1))).length k2]) := (by
     rw [eA, List.length_append]
     exact hb5)
    refine wl_nil ?_
    exact f_blockN (f_cut (q2, k2) rfl ⟨⟨hq2, hqn2⟩, hb4, hb5, hX⟩)
   ·have hnm : idOf xs[i].1 ∈ (putW l (xs.take i)).map HeldT.id := by simpa using hc
    have eA : (putW l (xs.take (i + 1))) = (putW l (xs.take i)) := by rw [putW_take hi, putS, if_pos hnm]
    rw [← eA] at hq hb5
    refine c_skip ?_
    exact f_blockN (f_cut (q, k) rfl ⟨⟨hq, hqn⟩, hb4, hb5, hX⟩)
  rintro ⟨q, k⟩ w17 ⟨⟨hq, hqn⟩, hb4, hb5, hX⟩
  try dsimp only
  dsimp only at hq hqn
  refine c_region (wl_p I_ok rfl ?_)
  rw [IntWalk.i64_in _ (by omega)]
  refine wl_nil ?_
  exact f_round (i + 1, q, k) rfl ⟨⟨hi, hq, hqn⟩, hb4, hb5, hX⟩ (by first | omega | (dsimp only; omega))
 ·have h0 : i = xs.length := by omega
  subst h0
  have hPl := putW_len xs l
  have hPk : ((putW l xs).flatMap fun e => linksOf e.o).length < 100000 := Nat.lt_of_le_of_lt (putW_lk xs l) hlk
  have hii := hins xs.length
  rw [List.take_length] at hq hb5 hii
  refine c_exit (f_thenE (f_thenE (f_blockE (f_then (c_seq (c_region (wl (st_ldB I_ok hb5 rfl rfl ?_))))))))
  have hb4o := hb4
  refine wl (st_stW (l' := [.slice q (putW l xs).length k]) I_ok hb4 rfl rfl rfl rfl OneC.h fun w18 hb4 hE18 hs18 => ?_)
  have hq := hq.extTy hE18 hb4o (by decide)
  have hX := hX.thenNew hE18 fr4
  refine wl_nil (f_then (c_ret (f_ret [_] ⟨⟨b4, 0, rfl, ld_all I_ok rfl rfl hb4.seg rfl⟩, trivial⟩ ?_)))
  exact ⟨q, k, rfl, hq, hqn, ⟨hq.sl, fun y hy => (hii y hy).extNo hX, by omega, hPk⟩, hX⟩
end Go.Proofs.YtpcdihkcenfgkaaGreat
namespace Go.Proofs.YtpcdihkcenfgkaaGreat
open Go.Vc
theorem own1 {b x : Nat} (h : OwnB (some ⟨b, 0, none⟩) x) : x = b := (congrArg Addr.block (Option.some.inj h)).symm
theorem cloneL_nil (w : World) {c : Nat} :
  CallsV Tryz.prog 82 [.slice none 0 c] w fun v w' => ∃ q k, v = .slice q 0 k ∧ Own w' q 0 k 50 33 [] ∧ (∀ y, OwnB q y → w.heap.size ≤ y) ∧ Ext No w w' := by
 refine calls_enter Tryz.func82 rfl rfl rfl rfl ?_
 have hX := Ext.refl No w
 refine c_seq (c_region (wl_p I_ok rfl (wl_nil (f_then (c_seq (c_seq (c_region (wl_p I_ok rfl (wl_nil (f_then (c_condT rfl (c_seq (c_region (wl_p I_ok rfl (wl_nil (f_then (c_ret (f_thenR (f_ret1 rfl rfl ?_)))))))))))))))))))
 exact ⟨none, 0, rfl, Own.nil _ _ _, fun y hy => (by cases hy), hX⟩

theorem cloneL_some (w : World) {a : Addr} {c : Nat} {l : List LeafD} (h : Sl w (some a) l.length 33 (l.flatMap LeafD.cells)) (hl : l.length < 1000000000) :
  CallsV Tryz.prog 82 [.slice (some a) l.length c] w fun v w' => ∃ q k, v = .slice q l.length k ∧ Own w' q l.length k 50 33 (l.flatMap LeafD.cells) ∧ (∀ y, OwnB q y → w.heap.size ≤ y) ∧ Ext No w w' := by
 refine calls_enter Tryz.func82 rfl rfl rfl rfl ?_
 have hX := Ext.refl No w
 refine c_seq (c_region (wl_p I_ok rfl (wl_nil (f_then (c_seq (c_seq (c_region (wl_p I_ok rfl (wl_nil (f_then (c_condF rfl (c_skip (f_then (c_seq (c_region ?_)))))))))))))))
 refine wl (st_bs I_ok rfl 33 rfl leafZ_c (LeafD.len rfl) (by decide) (by decide) trivial (l' := []) rfl fun b5 w1 hn5 hb5 hE1 hs1 => ?_)
 have hX := hX.thenNo hE1
 refine wl_p I_ok rfl ?_
 refine wl (st_app I_ok rfl 33 48 rfl rfl rfl (by decide) (Own.blk (n := 0) (c := 0) hb5 33 rfl (Nat.le_refl _) (by decide)) (Src.slice (h.extNo hX) OneC.h) (by dsimp only [maxLen]; omega) (by dsimp only; omega) fun p2 c2 w2 ho2 hE2 hB2 => ?_)
 have hX := hX.trans hE2 fun y hy hF => by have := own1 hF; omega
 have hn1 : ∀ x, OwnB p2 x → w.heap.size ≤ x := fun x hx => (hB2 x hx).elim (fun hF => by have := own1 hF; omega) fun h => by have := hE1.size; omega
 have ho1 : Own w2 p2 (0 + l.length) c2 50 33 (l.flatMap LeafD.cells) := ho2
 rw [Nat.zero_add] at ho1
 dsimp only
 rw [Nat.zero_add]
 refine wl_p I_ok rfl (wl_nil (f_then (c_ret (f_ret1 rfl rfl ?_))))
 exact ⟨_, _, rfl, ho1, hn1, hX⟩
theorem cloneL_calls (w : World) {p : Option Addr} {c : Nat} {l : List LeafD} (h : Sl w p l.length 33 (l.flatMap LeafD.cells)) (hl : l.length < 1000000000) :
  CallsV Tryz.prog 82 [.slice p l.length c] w fun v w' => ∃ q k, v = .slice q l.length k ∧ Own w' q l.length k 50 33 (l.flatMap LeafD.cells) ∧ (∀ y, OwnB q y → w.heap.size ≤ y) ∧ Ext No w w' := by
 cases p with
 | none =>
  have hl0 : l = [] := by
   rcases h.2 with h0 | ⟨b, off, h1, _⟩
   ·exact List.eq_nil_of_length_eq_zero h0
   ·cases h1
  subst hl0
  exact cloneL_nil w
 | some a => exact cloneL_some w h hl
theorem cloneI_nil (w : World) {c : Nat} :
  CallsV Tryz.prog 83 [.slice none 0 c] w fun v w' => ∃ q k, v = .slice q 0 k ∧ Own w' q 0 k 31 32 [] ∧ (∀ y, OwnB q y → w.heap.size ≤ y) ∧ Ext No w w' := by
 refine calls_enter Tryz.func83 rfl rfl rfl rfl ?_
 have hX := Ext.refl No w
 refine c_seq (c_region (wl_p I_ok rfl (wl_nil (f_then (c_seq (c_seq (c_region (wl_p I_ok rfl (wl_nil (f_then (c_condT rfl (c_seq (c_region (wl_p I_ok rfl (wl_nil (f_then (c_ret (f_thenR (f_ret1 rfl rfl ?_)))))))))))))))))))
 exact ⟨none, 0, rfl, Own.nil _ _ _, fun y hy => (by cases hy), hX⟩

theorem cloneI_some (w : World) {a : Addr} {c : Nat} {l : List IdB} (h : Sl w (some a) l.length 32 (l.flatMap bytesU)) (hl : l.length < 1000000000) :
  CallsV Tryz.prog 83 [.slice (some a) l.length c] w fun v w' => ∃ q k, v = .slice q l.length k ∧ Own w' q l.length k 31 32 (l.flatMap bytesU) ∧ (∀ y, OwnB q y → w.heap.size ≤ y) ∧ Ext No w w' := by
 refine calls_enter Tryz.func83 rfl rfl rfl rfl ?_
 have hX := Ext.refl No w
 refine c_seq (c_region (wl_p I_ok rfl (wl_nil (f_then (c_seq (c_seq (c_region (wl_p I_ok rfl (wl_nil (f_then (c_condF rfl (c_skip (f_then (c_seq (c_region ?_)))))))))))))))
 refine wl (st_bs I_ok rfl 32 rfl idZ_c.symm (by rw [bytesU_len]; rfl) (by decide) (by decide) trivial (l' := []) rfl fun b5 w1 hn5 hb5 hE1 hs1 => ?_)
 have hX := hX.thenNo hE1
 refine wl_p I_ok rfl ?_
 refine wl (st_app I_ok rfl 32 32 rfl rfl rfl (by decide) (Own.blk (n := 0) (c := 0) hb5 32 rfl (Nat.le_refl _) (by decide)) (Src.slice (h.extNo hX) OneC.h) (by dsimp only [maxLen]; omega) (by dsimp only; omega) fun p2 c2 w2 ho2 hE2 hB2 => ?_)
 have hX := hX.trans hE2 fun y hy hF => by have := own1 hF; omega
 have hn1 : ∀ x, OwnB p2 x → w.heap.size ≤ x := fun x hx => (hB2 x hx).elim (fun hF => by have := own1 hF; omega) fun h => by have := hE1.size; omega
 have ho1 : Own w2 p2 (0 + l.length) c2 31 32 (l.flatMap bytesU) := ho2
 rw [Nat.zero_add] at ho1
 dsimp only
 rw [Nat.zero_add]
 refine wl_p I_ok rfl (wl_nil (f_then (c_ret (f_ret1 rfl rfl ?_))))
 exact ⟨_, _, rfl, ho1, hn1, hX⟩
theorem cloneI_calls (w : World) {p : Option Addr} {c : Nat} {l : List IdB} (h : Sl w p l.length 32 (l.flatMap bytesU)) (hl : l.length < 1000000000) :
  CallsV Tryz.prog 83 [.slice p l.length c] w fun v w' => ∃ q k, v = .slice q l.length k ∧ Own w' q l.length k 31 32 (l.flatMap bytesU) ∧ (∀ y, OwnB q y → w.heap.size ≤ y) ∧ Ext No w w' := by
 cases p with
 | none =>
  have hl0 : l = [] := by
   rcases h.2 with h0 | ⟨b, off, h1, _⟩
   ·exact List.eq_nil_of_length_eq_zero h0
   ·cases h1
  subst hl0
  exact cloneI_nil w
 | some a => exact cloneI_some w h hl
theorem cloneC_nil (w : World) {c : Nat} :
  CallsV Tryz.prog 84 [.slice none 0 c] w fun v w' => ∃ q k, v = .slice q 0 k ∧ Own w' q 0 k 102 3 [] ∧ (∀ y, OwnB q y → w.heap.size ≤ y) ∧ Ext No w w' := by
 refine calls_enter Tryz.func84 rfl rfl rfl rfl ?_
 have hX := Ext.refl No w
 refine c_seq (c_region (wl_p I_ok rfl (wl_nil (f_then (c_seq (c_seq (c_region (wl_p I_ok rfl (wl_nil (f_then (c_condT rfl (c_seq (c_region (wl_p I_ok rfl (wl_nil (f_then (c_ret (f_thenR (f_ret1 rfl rfl ?_)))))))))))))))))))
 exact ⟨none, 0, rfl, Own.nil _ _ _, fun y hy => (by cases hy), hX⟩

theorem cloneC_some (w : World) {a : Addr} {c : Nat} {l : List ChgD} (h : Sl w (some a) l.length 3 (l.flatMap ChgD.cells)) (hl : l.length < 1000000000) :
  CallsV Tryz.prog 84 [.slice (some a) l.length c] w fun v w' => ∃ q k, v = .slice q l.length k ∧ Own w' q l.length k 102 3 (l.flatMap ChgD.cells) ∧ (∀ y, OwnB q y → w.heap.size ≤ y) ∧ Ext No w w' := by
 refine calls_enter Tryz.func84 rfl rfl rfl rfl ?_
 have hX := Ext.refl No w
 refine c_seq (c_region (wl_p I_ok rfl (wl_nil (f_then (c_seq (c_seq (c_region (wl_p I_ok rfl (wl_nil (f_then (c_condF rfl (c_skip (f_then (c_seq (c_region ?_)))))))))))))))
 refine wl (st_bs I_ok rfl 3 rfl chgZ_c rfl (by decide) (by decide) trivial (l' := []) rfl fun b5 w1 hn5 hb5 hE1 hs1 => ?_)
 have hX := hX.thenNo hE1
 refine wl_p I_ok rfl ?_
 refine wl (st_app I_ok rfl 3 40 rfl rfl rfl (by decide) (Own.blk (n := 0) (c := 0) hb5 3 rfl (Nat.le_refl _) (by decide)) (Src.slice (h.extNo hX) OneC.h) (by dsimp only [maxLen]; omega) (by dsimp only; omega) fun p2 c2 w2 ho2 hE2 hB2 => ?_)
 have hX := hX.trans hE2 fun y hy hF => by have := own1 hF; omega
 have hn1 : ∀ x, OwnB p2 x → w.heap.size ≤ x := fun x hx => (hB2 x hx).elim (fun hF => by have := own1 hF; omega) fun h => by have := hE1.size; omega
 have ho1 : Own w2 p2 (0 + l.length) c2 102 3 (l.flatMap ChgD.cells) := ho2
 rw [Nat.zero_add] at ho1
 dsimp only
 rw [Nat.zero_add]
 refine wl_p I_ok rfl (wl_nil (f_then (c_ret (f_ret1 rfl rfl ?_))))
 exact ⟨_, _, rfl, ho1, hn1, hX⟩
theorem cloneC_calls (w : World) {p : Option Addr} {c : Nat} {l : List ChgD} (h : Sl w p l.length 3 (l.flatMap ChgD.cells)) (hl : l.length < 1000000000) :
  CallsV Tryz.prog 84 [.slice p l.length c] w fun v w' => ∃ q k, v = .slice q l.length k ∧ Own w' q l.length k 102 3 (l.flatMap ChgD.cells) ∧ (∀ y, OwnB q y → w.heap.size ≤ y) ∧ Ext No w w' := by
 cases p with
 | none =>
  have hl0 : l = [] := by
   rcases h.2 with h0 | ⟨b, off, h1, _⟩
   ·exact List.eq_nil_of_length_eq_zero h0
   ·cases h1
  subst hl0
  exact cloneC_nil w
 | some a => exact cloneC_some w h hl
theorem owned_calls (w : World) {x : ObjD} {a : ObjP} (hx : ObjIn x) (hxl : ObjL w x a) (hs : Short x) :
  CallsV Tryz.prog 55 [.agg (objC x a).toArray] w fun v w' => ∃ a', v = .agg (objC x a').toArray ∧ ObjNew w w' x a' ∧ Ext No w w' := by
 refine calls_enter Tryz.func55 rfl rfl rfl rfl ?_
 have hX := Ext.refl No w
 refine c_seq (c_region (wl (st_al I_ok rfl fun b1 w1 hn1 hb1 hE1 => ?_)))
 have fr1 := Nat.le_trans hX.size hn1
 have hX := hX.thenNo hE1
 have hb1 : Blk w1 b1 48 (objC x a) := hb1
 refine wl (st_al I_ok rfl fun b2 w2 hn2 hb2 hE2 => ?_)
 have ne1_2 : b1 ≠ b2 := Nat.ne_of_lt (Nat.lt_of_lt_of_le hb1.lt hn2)
 have fr2 := Nat.le_trans hX.size hn2
 have hb1 := hb1.extNo hE2
 have hX := hX.thenNo hE2
 refine wl_nil (f_then (c_seq (c_draw rfl 11 [(0, true), (1, true), (3, true), (4, true), (6, true), (7, true), (8, true), (2, false), (10, true), (5, false), (9, false)] [11, 12, 13, 14, 15, 16] (No) (by kernel_rfl) fun w3 hE3 hs3 => ?_)))
 have hd1 := hb1
 have hb1 := hb1.extNo hE3
 have hb2 := hb2.extNo hE3
 have hX := hX.thenNo hE3
 have hC : Ext (No) _ w3 := hE3.no
 refine wd_k I_ok 1 rfl (wd_ld I_ok rfl rfl (fun w' hw' => ((hd1.extNo hw').seg.obj hx).leaves) ?_)
 refine wd_k I_ok 1 rfl (wd_ld I_ok rfl rfl (fun w' hw' => ((hd1.extNo hw').seg.obj hx).parents) ?_)
 refine wd_k I_ok 2 rfl (wd_ld I_ok rfl rfl (fun w' hw' => ((hd1.extNo hw').seg.obj hx).rows) ?_)
 have hXs := hX.size
 refine wd_l rfl (st_call Tryz.call82 rfl rfl rfl rfl rfl rfl (cloneL_calls w3 (hxl.leaves.extNo hX) hs.leaves) fun v4 w4 hr4 => ⟨(by obtain ⟨qL, kL, rfl, hL, nL0, hE4⟩ := hr4; exact hC.thenNo hE4), ?_⟩)
 obtain ⟨qL, kL, rfl, hL, nL0, hE4⟩ := hr4
 have hb1 := hb1.extNo hE4
 have hb2 := hb2.extNo hE4
 have hX := hX.thenNo hE4
 have hC := hC.thenNo hE4
 have nL : ∀ y, OwnB qL y → w.heap.size ≤ y := fun y hy => Nat.le_trans hXs (nL0 y hy)
 refine wd_k I_ok 1 rfl ?_
 have hXs := hX.size
 refine wd_l rfl (st_call Tryz.call83 rfl rfl rfl rfl rfl rfl (cloneI_calls w4 (hxl.parents.extNo hX) hs.parents) fun v5 w5 hr5 => ⟨(by obtain ⟨qP, kP, rfl, hP, nP0, hE5⟩ := hr5; exact hC.thenNo hE5), ?_⟩)
 obtain ⟨qP, kP, rfl, hP, nP0, hE5⟩ := hr5
 have hb1 := hb1.extNo hE5
 have hb2 := hb2.extNo hE5
 have hL := hL.ext hE5 fun _ _ => id
 have hX := hX.thenNo hE5
 have hC := hC.thenNo hE5
 have nP : ∀ y, OwnB qP y → w.heap.size ≤ y := fun y hy => Nat.le_trans hXs (nP0 y hy)
 have hXs := hX.size
 refine wd_l rfl (st_call Tryz.call84 rfl rfl rfl rfl rfl rfl (cloneC_calls w5 (hxl.rows.extNo hX) hs.rows) fun v6 w6 hr6 => ⟨(by obtain ⟨qR, kR, rfl, hR, nR0, hE6⟩ := hr6; exact hC.thenNo hE6), ?_⟩)
 obtain ⟨qR, kR, rfl, hR, nR0, hE6⟩ := hr6
 have hb1 := hb1.extNo hE6
 have hb2 := hb2.extNo hE6
 have hL := hL.ext hE6 fun _ _ => id
 have hP := hP.ext hE6 fun _ _ => id
 have hX := hX.thenNo hE6
 have nR : ∀ y, OwnB qR y → w.heap.size ≤ y := fun y hy => Nat.le_trans hXs (nR0 y hy)
 refine wd_sw ?_
 have hb1o := hb1
 refine wb rfl (st_st I_ok hb1 rfl rfl rfl fun w7 hb1 hE7 hs7 => ?_)
 have hb2 := hb2.ext1 hE7 ne1_2.symm
 have hL := hL.extTy hE7 hb1o (by decide)
 have hP := hP.extTy hE7 hb1o (by decide)
 have hR := hR.extTy hE7 hb1o (by decide)
 have hX := hX.thenNew hE7 fr1
 have hb1 : Blk w7 b1 48 (objC x ⟨qL, kL, a.pp, a.pc, a.rp, a.rc⟩) := hb1
 refine wb rfl (st_p I_ok rfl rfl rfl ?_)
 have hb1o := hb1
 refine wb rfl (st_set I_ok hb1 rfl rfl (by rw [objC_len hx]; decide) fun w8 hb1 hE8 hs8 => ?_)
 have hb2 := hb2.ext1 hE8 ne1_2.symm
 have hL := hL.extTy hE8 hb1o (by decide)
 have hP := hP.extTy hE8 hb1o (by decide)
 have hR := hR.extTy hE8 hb1o (by decide)
 have hX := hX.thenNew hE8 fr1
 have hb1 : Blk w8 b1 48 (objC x ⟨qL, kL, qP, kP, a.rp, a.rc⟩) := (by have h : Blk _ b1 _ ((objC x ⟨qL, kL, a.pp, a.pc, a.rp, a.rc⟩).set (68 + 0) (.slice qP x.parents.length kP)) := hb1; rw [objC_parents hx] at h; exact h)
 refine wb rfl (st_p I_ok rfl rfl rfl (wb rfl (st_p I_ok rfl rfl rfl ?_)))
 have hb1o := hb1
 refine wb rfl (st_set I_ok hb1 rfl rfl (by rw [objC_len hx]; decide) fun w9 hb1 hE9 hs9 => ?_)
 have hb2 := hb2.ext1 hE9 ne1_2.symm
 have hL := hL.extTy hE9 hb1o (by decide)
 have hP := hP.extTy hE9 hb1o (by decide)
 have hR := hR.extTy hE9 hb1o (by decide)
 have hX := hX.thenNew hE9 fr1
 have hb1 : Blk w9 b1 48 (objC x ⟨qL, kL, qP, kP, qR, kR⟩) := (by have h : Blk _ b1 _ ((objC x ⟨qL, kL, qP, kP, a.rp, a.rc⟩).set (68 + 1) (.slice qR x.rows.length kR)) := hb1; rw [objC_rows hx] at h; exact h)
 refine wb_nil (f_then (c_seq (c_region (wl (st_ldB I_ok hb1 rfl (objC_len hx) ?_)))))
 have hb2o := hb2
 refine wl (st_stW (l' := objC x ⟨qL, kL, qP, kP, qR, kR⟩) I_ok hb2 rfl rfl (objC_len hx) (objC_len hx) OneC.h fun w10 hb2 hE10 hs10 => ?_)
 have hL := hL.extTy hE10 hb2o (by decide)
 have hP := hP.extTy hE10 hb2o (by decide)
 have hR := hR.extTy hE10 hb2o (by decide)
 have hX := hX.thenNew hE10 fr2
 refine wl_nil (f_then (c_ret (f_ret [_] ⟨⟨b2, 0, rfl, ld_all I_ok rfl rfl hb2.seg (objC_len hx)⟩, trivial⟩ ?_)))
 exact ⟨⟨qL, kL, qP, kP, qR, kR⟩, rfl, ⟨hL, hP, hR, nL, nP, nR⟩, hX⟩
end Go.Proofs.YtpcdihkcenfgkaaGreat
namespace Go.Vc
open Go.Proofs Go.Sort
theorem Ext.grown {w w' : World} (h : Ext No w w') : ∃ q os', w' = grow (w.drewN q) os' := by
 refine ⟨w'.drawn - w.drawn, w'.heap.extract w.heap.size w'.heap.size, ?_⟩
 have hh : w'.heap = w.heap ++ w'.heap.extract w.heap.size w'.heap.size := by
  apply Array.ext_getElem?
  intro i
  rcases Nat.lt_or_ge i w.heap.size with hi | hi
  ·rw [Array.getElem?_append_left hi, h.same i hi id]
  ·rw [Array.getElem?_append_right hi, Array.getElem?_extract]
   have := h.size
   split
   ·rw [show w.heap.size + (i - w.heap.size) = i from by omega]
   ·rw [Array.getElem?_eq_none (by omega)]
 have h1 := h.os
 have h2 := h.tape
 have h3 := h.output
 have h4 := h.drawn
 cases w
 cases w'
 dsimp only at hh h1 h2 h3 h4
 subst h1 h2 h3
 unfold grow World.drewN
 simp only [World.mk.injEq, true_and, and_true]
 exact ⟨hh, by omega⟩
theorem flat_get {α : Type} {enc : α → List Value} {k : Nat} (hk : 0 < k) : ∀ (L : List α) (t : Nat), (∀ x ∈ L, (enc x).length = k) → (L.flatMap enc)[t]? = (L[t / k]?).bind fun x => (enc x)[t % k]?
 | [], t, _ => by simp
 | a :: L, t, h => by
  have ha := h a List.mem_cons_self
  rw [List.flatMap_cons]
  rcases Nat.lt_or_ge t k with ht | ht
  ·rw [List.getElem?_append_left (by omega), Nat.div_eq_of_lt ht, Nat.mod_eq_of_lt ht]
   rfl
  ·rw [List.getElem?_append_right (by omega), ha, flat_get hk L (t - k) fun x hx => h x (List.mem_cons_of_mem _ hx)]
   have e1 : t / k = (t - k) / k + 1 := by rw [Nat.div_eq_sub_div hk ht]
   have e2 : t % k = (t - k) % k := Nat.mod_eq_sub_mod ht
   rw [e1, e2, List.getElem?_cons_succ]
section
variable {α : Type} [Inhabited α] {enc : α → List Value} {k : Nat}
theorem flatK_list (hk : 0 < k) (hl : ∀ x, (enc x).length = k) (d : Array α) : (flatK enc k d).toList = d.toList.flatMap enc := by
 apply List.ext_getElem?
 intro t
 rw [flat_get hk _ _ fun x _ => hl x]
 rcases Nat.lt_or_ge t (d.size * k) with ht | ht
 ·have hd : t / k < d.size := (Nat.div_lt_iff_lt_mul hk).2 ht
  have hm : t % k < k := Nat.mod_lt _ hk
  rw [Array.getElem?_toList, Array.getElem?_toList, Array.getElem?_eq_getElem hd]
  have h1 := get_flatK enc k d t ht
  rw [getElem!_pos _ t (by simpa using ht), getElem!_pos d _ hd] at h1
  rw [Array.getElem?_eq_getElem (by simpa using ht), h1]
  have hx : t % k < (enc d[t / k]).length := by rw [hl]; exact hm
  rw [getElem!_pos (enc d[t / k]) (t % k) hx]
  simp [List.getElem?_eq_getElem hx]
 ·rw [List.getElem?_eq_none (by simpa using ht)]
  rw [List.getElem?_eq_none (by rw [Array.length_toList]; exact (Nat.le_div_iff_mul_le hk).2 ht)]
  rfl
theorem putCells_list {F c : Array Value} (h : F.size ≤ c.size) : (putCells id 0 F c).toList = F.toList ++ c.toList.drop F.size := by
 apply List.ext_getElem?
 intro t
 rw [Array.getElem?_toList]
 unfold putCells
 rw [Array.getElem?_mapIdx]
 rcases Nat.lt_or_ge t F.size with ht | ht
 ·rw [List.getElem?_append_left (by simpa using ht), Array.getElem?_eq_getElem (show t < c.size by omega)]
  simp [ht]
 ·rw [List.getElem?_append_right (by simpa using ht), List.getElem?_drop, Array.length_toList, Array.getElem?_toList, show F.size + (t - F.size) = t from by omega]
  cases c[t]? with
  | none => rfl
  | some v => simp [Nat.not_lt.2 ht]
theorem sortK_ext {w : World} {b T m : Nat} {lc : List Value} (hb : Blk w b T lc) (d : Array α) (os : Array Obj) (hd : d.size * k ≤ lc.length) (hk : 0 < k) (hl : ∀ x, (enc x).length = k) :
  Ext (One b) w (sortWorldK enc k w b 0 m d os) ∧ Blk (sortWorldK enc k w b 0 m d os) b T (d.toList.flatMap enc ++ lc.drop (d.size * k)) := by
 have hlt := hb.lt
 unfold sortWorldK putRowK putRow mapBlock grow Go.Sort.ahead
 refine ⟨⟨rfl, rfl, rfl, by simp, fun x hx hS => ?_, by show w.drawn ≤ w.drawn + m; omega⟩, ?_⟩
 ·show (_ ++ os)[x]? = _
  rw [Array.getElem?_append_left (by simpa using hx), Array.getElem?_modify, if_neg (fun e => hS e.symm)]
 ·unfold Blk at hb ⊢
  show (_ ++ os)[b]? = _
  rw [Array.getElem?_append_left (by simpa using hlt), Array.getElem?_modify, if_pos rfl, hb]
  simp only [Option.map_some, onCells]
  congr 2
  apply Array.ext'
  rw [putCells_list (by rw [size_flatK]; simpa using hd), flatK_list hk hl, size_flatK]
end
end Go.Vc
namespace Go.Vc
open Go.Proofs Go.Shelf Go.Sort
abbrev Id32 := { l : List UInt8 // l.length = 32 }
instance : Inhabited Id32 := ⟨⟨List.replicate 32 0, List.length_replicate⟩⟩
abbrev encI (x : Id32) : List Value := bytesU x.1
theorem encI_len (x : Id32) : (encI x).length = 32 := by rw [encI, bytesU_len, x.2]
theorem sort_ids {P : Program} {ρ : Ren} (L : SlLaysF0.n6 P ρ) (aE : ∀ w, (isAgg (ρ.t 24)).run P w = .ok true w) (zE : ∀ w, (Go.sizeOf (ρ.t 24)).run P w = .ok 32 w) {g : Nat} {cb : Array Value} (eg : ∀ args w, (callFunc g args).run P w = .ok (.enter g args) w)
  (cf : List UInt8 → List UInt8 → Int) (hO : SWO (ltOf fun x y : Id32 => cf x.1 y.1)) {w : World} {q : Option Addr} {c T : Nat} {ids : List (List UInt8)} (hq : Own w q ids.length c T 32 (ids.flatMap bytesU)) (hi : ∀ x ∈ ids, x.length = 32) (hn : ids.length < 1000000000)
  (hcmp : ∀ W, Ext (OwnB q) w W → ∀ x y, x.length = 32 → y.length = 32 → CallsV P g (.agg (bytesU x).toArray :: .agg (bytesU y).toArray :: cb.toList) W fun v w' => v = .int .i64 (cf x y) ∧ Ext No W w') :
  CallsV P (ρ.f 6) [.slice q ids.length c, .func (.func g) #[] cb] w fun v w' => v = .tuple #[] ∧ ∃ ids' : List (List UInt8), ids'.Perm ids ∧ ids'.Pairwise (fun a b => ¬ cf b a < 0) ∧ Own w' q ids.length c T 32 (ids'.flatMap bytesU) ∧ Ext (OwnB q) w w' := by
 rcases hq with ⟨rfl, h0, rfl, hx⟩ | ⟨b, lc, rfl, hb, hlc, hnc, hcm, htk⟩
 ·have hnil : ids = [] := List.eq_nil_of_length_eq_zero h0
  subst hnil
  refine Calls.mono (AnyF.slices_SortFunc_none L none 0 (.func (.func g) #[] cb) w) ?_
  rintro e w' ⟨rfl, rfl⟩
  exact ⟨rfl, [], List.Perm.refl _, List.Pairwise.nil, Own.nil _ _ _, Ext.refl _ _⟩
 ·obtain ⟨d, hd⟩ : ∃ d : Array Id32, d.toList.map Subtype.val = ids := ⟨(ids.attach.map fun x => (⟨x.1, hi x.1 x.2⟩ : Id32)).toArray, by simp [List.map_attach_eq_pmap]⟩
  have hds : d.size = ids.length := by rw [← hd]; simp
  have hfl : ∀ e : Array Id32, e.toList.flatMap encI = (e.toList.map Subtype.val).flatMap bytesU := fun e => by rw [List.flatMap_map]
  have hroom : d.size * 32 ≤ lc.length := by rw [hlc, hds]; exact Nat.mul_le_mul_right _ hnc
  have hF : (flatK encI 32 d).toList = lc.take (ids.length * 32) := by rw [flatK_list (by decide) encI_len, hfl, hd, htk]
  have hH : HoldsK encI 32 w b 0 d := fun j hj => by
   refine ⟨?_, hb.free _ rfl⟩
   rw [Nat.zero_add]
   refine hb.cell ?_
   have h1 : (flatK encI 32 d).toList[j]? = some (flatK encI 32 d)[j]! := by
    rw [Array.getElem?_toList, Array.getElem?_eq_getElem hj, getElem!_pos _ j hj]
   rw [hF, List.getElem?_take] at h1
   rw [size_flatK, hds] at hj
   rw [if_pos hj] at h1
   exact h1
  have hcl : CmpLays P g cb encI 32 (fun x y : Id32 => cf x.1 y.1) b 0 d.size w := fun m os dk hs x y => by
   have hE := (sortK_ext (m := m) hb dk os (by rw [hs]; exact hroom) (by decide) encI_len).1
   have h := hcmp _ (hE.mono fun z _ e => by have e : z = b := e; rw [e]) x.1 y.1 x.2 y.2
   unfold CallsV at h
   have ea : (.agg (bytesU x.1).toArray :: .agg (bytesU y.1).toArray :: cb.toList : List Value).toArray = #[.agg (encI x).toArray, .agg (encI y).toArray] ++ cb := by apply Array.ext'; simp
   rw [ea] at h
   refine h.mono ?_
   rintro e w' he
   cases e with
   | returned v =>
    obtain ⟨rfl, hE2⟩ := he
    exact ⟨rfl, hE2.grown⟩
   | panicked _ => exact he.elim
   | outgrown => exact he.elim
  refine Calls.mono (by
   have := AnyQ.slices_SortFunc L 32 aE zE encI encI_len (fun x v hv => by obtain ⟨z, _, rfl⟩ := List.mem_map.1 hv; rfl) (fun x y : Id32 => cf x.1 y.1) hO g cb b 0 c d w eg hcl hH hb.lt (by omega)
   rw [hds] at this
   exact this) ?_
  rintro e w' ⟨rfl, d', m, os, ⟨hp1, _, hp3⟩, hs, rfl⟩
  have hd1 : d'.size = ids.length := hp1.trans hds
  have hpm : d'.toList.Perm d.toList := by
   have e1 : d'.extract 0 d.size = d' := by rw [← hp1]; simp
   have e2 : d.extract 0 d.size = d := by simp
   rw [hds] at e1 e2
   rw [e1, e2] at hp3
   exact hp3
  obtain ⟨hE, hB⟩ := sortK_ext (m := m) hb d' os (by rw [hp1]; exact hroom) (by decide) encI_len
  refine ⟨rfl, d'.toList.map Subtype.val, hd ▸ hpm.map _, ?_, ?_, hE.mono fun z _ e => by have e : z = b := e; rw [e]⟩
  ·rw [List.pairwise_map, List.pairwise_iff_getElem]
   intro i j hi' hj' hij
   have hi2 : i < d'.size := by simpa using hi'
   have hj2 : j < d'.size := by simpa using hj'
   have := hs i j (Nat.zero_le _) hij (by rw [← hd1]; exact hj2)
   rw [getElem!_pos d' i hi2, getElem!_pos d' j hj2] at this
   simpa [ltOf] using this
  ·refine .inr ⟨b, _, rfl, hB, ?_, hnc, hcm, ?_⟩
   ·rw [List.length_append, List.length_drop, hfl, flat_len (n := 32) (fun r hr => by obtain ⟨z, _, rfl⟩ := List.mem_map.1 hr; exact encI_len z), List.length_map, Array.length_toList, hd1, hlc]
    have := Nat.mul_le_mul_right 32 hnc
    omega
   ·rw [hfl, List.take_left']
    rw [flat_len (n := 32) (fun r hr => by obtain ⟨z, _, rfl⟩ := List.mem_map.1 hr; exact encI_len z), List.length_map, Array.length_toList, hd1]
end Go.Vc
namespace Go.Proofs
set_option maxRecDepth 100000
def Tryz.sortI_ren : Go.Shelf.Ren := ⟨fun | 6 => 34 | 15 => 70 | 14 => 69 | 28 => 102 | 29 => 103 | 20 => 94 | 21 => 95 | 22 => 96 | 23 => 97 | 24 => 98 | 25 => 99 | 26 => 100 | 27 => 101 | 46 => 121 | 47 => 122 | 48 => 123 | 49 => 124 | 50 => 125 | 57 => 137 | n => n, fun | 22 => 27 | 24 => 31 | 25 => 93 | 3 => 3 | 39 => 85 | 0 => 0 | 53 => 46 | 55 => 115 | 4 => 4 | 46 => 154 | 45 => 153 | 50 => 158 | 5 => 5 | 9 => 9 | 66 => 175 | 70 => 179 | 76 => 193 | 77 => 194 | n => n, fun | n => n⟩
theorem Tryz.sortI : Go.Proofs.SlLaysF0.n6 Tryz.prog Tryz.sortI_ren := {
 mixed := by kernel_rfl
 f6 := ⟨Tryz.f34.name, by decide, Tryz.func34.trans (congrArg some (by kernel_rfl))⟩
 f14 := ⟨Tryz.f69.name, by decide, Tryz.func69.trans (congrArg some (by kernel_rfl))⟩
 f15 := Tryz.func70.trans (congrArg some (by kernel_rfl))
 f20 := ⟨Tryz.f94.name, by decide, Tryz.func94.trans (congrArg some (by kernel_rfl))⟩
 f21 := ⟨Tryz.f95.name, by decide, Tryz.func95.trans (congrArg some (by kernel_rfl))⟩
 f22 := ⟨Tryz.f96.name, by decide, Tryz.func96.trans (congrArg some (by kernel_rfl))⟩
 f23 := ⟨Tryz.f97.name, by decide, Tryz.func97.trans (congrArg some (by kernel_rfl))⟩
 f24 := ⟨Tryz.f98.name, by decide, Tryz.func98.trans (congrArg some (by kernel_rfl))⟩
 f25 := ⟨Tryz.f99.name, by decide, Tryz.func99.trans (congrArg some (by kernel_rfl))⟩
 f26 := ⟨Tryz.f100.name, by decide, Tryz.func100.trans (congrArg some (by kernel_rfl))⟩
 f27 := ⟨Tryz.f101.name, by decide, Tryz.func101.trans (congrArg some (by kernel_rfl))⟩
 f28 := Tryz.func102.trans (congrArg some (by kernel_rfl))
 f29 := Tryz.func103.trans (congrArg some (by kernel_rfl))
 f46 := ⟨Tryz.f121.name, by decide, Tryz.func121.trans (congrArg some (by kernel_rfl))⟩
 f47 := Tryz.func122.trans (congrArg some (by kernel_rfl))
 f48 := Tryz.func123.trans (congrArg some (by kernel_rfl))
 f49 := ⟨Tryz.f124.name, by decide, Tryz.func124.trans (congrArg some (by kernel_rfl))⟩
 f50 := ⟨Tryz.f125.name, by decide, Tryz.func125.trans (congrArg some (by kernel_rfl))⟩
 f57 := ⟨Tryz.f137.name, by decide, Tryz.func137.trans (congrArg some (by kernel_rfl))⟩
 t0 := Tryz.underlying0
 a0 := Tryz.isAgg0
 z0 := Tryz.sizeOf0
 v0 := Tryz.zeroValue0
 t3 := Tryz.underlying3
 a3 := Tryz.isAgg3
 z3 := Tryz.sizeOf3
 v3 := Tryz.zeroValue3
 t4 := Tryz.underlying4
 a4 := Tryz.isAgg4
 z4 := Tryz.sizeOf4
 v4 := Tryz.zeroValue4
 t5 := Tryz.underlying5
 a5 := Tryz.isAgg5
 z5 := Tryz.sizeOf5
 v5 := Tryz.zeroValue5
 t9 := Tryz.underlying9
 a9 := Tryz.isAgg9
 z9 := Tryz.sizeOf9
 v9 := Tryz.zeroValue9
 t22 := Tryz.underlying27
 a22 := Tryz.isAgg27
 z22 := Tryz.sizeOf27
 v22 := Tryz.zeroValue27
 t25 := Tryz.underlying93
 a25 := Tryz.isAgg93
 z25 := Tryz.sizeOf93
 v25 := Tryz.zeroValue93
 t39 := Tryz.underlying85
 a39 := Tryz.isAgg85
 z39 := Tryz.sizeOf85
 v39 := Tryz.zeroValue85
 t45 := Tryz.underlying153
 a45 := Tryz.isAgg153
 z45 := Tryz.sizeOf153
 v45 := Tryz.zeroValue153
 t46 := Tryz.underlying154
 a46 := Tryz.isAgg154
 z46 := Tryz.sizeOf154
 v46 := Tryz.zeroValue154
 t50 := Tryz.underlying158
 a50 := Tryz.isAgg158
 z50 := Tryz.sizeOf158
 v50 := Tryz.zeroValue158
 t53 := Tryz.underlying46
 a53 := Tryz.isAgg46
 z53 := Tryz.sizeOf46
 v53 := Tryz.zeroValue46
 t55 := Tryz.underlying115
 a55 := Tryz.isAgg115
 z55 := Tryz.sizeOf115
 v55 := Tryz.zeroValue115
 t66 := Tryz.underlying175
 a66 := Tryz.isAgg175
 z66 := Tryz.sizeOf175
 v66 := Tryz.zeroValue175
 t70 := Tryz.underlying179
 a70 := Tryz.isAgg179
 z70 := Tryz.sizeOf179
 v70 := Tryz.zeroValue179
 t76 := Tryz.underlying193
 a76 := Tryz.isAgg193
 z76 := Tryz.sizeOf193
 v76 := Tryz.zeroValue193
 t77 := Tryz.underlying194
 a77 := Tryz.isAgg194
 z77 := Tryz.sizeOf194
 v77 := Tryz.zeroValue194 }
end Go.Proofs
namespace Go.Proofs.YtpcdihkcenfgkaaGreat
open Go.Vc Go.Sort
theorem sortI_calls {g : Nat} {cb : Array Value} (eg : ∀ args w, (callFunc g args).run Tryz.prog w = .ok (.enter g args) w)
  (cf : IdB → IdB → Int) (hO : SWO (ltOf fun x y : Id32 => cf x.1 y.1)) {w : World} {q : Option Addr} {c : Nat} {ids : List IdB} (hq : Own w q ids.length c 31 32 (ids.flatMap bytesU)) (hi : ∀ x ∈ ids, x.length = 32) (hn : ids.length < 1000000000)
  (hcmp : ∀ W, Ext (OwnB q) w W → ∀ x y, x.length = 32 → y.length = 32 → CallsV Tryz.prog g (.agg (bytesU x).toArray :: .agg (bytesU y).toArray :: cb.toList) W fun v w' => v = .int .i64 (cf x y) ∧ Ext No W w') :
  CallsV Tryz.prog 34 [.slice q ids.length c, .func (.func g) #[] cb] w fun v w' => v = .tuple #[] ∧ ∃ ids' : List IdB, ids'.Perm ids ∧ ids'.Pairwise (fun a b => ¬ cf b a < 0) ∧ Own w' q ids.length c 31 32 (ids'.flatMap bytesU) ∧ Ext (OwnB q) w w' :=
 sort_ids Tryz.sortI Tryz.isAgg31 Tryz.sizeOf31 eg cf hO hq hi hn hcmp
/-- what stands ahead -/
def aheadN (n : IdB → Nat) (x y : IdB) : Prop := n y < n x ∨ n x = n y ∧ idLt x y
theorem aheadN_swo (n : IdB → Nat) {cf : IdB → IdB → Int} (h : ∀ x y, cf x y < 0 ↔ aheadN n x y) : SWO (ltOf fun x y : Id32 => cf x.1 y.1) := by
 have hl : ∀ x y : Id32, ltOf (fun x y : Id32 => cf x.1 y.1) x y = true ↔ aheadN n x.1 y.1 := fun x y => by
  unfold ltOf
  rw [decide_eq_true_eq]
  exact h _ _
 have hf : ∀ x y : Id32, ltOf (fun x y : Id32 => cf x.1 y.1) x y = false ↔ ¬ aheadN n x.1 y.1 := fun x y => by
  rw [← hl]; cases ltOf (fun x y : Id32 => cf x.1 y.1) x y <;> simp
 refine ⟨fun x => (hf x x).2 fun k => ?_, fun x y z h1 h2 => ?_, fun x y z h1 h2 => ?_⟩
 ·rcases k with k | k
  ·omega
  ·exact idLt_irrefl _ k.2
 ·rw [hl] at h1 h2 ⊢
  rcases h1 with h1 | ⟨h1, h1'⟩ <;> rcases h2 with h2 | ⟨h2, h2'⟩
  ·exact .inl (by omega)
  ·exact .inl (by omega)
  ·exact .inl (by omega)
  ·exact .inr ⟨by omega, idLt_trans h1' h2'⟩
 ·rw [hf] at h1 h2 ⊢
  rintro (k | ⟨k, k'⟩)
  ·have a1 : ¬ n y.1 < n x.1 := fun e => h1 (.inl e)
   have a2 : ¬ n z.1 < n y.1 := fun e => h2 (.inl e)
   omega
  ·have a1 : ¬ n y.1 < n x.1 := fun e => h1 (.inl e)
   have a2 : ¬ n z.1 < n y.1 := fun e => h2 (.inl e)
   have e1 : n x.1 = n y.1 := by omega
   have e2 : n y.1 = n z.1 := by omega
   have b1 : ¬ idLt x.1 y.1 := fun e => h1 (.inr ⟨e1, e⟩)
   have b2 : ¬ idLt y.1 z.1 := fun e => h2 (.inr ⟨e2, e⟩)
   rcases idLt_total x.1 y.1 with c1 | c1 | c1
   ·exact b1 c1
   ·rw [c1] at k'; exact b2 k'
   ·rcases idLt_total y.1 z.1 with c2 | c2 | c2
    ·exact b2 c2
    ·rw [← c2] at k'; exact b1 k'
    ·exact idLt_asymm k' (idLt_trans c2 c1)
end Go.Proofs.YtpcdihkcenfgkaaGreat
namespace Go.Proofs.YtpcdihkcenfgkaaGreat
open Go.Vc
theorem iterB_nodup {β : Type} {w : World} {it m N : Nat} {enc : β → Value} {g : List UInt8 → Option β} {done : List (List UInt8)} (h : IterB w it m enc g N done) : done.Nodup := by
 obtain ⟨es, c, s, se, la, h1, h2, a1, a2, a3, a4, a5, a6, a7, b1, _⟩ := h
 exact b1
end Go.Proofs.YtpcdihkcenfgkaaGreat
namespace Go.Proofs.YtpcdihkcenfgkaaGreat
open Go.Vc
end Go.Proofs.YtpcdihkcenfgkaaGreat
namespace Go.Proofs.YtpcdihkcenfgkaaGreat
open Go.Vc
theorem getD_calls (w : World) {p : Option Addr} {c : Nat} {l : List HeldT} {x : IdB} (h : HpIn w p l) (hx : IdIn x) :
  CallsV Tryz.prog 20 [.agg #[.slice p l.length c], .agg (bytesU x).toArray] w fun v w' => ∃ a', v = .tuple #[.agg (objC ((toHp l).obj x) a').toArray, .int .i64 ((toHp l).err x)] ∧ ObjNew w w' ((toHp l).obj x) a' ∧ Ext No w w' := by
 have hoi := h.objIn x
 refine calls_enter Tryz.func20 rfl rfl rfl rfl ?_
 have hX := Ext.refl No w
 refine c_seq (c_region (wl (st_al I_ok rfl fun b2 w1 hn2 hb2 hE1 => ?_)))
 have hX := hX.thenNo hE1
 have hb2 : Blk w1 b2 26 ([.slice p l.length c]) := hb2
 refine wl (st_al I_ok rfl fun b3 w2 hn3 hb3 hE2 => ?_)
 have hb2 := hb2.extNo hE2
 have hX := hX.thenNo hE2
 have hb3 : Blk w2 b3 31 (bytesU x) := hb3
 refine wl (st_al I_ok rfl fun b4 w3 hn4 hb4 hE3 => ?_)
 have fr4 := Nat.le_trans hX.size hn4
 have hb2 := hb2.extNo hE3
 have hb3 := hb3.extNo hE3
 have hX := hX.thenNo hE3
 refine wl_p I_ok rfl (wl_nil (f_then ?_))
 have hltc2 := hb2.lt
 have hltc3 := hb3.lt
 have hltc4 := hb4.lt
 have hszc := hX.size
 refine c_cutK (α := (Unit) × Nat) [4] rfl (fun z => [(6, .pointer (some ⟨z.2, 0, none⟩)), (7, .int .i64 ((toHp l).err x))]) (fun z u => (True) ∧ Blk u b2 26 ([.slice p l.length c]) ∧ Blk u b3 31 (bytesU x) ∧ Blk u b4 48 (cellsOf ti48.zero) ∧ Blk u z.2 48 (objC ((toHp l).obj x) (objP l x)) ∧ w3.heap.size ≤ z.2 ∧ Ext No w u) ?_ ?_
 ·have hQ := Nat.le_refl w3.heap.size
  refine c_drawX rfl 9 9 [9] (No) (by kernel_rfl) fun w4 hE4 hs4 => ?_
  have hd2 := hb2
  have hd3 := hb3
  have hb2 := hb2.extNo hE4
  have hb3 := hb3.extNo hE4
  have hb4 := hb4.extNo hE4
  have hQ := Nat.le_trans hQ hE4.size
  have hX := hX.thenNo hE4
  have hC : Ext No _ w4 := hE4
  refine wx_plan [(0, true), (2, true)] 7 rfl (by kernel_rfl) (wd_ldN I_ok rfl rfl (fun w' hw' => (hd2.extNo hw').seg) rfl ?_)
  refine wd_ldN I_ok rfl rfl (fun w' hw' => (hd3.extNo hw').seg) hx.len ?_
  refine wd_tail rfl (wx_alt [1, 7] rfl (by kernel_rfl) ⟨⟨_, rfl, ?_⟩, ⟨_, rfl, ?_⟩, trivial⟩)
  ·refine st_call Tryz.call48 rfl rfl rfl rfl rfl rfl (readBk_calls w4 (h.extNo hX)) fun v5 w5 hr5 => ⟨(by obtain ⟨r, rfl, hrn, hM, hE5⟩ := hr5; exact hC.thenNo hE5), ?_⟩
   obtain ⟨r, rfl, hrn, hM, hE5⟩ := hr5
   have hb2 := hb2.extNo hE5
   have hb3 := hb3.extNo hE5
   have hb4 := hb4.extNo hE5
   have hQ := Nat.le_trans hQ hE5.size
   have hX := hX.thenNo hE5
   have hC := hC.thenNo hE5
   refine wx_plan [] 6 rfl (by kernel_rfl) (wd_tail rfl (wx_alt [3, 7] rfl (by kernel_rfl) ⟨⟨_, rfl, ?_⟩, ⟨_, rfl, ?_⟩, trivial⟩))
   ·refine st_call Tryz.call54 rfl rfl rfl rfl rfl rfl (getB_calls w5 ⟨h.extNo hX, hM⟩ hx) fun v6 w6 hr6 => ⟨(by obtain ⟨rfl, hE6⟩ := hr6; exact hC.thenNo hE6), ?_⟩
    obtain ⟨rfl, hE6⟩ := hr6
    have hb2 := hb2.extNo hE6
    have hb3 := hb3.extNo hE6
    have hb4 := hb4.extNo hE6
    have hQ := Nat.le_trans hQ hE6.size
    have hX := hX.thenNo hE6
    have hC := hC.thenNo hE6
    refine wx_plan [(4, true), (5, true), (6, true), (7, false), (8, false)] 0 rfl (by kernel_rfl) (wd_k I_ok 3 rfl (wd_l rfl (st_al I_ok rfl fun b6 w7 hn6 hb6 hE7 => ⟨hC.thenNo hE7, ?_⟩)))
    have ne2_6 : b2 ≠ b6 := Nat.ne_of_lt (Nat.lt_of_lt_of_le hb2.lt hn6)
    have ne3_6 : b3 ≠ b6 := Nat.ne_of_lt (Nat.lt_of_lt_of_le hb3.lt hn6)
    have ne4_6 : b4 ≠ b6 := Nat.ne_of_lt (Nat.lt_of_lt_of_le hb4.lt hn6)
    have fr6 := Nat.le_trans hX.size hn6
    have frhQ6 := Nat.le_trans hQ hn6
    have frhC6 := Nat.le_trans hC.size hn6
    have hb2 := hb2.extNo hE7
    have hb3 := hb3.extNo hE7
    have hb4 := hb4.extNo hE7
    have hQ := Nat.le_trans hQ hE7.size
    have hX := hX.thenNo hE7
    have hC := hC.thenNo hE7
    refine wd_l rfl (st_stW (l' := objC ((toHp l).obj x) (objP l x)) I_ok hb6 rfl rfl (objC_len hoi) (by rw [objC_len hoi]; rfl) OneC.h fun w8 hb6 hE8 hs8 => ⟨hC.thenNew hE8 frhC6, ?_⟩)
    have hb2 := hb2.ext1 hE8 ne2_6
    have hb3 := hb3.ext1 hE8 ne3_6
    have hb4 := hb4.ext1 hE8 ne4_6
    have hQ := Nat.le_trans hQ hE8.size
    have hX := hX.thenNew hE8 fr6
    refine wd_sw (wb rfl (st_p I_ok rfl rfl rfl (wb_nil ?_)))
    exact f_cut ((()), b6) rfl ⟨trivial, hb2, hb3, hb4, hb6, frhQ6, hX⟩
   ·refine st_al I_ok rfl fun b6 w9 hn6 hb6 hE9 => ⟨hC.thenNo hE9, ?_⟩
    have ne2_6 : b2 ≠ b6 := Nat.ne_of_lt (Nat.lt_of_lt_of_le hb2.lt hn6)
    have ne3_6 : b3 ≠ b6 := Nat.ne_of_lt (Nat.lt_of_lt_of_le hb3.lt hn6)
    have ne4_6 : b4 ≠ b6 := Nat.ne_of_lt (Nat.lt_of_lt_of_le hb4.lt hn6)
    have fr6 := Nat.le_trans hX.size hn6
    have frhQ6 := Nat.le_trans hQ hn6
    have frhC6 := Nat.le_trans hC.size hn6
    have hb2 := hb2.extNo hE9
    have hb3 := hb3.extNo hE9
    have hb4 := hb4.extNo hE9
    have hM := hM.extNo hE9
    have hQ := Nat.le_trans hQ hE9.size
    have hX := hX.thenNo hE9
    have hC := hC.thenNo hE9
    refine wx_plan [(3, false), (4, true), (5, true), (6, true), (8, false)] 0 rfl (by kernel_rfl) ?_
    refine wd_l rfl (st_call Tryz.call54 rfl rfl rfl rfl rfl rfl (getB_calls w9 ⟨h.extNo hX, hM⟩ hx) fun v10 w10 hr10 => ⟨(by obtain ⟨rfl, hE10⟩ := hr10; exact hC.thenNo hE10), ?_⟩)
    obtain ⟨rfl, hE10⟩ := hr10
    have hb2 := hb2.extNo hE10
    have hb3 := hb3.extNo hE10
    have hb4 := hb4.extNo hE10
    have hb6 := hb6.extNo hE10
    have hQ := Nat.le_trans hQ hE10.size
    have hX := hX.thenNo hE10
    have hC := hC.thenNo hE10
    refine wd_k I_ok 3 rfl ?_
    refine wd_l rfl (st_stW (l' := objC ((toHp l).obj x) (objP l x)) I_ok hb6 rfl rfl (objC_len hoi) (by rw [objC_len hoi]; rfl) OneC.h fun w11 hb6 hE11 hs11 => ⟨hC.thenNew hE11 frhC6, ?_⟩)
    have hb2 := hb2.ext1 hE11 ne2_6
    have hb3 := hb3.ext1 hE11 ne3_6
    have hb4 := hb4.ext1 hE11 ne4_6
    have hQ := Nat.le_trans hQ hE11.size
    have hX := hX.thenNew hE11 fr6
    refine wd_sw (wb rfl (st_p I_ok rfl rfl rfl (wb_nil ?_)))
    exact f_cut ((()), b6) rfl ⟨trivial, hb2, hb3, hb4, hb6, frhQ6, hX⟩
  ·refine st_al I_ok rfl fun b6 w12 hn6 hb6 hE12 => ⟨hC.thenNo hE12, ?_⟩
   have ne2_6 : b2 ≠ b6 := Nat.ne_of_lt (Nat.lt_of_lt_of_le hb2.lt hn6)
   have ne3_6 : b3 ≠ b6 := Nat.ne_of_lt (Nat.lt_of_lt_of_le hb3.lt hn6)
   have ne4_6 : b4 ≠ b6 := Nat.ne_of_lt (Nat.lt_of_lt_of_le hb4.lt hn6)
   have fr6 := Nat.le_trans hX.size hn6
   have frhQ6 := Nat.le_trans hQ hn6
   have frhC6 := Nat.le_trans hC.size hn6
   have hb2 := hb2.extNo hE12
   have hb3 := hb3.extNo hE12
   have hb4 := hb4.extNo hE12
   have hQ := Nat.le_trans hQ hE12.size
   have hX := hX.thenNo hE12
   have hC := hC.thenNo hE12
   refine wx_plan [(1, false), (3, false), (4, true), (5, true), (6, true), (8, false)] 0 rfl (by kernel_rfl) ?_
   refine wd_l rfl (st_call Tryz.call48 rfl rfl rfl rfl rfl rfl (readBk_calls w12 (h.extNo hX)) fun v13 w13 hr13 => ⟨(by obtain ⟨r, rfl, hrn, hM, hE13⟩ := hr13; exact hC.thenNo hE13), ?_⟩)
   obtain ⟨r, rfl, hrn, hM, hE13⟩ := hr13
   have hb2 := hb2.extNo hE13
   have hb3 := hb3.extNo hE13
   have hb4 := hb4.extNo hE13
   have hb6 := hb6.extNo hE13
   have hQ := Nat.le_trans hQ hE13.size
   have hX := hX.thenNo hE13
   have hC := hC.thenNo hE13
   refine wd_l rfl (st_call Tryz.call54 rfl rfl rfl rfl rfl rfl (getB_calls w13 ⟨h.extNo hX, hM⟩ hx) fun v14 w14 hr14 => ⟨(by obtain ⟨rfl, hE14⟩ := hr14; exact hC.thenNo hE14), ?_⟩)
   obtain ⟨rfl, hE14⟩ := hr14
   have hb2 := hb2.extNo hE14
   have hb3 := hb3.extNo hE14
   have hb4 := hb4.extNo hE14
   have hb6 := hb6.extNo hE14
   have hQ := Nat.le_trans hQ hE14.size
   have hX := hX.thenNo hE14
   have hC := hC.thenNo hE14
   refine wd_k I_ok 3 rfl ?_
   refine wd_l rfl (st_stW (l' := objC ((toHp l).obj x) (objP l x)) I_ok hb6 rfl rfl (objC_len hoi) (by rw [objC_len hoi]; rfl) OneC.h fun w15 hb6 hE15 hs15 => ⟨hC.thenNew hE15 frhC6, ?_⟩)
   have hb2 := hb2.ext1 hE15 ne2_6
   have hb3 := hb3.ext1 hE15 ne3_6
   have hb4 := hb4.ext1 hE15 ne4_6
   have hQ := Nat.le_trans hQ hE15.size
   have hX := hX.thenNew hE15 fr6
   refine wd_sw (wb rfl (st_p I_ok rfl rfl rfl (wb_nil ?_)))
   exact f_cut ((()), b6) rfl ⟨trivial, hb2, hb3, hb4, hb6, frhQ6, hX⟩
 rintro ⟨_, b6⟩ w16 ⟨_, hb2, hb3, hb4, hb6, hn6, hX⟩
 try dsimp only
 dsimp only at hb6 hn6
 refine c_seq (c_region (wl (st_ldB I_ok hb6 rfl (objC_len hoi) ?_)))
 have hXs := hX.size
 refine wl (st_call Tryz.call55 rfl rfl rfl rfl rfl rfl (owned_calls w16 hoi ((h.objL x).extNo hX) (h.objSh x)) fun v17 w17 hr17 => ?_)
 obtain ⟨a2, rfl, hN0, hE17⟩ := hr17
 have hb4 := hb4.extNo hE17
 have hX := hX.thenNo hE17
 have hN := hN0.older hXs
 refine wl_p I_ok rfl ?_
 have hb4o := hb4
 refine wl (st_stW (l' := objC ((toHp l).obj x) a2) I_ok hb4 rfl rfl (objC_len hoi) (by rw [objC_len hoi]; rfl) OneC.h fun w18 hb4 hE18 hs18 => ?_)
 have hN := hN.ext1 hE18 hb4o (by decide) (by decide) (by decide)
 have hX := hX.thenNew hE18 fr4
 refine wl_p I_ok rfl (wl_nil (f_then (c_ret (f_ret [_, _] ⟨⟨b4, 0, rfl, ld_all I_ok rfl rfl hb4.seg (by rw [objC_len hoi]; rfl)⟩, rfl, trivial⟩ ?_))))
 exact ⟨a2, rfl, hN, hX⟩


end Go.Proofs.YtpcdihkcenfgkaaGreat
namespace Go.Proofs.YtpcdihkcenfgkaaGreat
open Go.Vc
end Go.Proofs.YtpcdihkcenfgkaaGreat
namespace Go.Proofs.YtpcdihkcenfgkaaGreat
open Go.Vc
abbrev ObjF (a : ObjP) : Nat → Prop := fun y => OwnB a.lp y ∨ OwnB a.pp y ∨ OwnB a.rp y
end Go.Proofs.YtpcdihkcenfgkaaGreat
namespace Go.Proofs.YtpcdihkcenfgkaaGreat
open Go.Vc
theorem cmpI_neg (x y : IdB) : cmpI x y < 0 ↔ aheadN (fun _ => 0) x y := by
 unfold cmpI aheadN
 by_cases h1 : idLt x y
 ·simp [h1]
 ·by_cases h2 : x = y
  ·subst h2; simp [h1]
  ·simp [h1, h2]
theorem rise_of {l : List IdB} (hn : l.Nodup) (hs : l.Pairwise fun a b => ¬ cmpI b a < 0) : Rise l := by
 unfold Rise
 rw [List.pairwise_iff_getElem] at hs ⊢
 intro i j hi hj hij
 have h1 := hs i j hi hj hij
 rw [cmpI_neg] at h1
 have hne : l[i] ≠ l[j] := fun e => by have := (List.getElem_inj hn).1 e; omega
 rcases idLt_total l[i] l[j] with k | k | k
 ·exact k
 ·exact absurd k hne
 ·exact absurd (Or.inr ⟨rfl, k⟩) h1
end Go.Proofs.YtpcdihkcenfgkaaGreat
namespace Go.Proofs.YtpcdihkcenfgkaaGreat
open Go.Vc
end Go.Proofs.YtpcdihkcenfgkaaGreat
namespace Go.Proofs.YtpcdihkcenfgkaaGreat
open Go.Vc
end Go.Proofs.YtpcdihkcenfgkaaGreat
namespace Go.Vc
/-- who takes what an iterator hands over: l its loop's record; n0: what lay when the iterator began is below; F: all that a round may turn -/
structure ConsL {ι : Type} (P : Program) (l n0 : Nat) (A : ι → Array Value → ι → Prop) (J Jx : ι → (Nat → Prop) → World → Prop) : Prop where
  st : ∀ {k : ι} {F S : Nat → Prop} {w w' : World}, J k F w → Ext S w w' → (∀ x, S x → n0 ≤ x ∧ ¬ F x) → J k F w'
  stx : ∀ {k : ι} {F S : Nat → Prop} {w w' : World}, Jx k F w → Ext S w w' → (∀ x, S x → n0 ≤ x ∧ ¬ F x) → Jx k F w'
  lt : ∀ {k : ι} {F : Nat → Prop} {w : World}, J k F w → ∀ x, F x → x < w.heap.size
  ltx : ∀ {k : ι} {F : Nat → Prop} {w : World}, Jx k F w → ∀ x, F x → x < w.heap.size
  round : ∀ {k k' : ι} {vs : Array Value} {F : Nat → Prop} {w : World}, J k F w → A k vs k' → YieldAt Fence.wide 8 P l vs w fun e w' => ∃ b, e = .returned (.bool b) ∧ ∃ F' : Nat → Prop, Ext F w w' ∧ (∀ x, F' x → F x ∨ w.heap.size ≤ x) ∧ (b = true → J k' F' w') ∧ (b = false → Jx k F' w')
/-- a function that hands over so many things and no more, if it is not stopped; own: what it looks at -/
def IterL {ι : Type} (P : Program) (gf : Nat) (cap : List Value) (i0 : ι) (A : ι → Array Value → ι → Prop) (En : ι → Prop) (own : Nat → Prop) (w : World) : Prop :=
  ∀ (l : Nat) (J Jx : ι → (Nat → Prop) → World → Prop) (F : Nat → Prop), ConsL P l w.heap.size A J Jx → J i0 F w → (∀ x, own x → ¬ F x) →
    CallsV P gf (.func (.yield l) #[] #[] :: cap) w fun _ w' => ∃ F' : Nat → Prop, Ext F w w' ∧ (∀ x, F' x → F x ∨ w.heap.size ≤ x) ∧ ((∃ k, En k ∧ J k F' w') ∨ ∃ k, Jx k F' w')

/-- what a loop's body keeps between its rounds, and how it is left: z its own state; Fp: the blocks that it may turn -/
structure CoSL (ι α : Type) (w : World) where
  Fp : α → Nat → Prop
  J : ι → α → World → Prop
  Jx : ι → Code → α → World → Prop
  st : ∀ {k : ι} {z : α} {S : Nat → Prop} {u u' : World}, J k z u → Ext S u u' → (∀ x, S x → w.heap.size ≤ x ∧ ¬ Fp z x) → J k z u'
  stx : ∀ {k : ι} {c : Code} {z : α} {S : Nat → Prop} {u u' : World}, Jx k c z u → Ext S u u' → (∀ x, S x → w.heap.size ≤ x ∧ ¬ Fp z x) → Jx k c z u'
  lt : ∀ {k : ι} {z : α} {u : World}, J k z u → ∀ x, Fp z x → x < u.heap.size
  ltx : ∀ {k : ι} {c : Code} {z : α} {u : World}, Jx k c z u → ∀ x, Fp z x → x < u.heap.size
section
variable {ι α : Type} {w : World} {P : Program}
def CJL (C : CoSL ι α w) (z0 : α) (l D : Nat) (r : Loop) (k : ι) (F : Nat → Prop) (u : World) : Prop :=
  ∃ z, F = (fun x => C.Fp z x ∨ x = l ∨ x = D) ∧ C.J k z u ∧ (∀ x, C.Fp z x → x ≠ l ∧ x ≠ D) ∧ u.heap[l]? = some (.loop r) ∧ u.heap[D]? = some mark0 ∧ Ext (C.Fp z0) w u ∧ (∀ x, C.Fp z x → C.Fp z0 x ∨ w.heap.size ≤ x)
def CJxL (C : CoSL ι α w) (z0 : α) (l D : Nat) (r : Loop) (k : ι) (F : Nat → Prop) (u : World) : Prop :=
  ∃ c z, F = (fun x => C.Fp z x ∨ x = l ∨ x = D) ∧ C.Jx k c z u ∧ (∀ x, C.Fp z x → x ≠ l ∧ x ≠ D) ∧ u.heap[l]? = some (.loop { r with state := .done, pending := some c }) ∧ u.heap[D]? = some mark0 ∧ Ext (C.Fp z0) w u ∧ (∀ x, C.Fp z x → C.Fp z0 x ∨ w.heap.size ≤ x)
/-- what a round may lean on -/
structure RdCL (C : CoSL ι α w) (z0 : α) (l D : Nat) (r : Loop) (z : α) (W : World) : Prop where
  rd : r.state = .ready
  pe : r.pending = none
  ne : l ≠ D
  lo : w.heap.size ≤ l ∧ w.heap.size ≤ D
  fp : ∀ x, C.Fp z x → x ≠ l ∧ x ≠ D
  l : W.heap[l]? = some (.loop r)
  D : W.heap[D]? = some mark0
  X : Ext (C.Fp z0) w W
  sub : ∀ x, C.Fp z x → C.Fp z0 x ∨ w.heap.size ≤ x
/-- what is asked at its end -/
def RdQL (C : CoSL ι α w) (z0 : α) (l D : Nat) (r : Loop) (k k' : ι) (z : α) (W : World) : Ending → World → Prop := fun e w' =>
  ∃ b, e = .returned (.bool b) ∧ ∃ F' : Nat → Prop, Ext (fun x => C.Fp z x ∨ x = l ∨ x = D) W w' ∧ (∀ x, F' x → (C.Fp z x ∨ x = l ∨ x = D) ∨ W.heap.size ≤ x) ∧ (b = true → CJL C z0 l D r k' F' w') ∧ (b = false → CJxL C z0 l D r k F' w')
variable {C : CoSL ι α w} {z0 : α} {l D : Nat} {r : Loop} {k k' : ι} {z : α} {W : World} {f : Fs} {env : Env} {u : World}
theorem RdCL.ends (h : RdCL C z0 l D r z W) (hE : Ext (fun x => C.Fp z x ∨ x = l) W u) {z' : α} (hF : ∀ x, C.Fp z' x → C.Fp z x ∨ W.heap.size ≤ x) :
  u.heap[D]? = some mark0 ∧ (∀ x, C.Fp z' x → x ≠ l ∧ x ≠ D) ∧ Ext (C.Fp z0) w u ∧ (∀ x, C.Fp z' x → C.Fp z0 x ∨ w.heap.size ≤ x) := by
 refine ⟨(hE.same _ (heap_lt h.D) fun e => e.elim (fun e => (h.fp _ e).2 rfl) fun e => h.ne e.symm).trans h.D, fun x hx => ?_, h.X.trans hE fun x hx e => ?_, fun x hx => ?_⟩
 ·rcases hF x hx with hx | hx
  ·exact h.fp x hx
  ·exact ⟨fun e => by have := heap_lt h.l; omega, fun e => by have := heap_lt h.D; omega⟩
 ·rcases e with e | e
  ·exact (h.sub x e).resolve_right (by omega)
  ·have := h.lo.1; omega
 ·rcases hF x hx with hx | hx
  ·exact h.sub x hx
  ·exact .inr (Nat.le_trans h.X.size hx)
theorem fin_nextL (z' : α) (h : RdCL C z0 l D r z W) (hl : u.heap[l]? = some (.loop (busy r))) (hE : Ext (fun x => C.Fp z x ∨ x = l) W u) (hF : ∀ x, C.Fp z' x → C.Fp z x ∨ W.heap.size ≤ x) (hJ : C.J k' z' u) :
  Fin f (roundPost P l (RdQL C z0 l D r k k' z W)) .normal env u := by
 intro a _
 obtain ⟨h1, h2, h3, h4⟩ := h.ends hE hF
 have hE2 : Ext (One l) u (u.putObj l (.loop { busy r with state := if (none : Option Code).isNone then .ready else .done, pending := none })) := Ext.putObj hl rfl rfl
 refine ⟨_, _, run_endRound none hl, true, rfl, fun x => C.Fp z' x ∨ x = l ∨ x = D, ?_, fun x hx => ?_, fun _ => ?_, fun e => by cases e⟩
 ·exact (hE.mono fun x _ e => e.imp id .inl).then (hE2.mono fun x _ e => .inr (.inl e))
 ·rcases hx with hx | hx
  ·exact (hF x hx).imp .inl id
  ·exact .inl (.inr hx)
 ·refine ⟨z', rfl, C.st hJ hE2 fun x e => ?_, h2, ?_, ?_, h3.trans hE2 fun x hx e => ?_, h4⟩
  ·have e : x = l := e
   subst e
   exact ⟨h.lo.1, fun e => (h2 _ e).1 rfl⟩
  ·rw [World.putObj_heap_same (heap_lt hl)]
   have e1 := h.rd
   have e2 := h.pe
   cases r
   cases e1
   cases e2
   rfl
  ·exact (World.putObj_heap_other h.ne.symm).trans h1
  ·have e : x = l := e
   have := h.lo.1
   omega
/-- between the assignment and the body -/
theorem fin_beginL {R : Ending → World → Prop} {body : Code} (h : RdCL C z0 l D r z W) (hl : u.heap[l]? = some (.loop r)) (hb : ∀ u', Ext (One l) u u' → u'.heap[l]? = some (.loop (busy r)) → WCI (Fence.wide.inRound l) 8 P f body (roundPost P l R) env u') :
  Fin f (Exit.then (fun a1 w1 => ∃ w2, (Instr.beginRound l).run P w1 = .ok () w2 ∧ body.wpIn (Fence.wide.inRound l) 8 P (roundPost P l R) a1 w2) (fun _ _ _ => False)) .normal env u := fun a ha =>
 begin_round hl h.rd fun w' hE hl' => hb w' hE hl' a ha
/-- the statement, over an iterator -/
theorem c_iterL (C : CoSL ι α w) (z0 : α) {Q : XPost} {g : Operand} {ps : Array Tmp} {assign body : Code} {gf : Nat} {cap : Array Value} {i0 : ι} {A : ι → Array Value → ι → Prop} {En : ι → Prop} {own : Nat → Prop}
  (hg : evO env g = some (.func (.func gf) #[] cap)) (hcf : ∀ args w, (callFunc gf args).run P w = .ok (.enter gf args) w)
  (hps : ps.toList.all (fun t => Nat.blt t f.n) = true) (hpn : ∀ k vs k', A k vs k' → vs.size = ps.size)
  (hit : ∀ w1, Ext No w w1 → IterL P gf cap.toList i0 A En own w1) (hown : ∀ x, own x → x < w.heap.size ∧ ¬ C.Fp z0 x) (h0 : C.J i0 z0 w)
  (hround : ∀ (l D : Nat) (r : Loop) (k k' : ι) (vs : Array Value) (z : α) (W : World), RdCL C z0 l D r z W → C.J k z W → A k vs k' →
   WCI (Fence.wide.inRound l) 8 P ⟨f.n, []⟩ assign (Exit.then (fun a1 w1 => ∃ w2, (Instr.beginRound l).run P w1 = .ok () w2 ∧ body.wpIn (Fence.wide.inRound l) 8 P (roundPost P l (RdQL C z0 l D r k k' z W)) a1 w2) (fun _ _ _ => False)) (penv ps.toList vs.toList env) W)
  (hdone : ∀ (D : Nat) (k : ι) (z : α) (W : World), En k → C.J k z W → Ext (C.Fp z0) w W → (∀ x, C.Fp z x → C.Fp z0 x ∨ w.heap.size ≤ x) → w.heap.size ≤ D → W.heap[D]? = some mark0 → (∀ x, C.Fp z x → x ≠ D) →
   Fin ⟨f.n, { target := .collected D, args := #[] } :: f.ds⟩ Q .normal env W)
  (hstop : ∀ (D : Nat) (k : ι) (c : Code) (z : α) (W : World), C.Jx k c z W → Ext (C.Fp z0) w W → (∀ x, C.Fp z x → C.Fp z0 x ∨ w.heap.size ≤ x) → w.heap.size ≤ D → W.heap[D]? = some mark0 → (∀ x, C.Fp z x → x ≠ D) →
   WC P ⟨f.n, { target := .collected D, args := #[] } :: f.ds⟩ c Q env W) :
  WC P f (.rangeFunc g ps assign body) Q env w := by
 refine c_rangeX hg hcf fun fn a ha rec hrec w1 hE1 hl1 hd1 hs1 => ?_
 have hlD : w.heap.size + 1 ≠ w.heap.size := by omega
 have hst : rec.state = .ready := by rw [hrec]
 have hpe : rec.pending = none := by rw [hrec]
 have hcons : ConsL P (w.heap.size + 1) w1.heap.size A (CJL C z0 (w.heap.size + 1) w.heap.size rec) (CJxL C z0 (w.heap.size + 1) w.heap.size rec) := by
  refine ⟨?_, ?_, ?_, ?_, ?_⟩
  ·rintro k F S u u' ⟨z, rfl, h1, h2, h3, h4, h5, h6⟩ hE hS
   have hS1 : ∀ x, S x → w.heap.size ≤ x ∧ ¬ C.Fp z x := fun x hx => ⟨by have := (hS x hx).1; omega, fun e => (hS x hx).2 (.inl e)⟩
   exact ⟨z, rfl, C.st h1 hE hS1, h2, (hE.same _ (heap_lt h3) fun e => (hS _ e).2 (.inr (.inl rfl))).trans h3, (hE.same _ (heap_lt h4) fun e => (hS _ e).2 (.inr (.inr rfl))).trans h4, h5.trans hE fun x hx e => by have := (hS1 x e).1; omega, h6⟩
  ·rintro k F S u u' ⟨c, z, rfl, h1, h2, h3, h4, h5, h6⟩ hE hS
   have hS1 : ∀ x, S x → w.heap.size ≤ x ∧ ¬ C.Fp z x := fun x hx => ⟨by have := (hS x hx).1; omega, fun e => (hS x hx).2 (.inl e)⟩
   exact ⟨c, z, rfl, C.stx h1 hE hS1, h2, (hE.same _ (heap_lt h3) fun e => (hS _ e).2 (.inr (.inl rfl))).trans h3, (hE.same _ (heap_lt h4) fun e => (hS _ e).2 (.inr (.inr rfl))).trans h4, h5.trans hE fun x hx e => by have := (hS1 x e).1; omega, h6⟩
  ·rintro k F u ⟨z, rfl, h1, h2, h3, h4, h5, h6⟩ x hx
   rcases hx with hx | rfl | rfl
   ·exact C.lt h1 x hx
   ·exact heap_lt h3
   ·exact heap_lt h4
  ·rintro k F u ⟨c, z, rfl, h1, h2, h3, h4, h5, h6⟩ x hx
   rcases hx with hx | rfl | rfl
   ·exact C.ltx h1 x hx
   ·exact heap_lt h3
   ·exact heap_lt h4
  ·rintro k k' vs F u ⟨z, rfl, h1, h2, h3, h4, h5, h6⟩ hk
   have hy := run_yield (P := P) (args := vs) h3 (by rw [hrec]; exact hpn k vs k' hk)
   refine ⟨_, _, _, _, hy, roundIn_of_wpIn trivial ?_⟩
   have hA : rec.assign = assign := by rw [hrec]
   have hB : rec.body = body := by rw [hrec]
   have hT : rec.tmps = a.tmps := by rw [hrec]
   have hP : rec.params = ps := by rw [hrec]
   rw [hA, hB, hT, hP]
   obtain ⟨g1, g2⟩ := ag_fold (f := ⟨f.n, []⟩) ps.toList vs.toList env a.tmps hps ha.size ha.get
   refine hround (w.heap.size + 1) w.heap.size rec k k' vs z u ⟨hst, hpe, hlD, ⟨by omega, Nat.le_refl _⟩, h2, h3, h4, h5, h6⟩ h1 hk _ ⟨rfl, ?_, fun i v hi => ?_⟩
   ·rw [← Array.foldl_toList, Array.toList_zip]; exact g1
   ·show (Array.foldl _ a.tmps (ps.zip vs))[i]? = some v
    rw [← Array.foldl_toList, Array.toList_zip]; exact g2 i v hi
 have hj0 : CJL C z0 (w.heap.size + 1) w.heap.size rec i0 (fun x => C.Fp z0 x ∨ x = w.heap.size + 1 ∨ x = w.heap.size) w1 :=
  ⟨z0, rfl, C.st h0 hE1 fun x e => e.elim, fun x hx => ⟨fun e => by have := C.lt h0 x hx; omega, fun e => by have := C.lt h0 x hx; omega⟩, hl1, hd1, hE1.no, fun x hx => .inl hx⟩
 refine (hit w1 hE1 (w.heap.size + 1) _ _ _ hcons hj0 fun x hx => ?_).mono ?_
 ·have := hown x hx
  rintro (e | e | e)
  ·exact this.2 e
  ·omega
  ·omega
 ·rintro _ w2 ⟨F', hE2, hF', ⟨k, hEn, z, rfl, h1, h2, h3, h4, h5, h6⟩ | ⟨k, c, z, rfl, h1, h2, h3, h4, h5, h6⟩⟩
  ·refine ⟨rec, h3, by rw [hst]; decide, h4, fun w3 hE3 hd3 => ⟨fun _ => ?_, fun c hc => by rw [hpe] at hc; cases hc⟩⟩
   have hS1 : ∀ x, One (w.heap.size + 1) x → w.heap.size ≤ x ∧ ¬ C.Fp z x := fun x hx => by
    have hx : x = w.heap.size + 1 := hx
    exact ⟨by omega, fun e => (h2 x e).1 hx⟩
   exact hdone _ k z w3 hEn (C.st h1 hE3 hS1) (h5.trans hE3 fun x hx e => by have := (hS1 x e).1; omega) h6 (Nat.le_refl _) hd3 fun x hx => (h2 x hx).2
  ·refine ⟨_, h3, (fun e => by cases e), h4, fun w3 hE3 hd3 => ⟨fun hc => (by cases hc), fun c' hc => ?_⟩⟩
   cases hc
   have hS1 : ∀ x, One (w.heap.size + 1) x → w.heap.size ≤ x ∧ ¬ C.Fp z x := fun x hx => by
    have hx : x = w.heap.size + 1 := hx
    exact ⟨by omega, fun e => (h2 x e).1 hx⟩
   exact hstop _ k c z w3 (C.stx h1 hE3 hS1) (h5.trans hE3 fun x hx e => by have := (hS1 x e).1; omega) h6 (Nat.le_refl _) hd3 fun x hx => (h2 x hx).2
end
end Go.Vc
namespace Go.Proofs.YtpcdihkcenfgkaaGreat
open Go.Vc
/-- what a map's keys hand over, each once -/
def KeyA {β : Type} (g : List UInt8 → Option β) (dn : List IdB) (vs : Array Value) (dn' : List IdB) : Prop := ∃ y b, g y = some b ∧ y.length = 32 ∧ vs = #[idV y] ∧ dn' = dn ++ [y] ∧ dn'.Nodup
def KeyE {β : Type} (g : List UInt8 → Option β) (dn : List IdB) : Prop := ∀ y b, g y = some b → y ∈ dn
abbrev ItQL {ι : Type} (w : World) (F : Nat → Prop) (En : ι → Prop) (J Jx : ι → (Nat → Prop) → World → Prop) (w' : World) : Prop :=
  ∃ F' : Nat → Prop, Ext F w w' ∧ (∀ x, F' x → F x ∨ w.heap.size ≤ x) ∧ ((∃ k, En k ∧ J k F' w') ∨ ∃ k, Jx k F' w')
theorem keys1_walk (w : World) {yl b m : Nat} {g : List UInt8 → Option Bool} {F : Nat → Prop} {J Jx : List IdB → (Nat → Prop) → World → Prop} (hC : ConsL Tryz.prog yl w.heap.size (KeyA g) J Jx) (hb : Blk w b 109 [.map (some m)]) (hM : MapB w m Value.bool g) (hFm : ¬ F m) (h0 : J [] F w) :
  CallsV Tryz.prog 81 [.func (.yield yl) #[] #[], .pointer (some ⟨b, 0, none⟩)] w fun _ w' => ItQL w F (KeyE g) J Jx w' := by
 refine calls_enter Tryz.func81 rfl rfl rfl rfl ?_
 have hX := Ext.refl F w
 have hFlt := hC.lt h0
 have hml := hM.lt
 refine c_seq (c_region (wl (st_ld I_ok rfl (hb.cell rfl) (wl (st_rg I_ok rfl hM fun it N w1 hitn hIt hE1 => ?_)))))
 have hitw := hitn
 have hX := hX.thenNo hE1
 have hJ := hC.st h0 hE1 fun _ e => e.elim
 have hFi : ¬ F it := fun e => absurd (hFlt _ e) (by omega)
 refine wl_nil (f_then (c_block ?_))
 refine c_loopK (α := List IdB × (Nat → Prop)) [0, 5] rfl (fun z => []) (fun z u => (J z.1 z.2 u ∧ (∀ x, z.2 x → F x ∨ w.heap.size ≤ x) ∧ (¬ z.2 it) ∧ (¬ z.2 m) ∧ IterB u it m Value.bool g N z.1) ∧ Ext F w u) (fun z u => N - z.1.length) ([], F) rfl ⟨⟨hJ, fun x hx => .inl hx, hFi, hFm, hIt⟩, hX⟩ ?_
 rintro ⟨dn, G⟩ w2 ⟨⟨hJ, hG, hGi, hGm, hIt⟩, hX⟩
 try dsimp only
 dsimp only at hJ hG hGi hGm hIt
 refine c_seq (c_region (wl (st_nx rfl hIt (fun hall => ?_) (fun y bk w3 hgk hx32 hxd hltN hIt2 hCur hE3 hs3 => ?_))))
 ·refine wl_p I_ok rfl ?_
  refine wl_nil (f_then (c_seq (c_condF rfl (c_exit (f_thenE (f_thenE (f_blockE (f_end0 rfl ?_))))))))
  exact ⟨G, hX, hG, .inl ⟨dn, hall, hJ⟩⟩
 ·have hJ := hC.st hJ hE3 fun y e => by have e : y = it := e; subst e; exact ⟨hitw, hGi⟩
  have hIt := hIt2
  have hX := hX.thenNew hE3 hitw
  have hnd := iterB_nodup hIt
  have hlen : (dn ++ [y]).length = dn.length + 1 := by rw [List.length_append]; rfl
  have hGlt := hC.lt hJ
  refine wl_p I_ok rfl (wl_nil (f_then (c_seq (c_condT rfl (c_skip (f_then (c_block (c_seq (c_region (wl (st_en rfl hCur (wl_p I_ok rfl (wl (st_al I_ok rfl fun b3 w4 hn3 hb3 hE4 => ?_))))))))))))))
  have fr3 := Nat.le_trans hX.size hn3
  have hIt := hIt.extNo hE4
  have hJ := hC.st hJ hE4 fun _ e => e.elim
  have hX := hX.thenNo hE4
  have hb3o := hb3
  have hG3 : ¬ G b3 := fun e => absurd (hGlt _ e) (by omega)
  refine wl (st_stW (l' := bytesU y) I_ok hb3 rfl rfl (by rw [bytesU_len, hx32]) (by rw [bytesU_len, hx32]; rfl) OneC.h fun w5 hb3 hE5 hs5 => ?_)
  have hIt := hIt.ext hE5 (hIt.neB hb3o).1 (hIt.neB hb3o).2
  have hJ := hC.st hJ hE5 fun z e => by have e : z = b3 := e; subst e; exact ⟨fr3, hG3⟩
  have hX := hX.thenNew hE5 fr3
  refine wl_nil (f_then (c_seq (c_regionI (wlw_p rfl I_ok rfl (wlw rfl (st_ldB I_ok hb3 rfl (by rw [bytesU_len, hx32]) (wli_yield rfl rfl rfl rfl rfl rfl (hC.round hJ ⟨y, bk, hgk, hx32, rfl, rfl, hnd⟩) fun yb w6 hy => ?_)))))))
  obtain ⟨G2, hEy, hGy, hyt, hyf⟩ := hy
  have hX0 := hX.size
  have hil := hIt.lt
  have hX := hX.trans hEy fun x hx e => (hG x e).resolve_right (by omega)
  have hG2 : ∀ x, G2 x → F x ∨ w.heap.size ≤ x := fun x hx => (hGy x hx).elim (hG x) fun h => .inr (by omega)
  have hIt := hIt.ext hEy hGi hGm
  have hGi2 : ¬ G2 it := fun e => (hGy _ e).elim hGi fun h => by have := hil.1; omega
  have hGm2 : ¬ G2 m := fun e => (hGy _ e).elim hGm fun h => by have := hil.2; omega
  refine wlw_p rfl I_ok rfl (wli_nil (f_then (c_cond rfl (fun hc => ?_) (fun hc => ?_))))
  ·have hJx := hyf (by simpa using hc)
   refine c_ret (f_blockR (f_thenR (f_blockR (f_ret0 rfl ?_))))
   exact ⟨G2, hX, hG2, .inr ⟨_, hJx⟩⟩
  ·have hJ := hyt (by simpa using hc)
   refine c_skip ?_
   exact f_blockN (f_round (dn ++ [y], G2) rfl ⟨⟨hJ, hG2, hGi2, hGm2, hIt⟩, hX⟩ (by first | omega | (dsimp only; omega)))
end Go.Proofs.YtpcdihkcenfgkaaGreat
namespace Go.Proofs.YtpcdihkcenfgkaaGreat
open Go.Vc
theorem keys1_iter (w : World) {b m : Nat} {g : List UInt8 → Option Bool} (hb : Blk w b 109 [.map (some m)]) (hM : MapB w m Value.bool g) :
  IterL Tryz.prog 81 [.pointer (some ⟨b, 0, none⟩)] [] (KeyA g) (KeyE g) (One m) w :=
 fun _ _ _ _ hC h0 hown => keys1_walk w hC hb hM (hown m rfl) h0
theorem keys_calls (w : World) (m : Nat) :
  CallsV Tryz.prog 51 [.map (some m)] w fun v w' => ∃ b, v = .func (.func 81) #[] #[.pointer (some ⟨b, 0, none⟩)] ∧ w.heap.size ≤ b ∧ Blk w' b 109 [.map (some m)] ∧ Ext No w w' := by
 refine calls_enter Tryz.func51 rfl rfl rfl rfl ?_
 have hX := Ext.refl No w
 refine c_seq (c_region (wl (st_al I_ok rfl fun b1 w1 hn1 hb1 hE1 => ?_)))
 have fr1 := Nat.le_trans hX.size hn1
 have hX := hX.thenNo hE1
 have hb1 : Blk w1 b1 109 ([.map (some m)]) := hb1
 refine wl_p I_ok rfl (wl_nil (f_then (c_seq (c_region (wl_p I_ok rfl (wl_nil (f_then (c_ret (f_ret1 rfl rfl ?_)))))))))
 exact ⟨b1, rfl, fr1, hb1, hX⟩
/-- what is collected so far -/
def ColJ (g : List UInt8 → Option Bool) (b2 : Nat) (dn : List IdB) (z : Option Addr × Nat) (u : World) : Prop :=
  Own u z.1 dn.length z.2 31 32 (dn.flatMap bytesU) ∧ Blk u b2 27 [.slice z.1 dn.length z.2] ∧ dn.Nodup ∧ ∀ y ∈ dn, y.length = 32 ∧ ∃ b, g y = some b
def colC (w : World) (g : List UInt8 → Option Bool) (b2 : Nat) : CoSL (List IdB) (Option Addr × Nat) w where
  Fp := fun z x => x = b2 ∨ OwnB z.1 x
  J := ColJ g b2
  Jx := fun _ _ _ _ => False
  st := fun ⟨h1, h2, h3, h4⟩ hE hS => ⟨h1.ext hE fun x hx e => (hS x e).2 (.inr hx), h2.ext hE fun e => (hS _ e).2 (.inl rfl), h3, h4⟩
  stx := fun h _ _ => h
  lt := fun ⟨h1, h2, _⟩ x e => by rcases e with rfl | e; exact h2.lt; exact h1.lt e
  ltx := fun h => h.elim
theorem appendSeq_calls (w : World) {gf : Nat} {cap : Array Value} {g : List UInt8 → Option Bool} {own : Nat → Prop} (hcf : ∀ args w, (callFunc gf args).run Tryz.prog w = .ok (.enter gf args) w) (hit : ∀ w1, Ext No w w1 → IterL Tryz.prog gf cap.toList [] (KeyA g) (KeyE g) own w1) (hown : ∀ x, own x → x < w.heap.size)
  (hbd : ∀ dn : List IdB, dn.Nodup → (∀ y ∈ dn, ∃ b, g y = some b) → dn.length < 100000000) :
  CallsV Tryz.prog 77 [.slice none 0 0, .func (.func gf) #[] cap] w fun v w' => ∃ (q : Option Addr) (k : Nat) (dn : List IdB), v = .slice q dn.length k ∧ Own w' q dn.length k 31 32 (dn.flatMap bytesU) ∧ (∀ y, OwnB q y → w.heap.size ≤ y) ∧ dn.Nodup ∧ (∀ y ∈ dn, y.length = 32) ∧ (∀ y, y ∈ dn ↔ ∃ b, g y = some b) ∧ Ext No w w' := by
 refine calls_enterM Tryz.func77 rfl rfl rfl rfl ?_
 have hX := Ext.refl No w
 refine c_seq (c_region (wl (st_al I_ok rfl fun b2 w1 hn2 hb2 hE1 => ?_)))
 have hX := hX.thenNo hE1
 have hb2 : Blk w1 b2 27 ([.slice none 0 0]) := hb2
 refine wl_p I_ok rfl (wl_nil (f_then (c_seq (c_seq (c_region (wl_p I_ok rfl (wl_nil (f_then (c_block ?_)))))))))
 have hXw := hX
 have hXs := hX.size
 have hb2l := hb2.lt
 refine c_iterL (colC w1 g b2) (none, 0) rfl hcf rfl (fun k vs k' ⟨y, b, _, _, e, _, _⟩ => by rw [e]; rfl) (fun w1 hE1 => hit w1 (hXw.thenNo hE1)) (fun x hx => by have := hown x hx; exact ⟨by omega, fun e => by rcases e with e | e; omega; cases e⟩) ⟨Own.nil _ _ _, hb2, List.nodup_nil, fun _ hy => (by cases hy)⟩ (fun l DD r k k2 vs z W hRd hJ hA => ?_) (fun DD k z W hEn hJ hE hsub hDn hmk hnd => ?_) (fun DD k c z W hJ hE hsub hDn hmk hnd => ?_)
 ·have hLr := hRd.l
  obtain ⟨q, kq⟩ := z
  obtain ⟨hq, hb2, hnd, hall⟩ := hJ
  obtain ⟨y, b, hgy, hy, rfl, rfl, hnd2⟩ := hA
  dsimp only at hq hb2
  have hlen : (k ++ [y]).length = k.length + 1 := by rw [List.length_append]; rfl
  have hkb := hbd k hnd fun z hz => (hall z hz).2
  have hqlt := fun x hx => hq.lt (x := x) hx
  have nl2 := hb2.neL hLr
  have hX : Ext (fun x => (x = b2 ∨ OwnB q x) ∨ x = l) W W := Ext.refl _ _
  refine ci_region ?_
  have hq0 := hq
  refine wli (.round _) rfl (st_al I_ok rfl fun b5 w2 hn5 hb5 hE2 => ?_)
  have ne2_5 : b2 ≠ b5 := Nat.ne_of_lt (Nat.lt_of_lt_of_le hb2.lt hn5)
  have fr5 := Nat.le_trans hX.size hn5
  have hb2 := hb2.extNo hE2
  have hq := hq.ext hE2 fun _ _ => id
  have hLr := hl_ext hLr hE2 id
  have hX := hX.thenNo hE2
  have nl5 := hb5.neL hLr
  have ne5 : ∀ z, OwnB q z → z ≠ b5 := fun z hz => Nat.ne_of_lt (Nat.lt_of_lt_of_le (hq0.lt hz) hn5)
  refine wli (.round _) rfl (st_stW (l' := bytesU y) I_ok hb5 rfl rfl (by rw [bytesU_len, hy]) (by rw [bytesU_len, hy]; rfl) OneC.h fun w3 hb5 hE3 hs3 => ?_)
  have hb2 := hb2.ext1 hE3 ne2_5
  have hq := hq.ext hE3 (fun z hz => ne5 z hz)
  have hLr := hl_ext hLr hE3 nl5.symm
  have hX := hX.thenNew hE3 fr5
  refine wli_nil (fin_beginL hRd hLr fun w4 hE4 hL4 => ?_)
  have hb2 := hb2.extL hLr hE4
  have hb5 := hb5.extL hLr hE4
  have hq := hq.ext hE4 fun x hx e => by have e : x = l := e; subst e; exact (hRd.fp _ (.inr hx)).1 rfl
  have hLr := hL4
  have hX := hX.then (hE4.mono fun x _ e => .inr e)
  refine ci_block (ci_region (wli (.round _) rfl (st_ldb I_ok hb2 rfl rfl (wli (.round _) rfl (st_ldB I_ok hb5 rfl (by rw [bytesU_len, hy]) ?_)))))
  refine wli (.round _) rfl (st_bs I_ok rfl 32 rfl idZ_c.symm (by rw [bytesU_len]; rfl) (by decide) (by decide) ⟨⟨by rw [cellsOf_agg]; exact (IdIn.len hy), by decide⟩, trivial⟩ (l' := bytesU y) (one_id hy) fun b10 w5 hn10 hb10 hE5 hs5 => ?_)
  have hb2 := hb2.extNo hE5
  have hq := hq.ext hE5 fun _ _ => id
  have hLr := hl_ext hLr hE5 id
  have hX := hX.thenNo hE5
  have hX0 := hX
  have hXz := hX.size
  refine wli (.round _) rfl (st_app I_ok rfl 32 32 rfl rfl rfl (by decide) hq (Src.slice (m := 1) (one_idS hy hb10) OneC.h) (by dsimp only [maxLen]; omega) (by dsimp only; omega) fun p6 c6 w6 ho6 hE6 hB6 => ?_)
  dsimp only at ho6 hE6 hB6 ⊢
  have hX := hX0.then (hE6.mono fun x _ e => .inl (.inr e))
  have hb2 := hb2.extOwn hq hE6 (by decide)
  have hLr := hl_ext hLr hE6 fun e => (hRd.fp _ (.inr e)).1 rfl
  obtain ⟨q2, kq2, e1, e2, hq2⟩ : ∃ q2 kq2, q2 = p6 ∧ kq2 = c6 ∧ Own w6 q2 (k ++ [y]).length kq2 31 32 ((k ++ [y]).flatMap bytesU) := ⟨_, _, rfl, rfl, by
   rw [hlen, List.flatMap_append]
   simpa using ho6⟩
  rw [← e1] at hB6
  rw [← e1, ← e2, ← hlen]
  have hqB := hB6
  have hb2o := hb2
  refine wli (.round _) rfl (st_st I_ok hb2 rfl rfl rfl fun w7 hb2 hE7 hs7 => ?_)
  have hLr := hl_ext hLr hE7 nl2.symm
  have hq2 := hq2.extTy hE7 hb2o (by decide)
  have hX := hX.then (hE7.mono fun x _ e => by have e : x = b2 := e; subst e; exact (.inl (.inl rfl)))
  have hb2 : Blk w7 b2 27 ([.slice q2 (k ++ [y]).length kq2]) := hb2
  refine wli_nil ?_
  exact f_blockN (fin_nextL (q2, kq2) hRd hLr hX (fun x hx => by rcases hx with rfl | hx; exact .inl (.inl rfl); exact (hqB x hx).elim (fun h => .inl (.inr h)) fun h => .inr (by omega)) (⟨hq2, hb2, hnd2, fun z hz => by rcases List.mem_append.1 hz with hz | hz; exact hall z hz; rw [List.mem_singleton.1 hz]; exact ⟨hy, b, hgy⟩⟩))
 ·obtain ⟨q, kq⟩ := z
  have hnd1 := hnd
  obtain ⟨hq, hb2, hnd, hall⟩ := hJ
  dsimp only at hq hb2
  have hX : Ext No w W := hXw.trans hE fun x hx e => by rcases e with e | e; omega; cases e
  have hnd0 : ∀ x, OwnB q x → x ≠ DD := fun x hx => hnd1 x (.inr hx)
  have hqn : ∀ y, OwnB q y → w.heap.size ≤ y := fun y hy => (hsub y (.inr hy)).elim (fun e => by rcases e with e | e; omega; cases e) fun e => by omega
  refine f_blockN (f_then (c_seq (c_region (wl (st_ldb I_ok hb2 rfl rfl (wl_p I_ok rfl (wl_nil (f_then (c_ret ?_)))))))))
  refine f_retMs [DD] (by simp) (fun x hx => by rw [List.mem_singleton.1 hx]; exact hmk) [.slice q k.length kq] (fun w20 hE20 => ?_) (.inl rfl)
  have hs20 : ∀ x, x ∈ [DD] → x = DD := fun x hx => List.mem_singleton.1 hx
  refine ⟨⟨rfl, trivial⟩, q, kq, k, rfl, hq.ext hE20 fun x hx e => hnd0 x hx (hs20 x e), hqn, hnd, fun y hy => (hall y hy).1, fun y => ⟨fun hy => (hall y hy).2, fun ⟨b, hb⟩ => hEn y b hb⟩, hX.trans hE20 fun x hx e => by have := hs20 x e; omega⟩
 ·exact hJ.elim
end Go.Proofs.YtpcdihkcenfgkaaGreat
namespace Go.Proofs.YtpcdihkcenfgkaaGreat
open Go.Vc
theorem collect_calls (w : World) {gf : Nat} {cap : Array Value} {g : List UInt8 → Option Bool} {own : Nat → Prop} (hcf : ∀ args w, (callFunc gf args).run Tryz.prog w = .ok (.enter gf args) w) (hit : ∀ w1, Ext No w w1 → IterL Tryz.prog gf cap.toList [] (KeyA g) (KeyE g) own w1) (hown : ∀ x, own x → x < w.heap.size)
  (hbd : ∀ dn : List IdB, dn.Nodup → (∀ y ∈ dn, ∃ b, g y = some b) → dn.length < 100000000) :
  CallsV Tryz.prog 46 [.func (.func gf) #[] cap] w fun v w' => ∃ (q : Option Addr) (k : Nat) (dn : List IdB), v = .slice q dn.length k ∧ Own w' q dn.length k 31 32 (dn.flatMap bytesU) ∧ (∀ y, OwnB q y → w.heap.size ≤ y) ∧ dn.Nodup ∧ (∀ y ∈ dn, y.length = 32) ∧ (∀ y, y ∈ dn ↔ ∃ b, g y = some b) ∧ Ext No w w' := by
 refine calls_enter Tryz.func46 rfl rfl rfl rfl ?_
 have hX := Ext.refl No w
 refine c_seq (c_region (wl_p I_ok rfl (wl_nil (f_then (c_seq (c_region (wl_p I_ok rfl (wl (st_call Tryz.call77 rfl rfl rfl rfl rfl rfl (appendSeq_calls w hcf hit hown hbd) fun v1 w1 hr1 => ?_)))))))))
 obtain ⟨q, k, dn, rfl, hq, hqn, h1, h2, h3, hE1⟩ := hr1
 have hX := hX.thenNo hE1
 refine wl_p I_ok rfl (wl_nil (f_then (c_ret (f_ret1 rfl rfl ?_))))
 exact ⟨q, k, dn, rfl, hq, hqn, h1, h2, h3, hX⟩

theorem sorted_calls (w : World) {gf : Nat} {cap : Array Value} {g : List UInt8 → Option Bool} {own : Nat → Prop} (hcf : ∀ args w, (callFunc gf args).run Tryz.prog w = .ok (.enter gf args) w) (hit : ∀ w1, Ext No w w1 → IterL Tryz.prog gf cap.toList [] (KeyA g) (KeyE g) own w1) (hown : ∀ x, own x → x < w.heap.size)
  (hbd : ∀ dn : List IdB, dn.Nodup → (∀ y ∈ dn, ∃ b, g y = some b) → dn.length < 100000000) :
  CallsV Tryz.prog 50 [.func (.func gf) #[] cap, .func (.func 53) #[] #[]] w fun v w' => ∃ (q : Option Addr) (k : Nat) (L : List IdB), v = .slice q L.length k ∧ Own w' q L.length k 31 32 (L.flatMap bytesU) ∧ (∀ y, OwnB q y → w.heap.size ≤ y) ∧ Rise L ∧ (∀ y, y ∈ L ↔ ∃ b, g y = some b) ∧ Ext No w w' := by
 refine calls_enter Tryz.func50 rfl rfl rfl rfl ?_
 have hX := Ext.refl No w
 refine c_seq (c_region (wl_p I_ok rfl (wl_nil (f_then (c_seq (c_region (wl_p I_ok rfl (wl (st_call Tryz.call46 rfl rfl rfl rfl rfl rfl (collect_calls w hcf hit hown hbd) fun v1 w1 hr1 => ?_)))))))))
 obtain ⟨q, k, dn, rfl, hq, hqn, h1, h2, h3, hE1⟩ := hr1
 have hX := hX.thenNo hE1
 have hdl := hbd dn h1 fun y hy => (h3 y).1 hy
 refine wl_p I_ok rfl (wl_nil (f_then (c_seq (c_region (wl_p I_ok rfl ?_)))))
 refine wl (st_call Tryz.call34 rfl rfl rfl rfl rfl rfl (sortI_calls Tryz.call53 cmpI (aheadN_swo (fun _ => 0) cmpI_neg) hq h2 (by omega) (fun W hE a c ha hc => compared_calls W ha hc)) fun v2 w2 hr2 => ?_)
 obtain ⟨rfl, ids, hpm, hpw, hq2, hE2⟩ := hr2
 have hX := hX.trans hE2 fun y hy hF => by have := hqn y hF; omega
 have eL : dn.length = ids.length := hpm.length_eq.symm
 rw [eL] at hq2 ⊢
 refine wl_nil (f_then (c_seq (c_region (wl_p I_ok rfl (wl_nil (f_then (c_ret (f_ret1 rfl rfl ?_))))))))
 exact ⟨q, k, ids, rfl, hq2, hqn, rise_of (hpm.symm.nodup h1) hpw, fun y => by rw [hpm.mem_iff]; exact h3 y, hX⟩
noncomputable def reachE (h : Hp) (x : IdB) : List IdB := if h.closed x = 0 then h.led x else []
theorem led_bd {w : World} {p : Option Addr} {l : List HeldT} (h : HpIn w p l) (x : IdB) : ∀ dn : List IdB, dn.Nodup → (∀ y ∈ dn, ∃ b, ledF (toHp l) x y = some b) → dn.length < 100000000 := fun dn hn hd => by
 have := sub_len hn (m := (toHp l).led x) fun y hy => by obtain ⟨b, hb⟩ := hd y hy; exact (ledF_some hb).1
 have := h.ledLen x
 omega
theorem reachD_calls (w : World) {p : Option Addr} {c : Nat} {l : List HeldT} {x : IdB} (h : HpIn w p l) (hx : IdIn x) :
  CallsV Tryz.prog 19 [.agg #[.slice p l.length c], .agg (bytesU x).toArray] w fun v w' => ∃ q k, v = .tuple #[.slice q (reachE (toHp l) x).length k, .int .i64 ((toHp l).closed x)] ∧ Own w' q (reachE (toHp l) x).length k 31 32 ((reachE (toHp l) x).flatMap bytesU) ∧ (∀ y, OwnB q y → w.heap.size ≤ y) ∧ Ext No w w' := by
 refine calls_enter Tryz.func19 rfl rfl rfl rfl ?_
 have hX := Ext.refl No w
 refine c_seq (c_region (wl (st_al I_ok rfl fun b2 w1 hn2 hb2 hE1 => ?_)))
 have hX := hX.thenNo hE1
 have hb2 : Blk w1 b2 26 ([.slice p l.length c]) := hb2
 refine wl (st_al I_ok rfl fun b3 w2 hn3 hb3 hE2 => ?_)
 have hb2 := hb2.extNo hE2
 have hX := hX.thenNo hE2
 have hb3 : Blk w2 b3 31 (bytesU x) := hb3
 refine wl_p I_ok rfl (wl_nil (f_then (c_seq (c_region (wl (st_ldB I_ok hb2 rfl rfl (wl (st_call Tryz.call48 rfl rfl rfl rfl rfl rfl (readBk_calls w2 (h.extNo hX)) fun v3 w3 hr3 => ?_))))))))
 obtain ⟨r, rfl, hrn, hM, hE3⟩ := hr3
 have hb3 := hb3.extNo hE3
 have hX := hX.thenNo hE3
 refine wl_p I_ok rfl (wl_nil (f_then (c_seq (c_seq (c_region (wl_p I_ok rfl (wl (st_ldB I_ok hb3 rfl hx.len (wl (st_call Tryz.call49 rfl rfl rfl rfl rfl rfl (closedB_calls w3 ⟨h.extNo hX, hM⟩ hx) fun v4 w4 hr4 => ?_))))))))))
 obtain ⟨rfl, hE4⟩ := hr4
 have hb3 := hb3.extNo hE4
 have hM := hM.extNo hE4
 have hX := hX.thenNo hE4
 refine wl_p I_ok rfl (wl_nil (f_then (c_seq (c_region (wl_p I_ok rfl (wl_nil (f_then (c_if rfl (fun hc => ?_) (fun hc => ?_)))))))))
 ·have eH : reachE (toHp l) x = [] := if_neg hc
  refine c_seq (c_region (wl_p I_ok rfl (wl_nil (f_then (c_ret (f_thenR (f_ret [_, _] ⟨rfl, rfl, trivial⟩ ?_)))))))
  exact ⟨none, 0, by rw [eH]; rfl, by rw [eH]; exact Own.nil _ _ _, noOwn, hX⟩
 ·have hcl : (toHp l).closed x = 0 := Decidable.not_not.1 hc
  have eH : reachE (toHp l) x = (toHp l).led x := if_pos hcl
  refine c_skip (f_then (c_seq (c_region (wl_p I_ok rfl (wl (st_ldB I_ok hb3 rfl hx.len (wl (st_call Tryz.call52 rfl rfl rfl rfl rfl rfl (leadsB_calls w4 ⟨h.extNo hX, hM⟩ hx) fun v5 w5 hr5 => ?_))))))))
  obtain ⟨m, rfl, hmn, hMl, hE5⟩ := hr5
  have hX := hX.thenNo hE5
  refine wl (st_call Tryz.call51 rfl rfl rfl rfl rfl rfl (keys_calls w5 m) fun v6 w6 hr6 => ?_)
  obtain ⟨bk, rfl, hbkn, hbk, hE6⟩ := hr6
  have hMl := hMl.extNo hE6
  have hX := hX.thenNo hE6
  have hXz := hX.size
  refine wl (st_call Tryz.call50 rfl rfl rfl rfl rfl rfl (sorted_calls w6 Tryz.call81 (fun w1 hE1 => keys1_iter w1 (hbk.extNo hE1) (hMl.extNo hE1)) (fun x e => by have e : x = m := e; rw [e]; exact hMl.lt) (led_bd h x)) fun v7 w7 hr7 => ?_)
  obtain ⟨q, k, L, rfl, hq, hqn, hrise, hmem, hE7⟩ := hr7
  have hX := hX.thenNo hE7
  have eL : L = (toHp l).led x := rise_one hrise ((toHp l).led_rise x) fun y => (hmem y).trans ⟨fun ⟨b, hb⟩ => (ledF_some hb).1, fun hy => ⟨_, ledF_on hy⟩⟩
  refine wl_p I_ok rfl (wl_nil (f_then (c_ret (f_ret [_, _] ⟨rfl, rfl, trivial⟩ ?_))))
  exact ⟨q, k, by rw [eH, hcl, ← eL]; rfl, by rw [eH, ← eL]; exact hq, fun y hy => Nat.le_trans hXz (hqn y hy), hX⟩
end Go.Proofs.YtpcdihkcenfgkaaGreat
namespace Go.Proofs.YtpcdihkcenfgkaaGreat
open Go.Vc
/-- cmp.Compare's answer for numbers -/
def cmpK (a b : Int) : Int := if a < b then -1 else if b < a then 1 else 0
/-- what a map of objects has under an Id -/
abbrev gO (g : IdB → Option (ObjD × ObjP)) (x : IdB) : ObjD × ObjP := (g x).getD (objZ, noP)
def cmpO (g : IdB → Option (ObjD × ObjP)) (x y : IdB) : Int := ([cmpK (gO g x).1.kind (gO g y).1.kind, cmpN (gO g x).1.number (gO g y).1.number, cmpI x y].find? fun z => decide (z ≠ 0)).getD 0
/-- what stands ahead in the order -/
def aheadO (g : IdB → Option (ObjD × ObjP)) (x y : IdB) : Prop := (gO g x).1.kind < (gO g y).1.kind ∨ (gO g x).1.kind = (gO g y).1.kind ∧ ((gO g x).1.number < (gO g y).1.number ∨ (gO g x).1.number = (gO g y).1.number ∧ idLt x y)
theorem cmpO_neg (g : IdB → Option (ObjD × ObjP)) (x y : IdB) : cmpO g x y < 0 ↔ aheadO g x y := by
 unfold cmpO cmpK cmpN cmpI aheadO
 generalize (gO g x).1.kind = a
 generalize (gO g y).1.kind = b
 generalize (gO g x).1.number = c
 generalize (gO g y).1.number = d
 by_cases h1 : a < b
 ·simp [h1]
 ·by_cases h2 : b < a
  ·have : a ≠ b := by omega
   simp [h1, h2, this]
  ·have e : a = b := by omega
   subst e
   by_cases h3 : c < d
   ·simp [h3]
   ·by_cases h4 : d < c
    ·have : c ≠ d := by omega
     simp [h3, h4, this]
    ·have e : c = d := by omega
     subst e
     by_cases h5 : idLt x y
     ·simp [h5]
     ·by_cases h6 : x = y
      ·subst h6; simp [h5]
      ·simp [h5, h6]
theorem aheadO_swo (g : IdB → Option (ObjD × ObjP)) : Go.Sort.SWO (ltOf fun x y : Id32 => cmpO g x.1 y.1) := by
 have hl : ∀ x y : Id32, ltOf (fun x y : Id32 => cmpO g x.1 y.1) x y = true ↔ aheadO g x.1 y.1 := fun x y => by
  unfold ltOf
  rw [decide_eq_true_eq]
  exact cmpO_neg g _ _
 have hf : ∀ x y : Id32, ltOf (fun x y : Id32 => cmpO g x.1 y.1) x y = false ↔ ¬ aheadO g x.1 y.1 := fun x y => by
  rw [← hl]; cases ltOf (fun x y : Id32 => cmpO g x.1 y.1) x y <;> simp
 have tot : ∀ x y : IdB, aheadO g x y ∨ x = y ∨ aheadO g y x := fun x y => by
  unfold aheadO
  rcases Int.lt_trichotomy (gO g x).1.kind (gO g y).1.kind with c | c | c
  ·exact .inl (.inl c)
  ·rcases Nat.lt_trichotomy (gO g x).1.number (gO g y).1.number with d | d | d
   ·exact .inl (.inr ⟨c, .inl d⟩)
   ·rcases idLt_total x y with e | e | e
    ·exact .inl (.inr ⟨c, .inr ⟨d, e⟩⟩)
    ·exact .inr (.inl e)
    ·exact .inr (.inr (.inr ⟨c.symm, .inr ⟨d.symm, e⟩⟩))
   ·exact .inr (.inr (.inr ⟨c.symm, .inl d⟩))
  ·exact .inr (.inr (.inl c))
 have trans : ∀ x y z : IdB, aheadO g x y → aheadO g y z → aheadO g x z := fun x y z h1 h2 => by
  unfold aheadO at h1 h2 ⊢
  rcases h1 with h1 | ⟨h1, h1'⟩
  ·rcases h2 with h2 | ⟨h2, _⟩
   ·exact .inl (by omega)
   ·exact .inl (by omega)
  ·rcases h2 with h2 | ⟨h2, h2'⟩
   ·exact .inl (by omega)
   ·refine .inr ⟨by omega, ?_⟩
    rcases h1' with h1' | ⟨h1', k1⟩
    ·rcases h2' with h2' | ⟨h2', _⟩
     ·exact .inl (by omega)
     ·exact .inl (by omega)
    ·rcases h2' with h2' | ⟨h2', k2⟩
     ·exact .inl (by omega)
     ·exact .inr ⟨by omega, idLt_trans k1 k2⟩
 have irr : ∀ x : IdB, ¬ aheadO g x x := fun x k => by
  rcases k with k | ⟨_, k | ⟨_, k⟩⟩
  ·omega
  ·omega
  ·exact idLt_irrefl _ k
 refine ⟨fun x => (hf x x).2 (irr _), fun x y z h1 h2 => ?_, fun x y z h1 h2 => ?_⟩
 ·rw [hl] at h1 h2 ⊢
  exact trans _ _ _ h1 h2
 ·rw [hf] at h1 h2 ⊢
  intro k
  rcases tot x.1 y.1 with c | c | c
  ·exact h1 c
  ·rw [c] at k; exact h2 k
  ·exact h2 (trans _ _ _ c k)
theorem of_tell (g : IdB → Option (ObjD × ObjP)) (x : IdB) : tell objV ti48.zero (g x) = objV (gO g x) := by
 rw [objZ_v]
 unfold gO
 cases g x <;> rfl
theorem isNaNK_calls (w : World) (a : Int) :
  CallsV Tryz.prog 71 [.int .i64 a] w fun v w' => v = .bool false ∧ w' = w := by
 refine calls_enter Tryz.func71 rfl rfl rfl rfl ?_
 have hX := Ext.refl No w
 refine c_seq (c_region (wl_p I_ok rfl (wl_nil (f_then (c_seq (c_region (wl_p I_ok rfl (wl_nil (f_then (c_ret (f_ret1 rfl rfl ?_)))))))))))
 exact ⟨congrArg Value.bool (by simp), rfl⟩

theorem compareK_calls (w : World) (a b : Int) :
  CallsV Tryz.prog 37 [.int .i64 a, .int .i64 b] w fun v w' => v = .int .i64 (cmpK a b) ∧ w' = w := by
 refine calls_enter Tryz.func37 rfl rfl rfl rfl ?_
 have hX := Ext.refl No w
 refine c_seq (c_region (wl_p I_ok rfl (wl_nil (f_then (c_seq (c_region (wl_p I_ok rfl (wl (st_call Tryz.call71 rfl rfl rfl rfl rfl rfl (isNaNK_calls w a) fun v1 w1 hr1 => ?_)))))))))
 obtain ⟨rfl, rfl⟩ := hr1
 refine wl_p I_ok rfl (wl_nil (f_then (c_seq (c_region (wl_p I_ok rfl (wl (st_call Tryz.call71 rfl rfl rfl rfl rfl rfl (isNaNK_calls w1 b) fun v2 w2 hr2 => ?_)))))))
 obtain ⟨rfl, rfl⟩ := hr2
 refine wl_p I_ok rfl (wl_nil (f_then (c_seq (c_seq (c_region (wl_p I_ok rfl (wl_nil (f_then (c_condF rfl (c_skip (f_then (c_seq (c_seq (c_region (wl_p I_ok rfl (wl_nil (f_then (c_condF rfl (c_skip (f_then (c_seq (c_seq ?_))))))))))))))))))))))
 refine c_region (wl_p I_ok rfl (wl_nil (f_then (c_if rfl (fun hc => ?_) (fun hc => ?_)))))
 ·refine c_seq ?_
  refine c_region (wl_p I_ok rfl (wl_nil (f_then (c_ret (f_thenR (f_ret1 rfl rfl ?_))))))
  exact ⟨by rw [cmpK, if_pos hc], rfl⟩
 ·have hlt := hc
  refine c_skip (f_then (c_seq (c_seq (c_region (wl_p I_ok rfl (wl_nil (f_then (c_if rfl (fun hc => ?_) (fun hc => ?_)))))))))
  ·refine c_seq ?_
   refine c_region (wl_p I_ok rfl (wl_nil (f_then (c_ret (f_thenR (f_ret1 rfl rfl ?_))))))
   exact ⟨by rw [cmpK, if_neg hlt, if_pos hc], rfl⟩
  ·refine c_skip ?_
   refine f_then (c_seq (c_region (wl_p I_ok rfl (wl_nil (f_then (c_ret (f_ret1 rfl rfl ?_)))))))
   exact ⟨by rw [cmpK, if_neg hlt, if_neg hc], rfl⟩

theorem upCompared_calls (w : World) {x y : IdB} (hx : x.length = 32) (hy : y.length = 32) :
  CallsV Tryz.prog 39 [.agg (bytesU x).toArray, .agg (bytesU y).toArray] w fun v w' => v = .int .i64 (cmpI x y) ∧ Ext No w w' := by
 refine calls_enter Tryz.func39 rfl rfl rfl rfl ?_
 have hX := Ext.refl No w
 refine c_seq (c_region (wl (st_al I_ok rfl fun b2 w1 hn2 hb2 hE1 => ?_)))
 have hX := hX.thenNo hE1
 have hb2 : Blk w1 b2 31 (bytesU x) := hb2
 refine wl (st_al I_ok rfl fun b3 w2 hn3 hb3 hE2 => ?_)
 have hb2 := hb2.extNo hE2
 have hX := hX.thenNo hE2
 have hb3 : Blk w2 b3 31 (bytesU y) := hb3
 refine wl_p I_ok rfl (wl_nil (f_then (c_seq (c_block (c_seq (c_region (wl (st_ldB I_ok hb2 rfl (IdIn.len hx) (wl (st_ldB I_ok hb3 rfl (IdIn.len hy) ?_))))))))))
 refine wl (st_call Tryz.call73 rfl rfl rfl rfl rfl rfl (lessS_calls w2 hx hy) fun v3 w3 hr3 => ?_)
 obtain ⟨rfl, hE3⟩ := hr3
 have hb2 := hb2.extNo hE3
 have hb3 := hb3.extNo hE3
 have hX := hX.thenNo hE3
 refine wl_p I_ok rfl (wl_nil (f_then (c_if rfl (fun hc => ?_) (fun hc => ?_))))
 ·refine c_seq ?_
  refine c_region (wl_p I_ok rfl (wl_nil (f_then (c_ret (f_blockR (f_thenR (f_ret1 rfl rfl ?_)))))))
  exact ⟨by rw [cmpI, if_pos hc], hX⟩
 ·have hlt := hc
  refine c_seq (c_region (wl (st_ldB I_ok hb2 rfl (IdIn.len hx) (wl (st_ldB I_ok hb3 rfl (IdIn.len hy) (wl (st_eqK rfl gId 10 (by decide) kId (idForm hx) (idForm hy) (idKey hx) (idKey hy) idLits_inj ?_)))))))
  simp only [if_true]
  refine wl_p I_ok rfl (wl_nil (f_then (c_if rfl (fun hc => ?_) (fun hc => ?_))))
  ·refine c_seq ?_
   refine c_region (wl_p I_ok rfl (wl_nil (f_then (c_ret (f_blockR (f_thenR (f_ret1 rfl rfl ?_)))))))
   exact ⟨by rw [cmpI, if_neg hlt, if_pos hc], hX⟩
  ·refine c_skip ?_
   refine f_blockN (f_then (c_seq (c_region (wl_p I_ok rfl (wl_nil (f_then (c_ret (f_ret1 rfl rfl ?_))))))))
   exact ⟨by rw [cmpI, if_neg hlt, if_neg hc], hX⟩
theorem compareK_ext (w : World) (a b : Int) : CallsV Tryz.prog 37 [.int .i64 a, .int .i64 b] w fun v w' => v = .int .i64 (cmpK a b) ∧ Ext No w w' := (compareK_calls w a b).mono fun _v w' h => ⟨h.1, h.2 ▸ Ext.refl _ _⟩
theorem ordCmp_calls (w : World) {b rm : Nat} {g : IdB → Option (ObjD × ObjP)} {x y : IdB} (hb : Blk w b 88 [.map (some rm)]) (hM : MapB w rm objV g) (hO : ∀ x, ObjIn (gO g x).1) (hx : x.length = 32) (hy : y.length = 32) :
  CallsV Tryz.prog 35 [.agg (bytesU x).toArray, .agg (bytesU y).toArray, .pointer (some ⟨b, 0, none⟩)] w fun v w' => v = .int .i64 (cmpO g x y) ∧ Ext No w w' := by
 have hbk := hb
 have hMk := hM
 refine calls_enter Tryz.func35 rfl rfl rfl rfl ?_
 have hX := Ext.refl No w
 refine c_seq (c_region (wl (st_al I_ok rfl fun b3 w1 hn3 hb3 hE1 => ?_)))
 have hbk := hbk.extNo hE1
 have hMk := hMk.extNo hE1
 have hX := hX.thenNo hE1
 have hb3 : Blk w1 b3 31 (bytesU x) := hb3
 refine wl (st_al I_ok rfl fun b4 w2 hn4 hb4 hE2 => ?_)
 have hb3 := hb3.extNo hE2
 have hbk := hbk.extNo hE2
 have hMk := hMk.extNo hE2
 have hX := hX.thenNo hE2
 have hb4 : Blk w2 b4 31 (bytesU y) := hb4
 refine wl_p I_ok rfl (wl_nil (f_then ?_))
 have hltc3 := hb3.lt
 have hltc4 := hb4.lt
 have hszc := hX.size
 refine c_cutK (α := (Unit) × Nat × Nat) [3, 4] rfl (fun z => [(6, .pointer (some ⟨z.2.1, 0, none⟩)), (7, .pointer (some ⟨z.2.2, 0, none⟩))]) (fun z u => (True) ∧ Blk u b3 31 (bytesU x) ∧ Blk u b4 31 (bytesU y) ∧ Blk u z.2.1 48 (objC (gO g x).1 (gO g x).2) ∧ w2.heap.size ≤ z.2.1 ∧ Blk u z.2.2 48 (objC (gO g y).1 (gO g y).2) ∧ w2.heap.size ≤ z.2.2 ∧ z.2.1 ≠ z.2.2 ∧ Ext No w u) ?_ ?_
 ·have hQ := Nat.le_refl w2.heap.size
  refine c_drawX rfl 9 9 [9] (No) (by kernel_rfl) fun w3 hE3 hs3 => ?_
  have hd3 := hb3
  have hd4 := hb4
  have hbkd := hbk
  have hMkd := hMk
  have hb3 := hb3.extNo hE3
  have hb4 := hb4.extNo hE3
  have hMk := hMk.extNo hE3
  have hQ := Nat.le_trans hQ hE3.size
  have hX := hX.thenNo hE3
  have hC : Ext No _ w3 := hE3
  refine wx_plan [(0, true), (1, true), (2, true), (3, true), (4, true), (5, true)] 3 rfl (by kernel_rfl) (wd_ld I_ok rfl rfl (fun w' hw' => ((hbkd.extNo hw').cell rfl)) ?_)
  refine wd_ldN I_ok rfl rfl (fun w' hw' => (hd3.extNo hw').seg) (IdIn.len hx) ?_
  refine wd_lu I_ok rfl rfl idK hx rfl hMk (fun w' hw' => hMkd.extNo hw') ?_
  simp only [Bool.false_eq_true, if_false]
  rw [of_tell]
  refine wd_ld I_ok rfl rfl (fun w' hw' => ((hbkd.extNo hw').cell rfl)) ?_
  refine wd_ldN I_ok rfl rfl (fun w' hw' => (hd4.extNo hw').seg) (IdIn.len hy) ?_
  refine wd_lu I_ok rfl rfl idK hy rfl hMk (fun w' hw' => hMkd.extNo hw') ?_
  simp only [Bool.false_eq_true, if_false]
  rw [of_tell]
  refine wd_tail rfl (wx_alt [6, 7] rfl (by kernel_rfl) ⟨⟨_, rfl, ?_⟩, ⟨_, rfl, ?_⟩, trivial⟩)
  ·refine st_al I_ok rfl fun b6 w4 hn6 hb6 hE4 => ⟨hC.thenNo hE4, ?_⟩
   have ne3_6 : b3 ≠ b6 := Nat.ne_of_lt (Nat.lt_of_lt_of_le hb3.lt hn6)
   have ne4_6 : b4 ≠ b6 := Nat.ne_of_lt (Nat.lt_of_lt_of_le hb4.lt hn6)
   have fr6 := Nat.le_trans hX.size hn6
   have frhQ6 := Nat.le_trans hQ hn6
   have frhC6 := Nat.le_trans hC.size hn6
   have hb3 := hb3.extNo hE4
   have hb4 := hb4.extNo hE4
   have hQ := Nat.le_trans hQ hE4.size
   have hX := hX.thenNo hE4
   have hC := hC.thenNo hE4
   refine wx_plan [(7, false), (8, false)] 0 rfl (by kernel_rfl) (wd_l rfl (st_al I_ok rfl fun b7 w5 hn7 hb7 hE5 => ⟨hC.thenNo hE5, ?_⟩))
   have ne3_7 : b3 ≠ b7 := Nat.ne_of_lt (Nat.lt_of_lt_of_le hb3.lt hn7)
   have ne4_7 : b4 ≠ b7 := Nat.ne_of_lt (Nat.lt_of_lt_of_le hb4.lt hn7)
   have ne6_7 : b6 ≠ b7 := Nat.ne_of_lt (Nat.lt_of_lt_of_le hb6.lt hn7)
   have fr7 := Nat.le_trans hX.size hn7
   have frhQ7 := Nat.le_trans hQ hn7
   have hb3 := hb3.extNo hE5
   have hb4 := hb4.extNo hE5
   have hb6 := hb6.extNo hE5
   have hQ := Nat.le_trans hQ hE5.size
   have hX := hX.thenNo hE5
   have hC := hC.thenNo hE5
   refine wd_l rfl (st_stW (l' := objC (gO g x).1 (gO g x).2) I_ok hb6 rfl rfl (objC_len (hO x)) (by rw [objC_len (hO x)]; rfl) OneC.h fun w6 hb6 hE6 hs6 => ⟨hC.thenNew hE6 frhC6, ?_⟩)
   have hb3 := hb3.ext1 hE6 ne3_6
   have hb4 := hb4.ext1 hE6 ne4_6
   have hb7 := hb7.ext1 hE6 ne6_7.symm
   have hQ := Nat.le_trans hQ hE6.size
   have hX := hX.thenNew hE6 fr6
   refine wd_sw ?_
   refine wb rfl (st_stW (l' := objC (gO g y).1 (gO g y).2) I_ok hb7 rfl rfl (objC_len (hO y)) (by rw [objC_len (hO y)]; rfl) OneC.h fun w7 hb7 hE7 hs7 => ?_)
   have hb3 := hb3.ext1 hE7 ne3_7
   have hb4 := hb4.ext1 hE7 ne4_7
   have hb6 := hb6.ext1 hE7 ne6_7
   have hQ := Nat.le_trans hQ hE7.size
   have hX := hX.thenNew hE7 fr7
   refine wb_nil ?_
   exact f_cut ((()), b6, b7) rfl ⟨trivial, hb3, hb4, hb6, frhQ6, hb7, frhQ7, ne6_7, hX⟩
  ·refine st_al I_ok rfl fun b7 w8 hn7 hb7 hE8 => ⟨hC.thenNo hE8, ?_⟩
   have ne3_7 : b3 ≠ b7 := Nat.ne_of_lt (Nat.lt_of_lt_of_le hb3.lt hn7)
   have ne4_7 : b4 ≠ b7 := Nat.ne_of_lt (Nat.lt_of_lt_of_le hb4.lt hn7)
   have fr7 := Nat.le_trans hX.size hn7
   have frhQ7 := Nat.le_trans hQ hn7
   have hb3 := hb3.extNo hE8
   have hb4 := hb4.extNo hE8
   have hQ := Nat.le_trans hQ hE8.size
   have hX := hX.thenNo hE8
   have hC := hC.thenNo hE8
   refine wx_plan [(6, false), (8, false)] 0 rfl (by kernel_rfl) (wd_l rfl (st_al I_ok rfl fun b6 w9 hn6 hb6 hE9 => ⟨hC.thenNo hE9, ?_⟩))
   have ne3_6 : b3 ≠ b6 := Nat.ne_of_lt (Nat.lt_of_lt_of_le hb3.lt hn6)
   have ne4_6 : b4 ≠ b6 := Nat.ne_of_lt (Nat.lt_of_lt_of_le hb4.lt hn6)
   have ne7_6 : b7 ≠ b6 := Nat.ne_of_lt (Nat.lt_of_lt_of_le hb7.lt hn6)
   have fr6 := Nat.le_trans hX.size hn6
   have frhQ6 := Nat.le_trans hQ hn6
   have frhC6 := Nat.le_trans hC.size hn6
   have hb3 := hb3.extNo hE9
   have hb4 := hb4.extNo hE9
   have hb7 := hb7.extNo hE9
   have hQ := Nat.le_trans hQ hE9.size
   have hX := hX.thenNo hE9
   have hC := hC.thenNo hE9
   refine wd_l rfl (st_stW (l' := objC (gO g x).1 (gO g x).2) I_ok hb6 rfl rfl (objC_len (hO x)) (by rw [objC_len (hO x)]; rfl) OneC.h fun w10 hb6 hE10 hs10 => ⟨hC.thenNew hE10 frhC6, ?_⟩)
   have hb3 := hb3.ext1 hE10 ne3_6
   have hb4 := hb4.ext1 hE10 ne4_6
   have hb7 := hb7.ext1 hE10 ne7_6
   have hQ := Nat.le_trans hQ hE10.size
   have hX := hX.thenNew hE10 fr6
   refine wd_sw ?_
   refine wb rfl (st_stW (l' := objC (gO g y).1 (gO g y).2) I_ok hb7 rfl rfl (objC_len (hO y)) (by rw [objC_len (hO y)]; rfl) OneC.h fun w11 hb7 hE11 hs11 => ?_)
   have hb3 := hb3.ext1 hE11 ne3_7
   have hb4 := hb4.ext1 hE11 ne4_7
   have hb6 := hb6.ext1 hE11 ne7_6.symm
   have hQ := Nat.le_trans hQ hE11.size
   have hX := hX.thenNew hE11 fr7
   refine wb_nil ?_
   exact f_cut ((()), b6, b7) rfl ⟨trivial, hb3, hb4, hb6, frhQ6, hb7, frhQ7, ne7_6.symm, hX⟩
 rintro ⟨z, b6, b7⟩ w12 ⟨_, hb3, hb4, hb6, hn6, hb7, hn7, ne6_7, hX⟩
 try dsimp only
 dsimp only at hb6 hn6 hb7 hn7 ne6_7
 refine c_seq ?_
 refine c_draw rfl 16 [(0, true), (1, true), (2, true), (3, true), (5, true), (6, true), (7, true), (8, true), (10, true), (11, true), (4, false), (9, false), (12, false), (13, false), (14, false), (15, true)] [] (No) (by kernel_rfl) fun w13 hE13 hs13 => ?_
 have hd3 := hb3
 have hd4 := hb4
 have hd6 := hb6
 have hd7 := hb7
 have hX := hX.thenNo hE13
 have hC : Ext (No) _ w13 := hE13.no
 refine wd_k I_ok 1 rfl (wd_ld I_ok rfl rfl (fun w' hw' => ((hd6.extNo hw').cell objC_kind)) ?_)
 refine wd_k I_ok 1 rfl (wd_ld I_ok rfl rfl (fun w' hw' => ((hd7.extNo hw').cell objC_kind)) ?_)
 refine wd_k I_ok 1 rfl (wd_ld I_ok rfl rfl (fun w' hw' => ((hd6.extNo hw').cell (objC_num (hO x)))) ?_)
 refine wd_k I_ok 1 rfl (wd_ld I_ok rfl rfl (fun w' hw' => ((hd7.extNo hw').cell (objC_num (hO y)))) ?_)
 refine wd_ldN I_ok rfl rfl (fun w' hw' => (hd3.extNo hw').seg) (IdIn.len hx) ?_
 refine wd_ldN I_ok rfl rfl (fun w' hw' => (hd4.extNo hw').seg) (IdIn.len hy) ?_
 refine wd_l rfl (st_call Tryz.call37 rfl rfl rfl rfl rfl rfl (compareK_ext w13 (gO g x).1.kind (gO g y).1.kind) fun v14 w14 hr14 => ⟨(by obtain ⟨rfl, hE14⟩ := hr14; exact hC.thenNo hE14), ?_⟩)
 obtain ⟨rfl, hE14⟩ := hr14
 have hX := hX.thenNo hE14
 have hC := hC.thenNo hE14
 refine wd_l rfl (st_call Tryz.call38 rfl rfl rfl rfl rfl rfl (compareN_ext w14 (gO g x).1.number (gO g y).1.number) fun v15 w15 hr15 => ⟨(by obtain ⟨rfl, hE15⟩ := hr15; exact hC.thenNo hE15), ?_⟩)
 obtain ⟨rfl, hE15⟩ := hr15
 have hX := hX.thenNo hE15
 have hC := hC.thenNo hE15
 refine wd_l rfl (st_call Tryz.call39 rfl rfl rfl rfl rfl rfl (upCompared_calls w15 hx hy) fun v16 w16 hr16 => ⟨(by obtain ⟨rfl, hE16⟩ := hr16; exact hC.thenNo hE16), ?_⟩)
 obtain ⟨rfl, hE16⟩ := hr16
 have hX := hX.thenNo hE16
 have hC := hC.thenNo hE16
 refine wd_l rfl (st_bs I_ok rfl 1 rfl rfl rfl (by decide) (by decide) (by simp [partsOk]) (l' := [.int .i64 (cmpK (gO g x).1.kind (gO g y).1.kind), .int .i64 (cmpN (gO g x).1.number (gO g y).1.number), .int .i64 (cmpI x y)]) rfl fun b27 w17 hn27 hb27 hE17 hs17 => ⟨hC.thenNo hE17, ?_⟩)
 have hX := hX.thenNo hE17
 have hC := hC.thenNo hE17
 refine wd_l rfl (st_call Tryz.call36 rfl rfl rfl rfl rfl rfl (orI_ext w17 (l := [cmpK (gO g x).1.kind (gO g y).1.kind, cmpN (gO g x).1.number (gO g y).1.number, cmpI x y]) ⟨rfl, .inr ⟨b27, 0, rfl, hb27.seg⟩⟩ (show 3 < 1000000 by decide)) fun v18 w18 hr18 => ⟨(by obtain ⟨rfl, hE18⟩ := hr18; exact hC.thenNo hE18), ?_⟩)
 obtain ⟨rfl, hE18⟩ := hr18
 have hX := hX.thenNo hE18
 refine wd_k I_ok 1 rfl (wd_sw (wb_nil (f_then (c_ret (f_ret1 rfl rfl ?_)))))
 exact ⟨rfl, hX⟩
end Go.Proofs.YtpcdihkcenfgkaaGreat
namespace Go.Proofs.YtpcdihkcenfgkaaGreat
open Go.Vc
theorem flat_held {l : List HeldT} (hl : ∀ h ∈ l, (heldC h).length = 105) : (l.flatMap heldC).length = l.length * 105 := flat_len hl
end Go.Proofs.YtpcdihkcenfgkaaGreat
namespace Go.Vc
section
variable {P : Program} {I : Info} {f : Fs} {ops : Array Oper} {o : Oper} {env : Env} {w : World} {K : Env → World → Prop}
end
end Go.Vc
namespace Go.Vc
section
variable {P : Program} {I : Info} {f : Fs} {ops : Array Oper} {o : Oper} {env : Env} {w : World}
/-- a quotient or a rest, by a number that is a variable -/
def dvE (n : Nat) (ops : Array Oper) (env : Env) (o : Oper) : Option (Bool × IntKind × Int × Int × Nat) :=
  match pre n ops env o with
  | false => none
  | true => match o.dst with
    | some d => match o.op with
      | .binOp op _ x y _ => match evO env x with
        | some (.int k p) => match evO env y with
          | some (.int k' q) => match decide (k = k') with
            | true => match op with
              | .quo => some (true, k, p, q, d)
              | .rem => some (false, k, p, q, d)
              | _ => none
            | false => none
          | _ => none
        | _ => none
      | _ => none
    | none => none
def dvV (b : Bool) (k : IntKind) (p q : Int) : Value := if b then .int k (k.wrap (p.tdiv q)) else .int k (p.tmod q)
theorem dvE_pev {n : Nat} {b : Bool} {k : IntKind} {p q : Int} {d : Nat} (h : dvE n ops env o = some (b, k, p, q, d)) (hq : q ≠ 0) : pre n ops env o = true ∧ o.dst = some d ∧ pev I o.op env = some (dvV b k p q) := by
  unfold dvE at h
  split at h
  · cases h
  · rename_i hp
    split at h
    · rename_i d' hd
      split at h
      · rename_i op' t x y u ho
        split at h
        · rename_i k' p' hx
          split at h
          · rename_i k2 q' hy
            split at h
            · rename_i hk
              have hk : k' = k2 := of_decide_eq_true hk
              subst hk
              split at h
              all_goals first
                | (cases h; done)
                | (simp only [Option.some.injEq, Prod.mk.injEq] at h
                   obtain ⟨rfl, rfl, rfl, rfl, rfl⟩ := h
                   refine ⟨hp, hd, ?_⟩
                   have hn : decide (q' = 0) = false := decide_eq_false hq
                   rw [ho]
                   simp only [pev, hx, hy, bin, isShift, intBin, hn]
                   simp [dvV])
            · cases h
          · cases h
        · cases h
      · cases h
    · cases h
theorem st_dv (hI : I.Ok P) {K : Env → World → Prop} {b : Bool} {k : IntKind} {p q : Int} {d : Nat} (h : dvE f.n ops env o = some (b, k, p, q, d)) (hq : q ≠ 0)
  (kk : K ((d, dvV b k p q) :: env) w) : St P f ops o env w K := by
 obtain ⟨h1, h2, h3⟩ := dvE_pev (I := I) h hq
 obtain ⟨h4, h5⟩ := pre_eq h1
 exact st_v h4 h5 (pev_sound hI h3 w) (by rw [h2]; exact kk)
end
end Go.Vc
namespace Go.Proofs.YtpcdihkcenfgkaaGreat
open Go.Vc
theorem flat_few {α β : Type} {f : α → List β} {n : Nat} : ∀ {L : List α}, (∀ x ∈ L, (f x).length ≤ n) → (L.flatMap f).length ≤ L.length * n
 | [], _ => by simp
 | a :: L, h => by
  have h1 := h a List.mem_cons_self
  have h2 := flat_few (L := L) fun x hx => h x (List.mem_cons_of_mem _ hx)
  rw [List.flatMap_cons, List.length_append, List.length_cons, Nat.succ_mul]
  omega
theorem held_tail {w : World} {q : Option Addr} {l : List HeldT} (h : Sl w q l.length 105 (l.flatMap heldC)) (hl : ∀ h ∈ l, (heldC h).length = 105) {i k : Nat} (hi : i ≤ l.length) (hk : l.length ≤ k) : Sl w (slBase q i k 105) (l.length - i) 105 ((l.drop i).flatMap heldC) := by
 have h1 := h.slice i l.length k hi hk (Nat.le_refl _)
 have e : ((l.flatMap heldC).drop (i * 105)).take ((l.length - i) * 105) = (l.drop i).flatMap heldC := by
  have e1 : ((l.take i).flatMap heldC).length = i * 105 := by
   rw [flat_held fun h hh => hl h (List.mem_of_mem_take hh), List.length_take, Nat.min_eq_left hi]
  have e2 : l.flatMap heldC = (l.take i).flatMap heldC ++ (l.drop i).flatMap heldC := by rw [← List.flatMap_append, List.take_append_drop]
  rw [e2, List.drop_left' e1, List.take_of_length_le]
  rw [flat_held fun h hh => hl h (List.mem_of_mem_drop hh), List.length_drop]
  exact Nat.le_refl _
 rw [e] at h1
 exact h1
theorem u64_pos (a : Int) : 0 ≤ IntKind.u64.wrap a := by
 simp [IntKind.wrap, IntKind.bits, IntKind.signed]
 omega
theorem u64_len {n : Nat} (hn : 0 < n) (hn2 : n < 1000000) : IntKind.u64.wrap (n : Int) ≠ 0 := by
 rw [IntWalk.u64_in _ (by omega)]
 omega
end Go.Proofs.YtpcdihkcenfgkaaGreat
namespace Go.Proofs.YtpcdihkcenfgkaaGreat
open Go.Vc
/-- it holds however blocks of S turn -/
def Stb (S : Nat → Prop) (w : World) (P : World → Prop) : Prop := ∀ w', Ext S w w' → P w'
theorem Stb.now {S : Nat → Prop} {w : World} {P : World → Prop} (h : Stb S w P) : P w := h w (Ext.refl _ _)
theorem Stb.step {S S' T : Nat → Prop} {w w' : World} {P : World → Prop} (h : Stb S w P) (hE : Ext T w w') (hT : ∀ x, x < w.heap.size → T x → S x) (hS : ∀ x, x < w.heap.size → S' x → S x) : Stb S' w' P := fun w2 h2 => h w2 ((hE.mono hT).trans h2 hS)
theorem Stb.sub {S S' : Nat → Prop} {w : World} {P : World → Prop} (h : Stb S w P) (hS : ∀ x, x < w.heap.size → S' x → S x) : Stb S' w P := fun w2 h2 => h w2 (h2.mono hS)
theorem Stb.no {S : Nat → Prop} {w w' : World} {P : World → Prop} (h : Stb S w P) (hE : Ext No w w') : Stb S w' P := h.step hE (fun _ _ k => k.elim) fun _ _ k => k
theorem Stb.one {S : Nat → Prop} {w w' : World} {P : World → Prop} {b : Nat} (h : Stb S w P) (hE : Ext (One b) w w') (hb : S b) : Stb S w' P := h.step hE (fun x _ e => by have e : x = b := e; subst e; exact hb) fun _ _ k => k
/-- a number modulo how many there are -/
def ix64 (a : Int) (n : Nat) : Nat := (IntKind.u64.wrap a).toNat % n
theorem ix64_lt (a : Int) {n : Nat} (hn : 0 < n) : ix64 a n < n := Nat.mod_lt _ hn
theorem ix64_eq (a : Int) {n : Nat} (hn : 0 < n) (hn2 : n < 1000000) : IntKind.i64.wrap ((IntKind.u64.wrap a).tmod (IntKind.u64.wrap (n : Int))) = (ix64 a n : Int) := by
 obtain ⟨N, hN⟩ := Int.eq_ofNat_of_zero_le (u64_pos a)
 have h1 := Nat.mod_lt N hn
 unfold ix64
 rw [IntWalk.u64_in (n : Int) (by omega), hN, ← Int.ofNat_tmod, IntWalk.i64_in _ (by omega)]
 rfl
/-- a step -/
structure StepD where
  rows : List RowD
  back : List Int
  note : Str
def pickI (ids : List IdB) (b : Int) : IdB := ids.getD (ix64 b ids.length) []
/-- a commit's parents -/
def parD (ids : List IdB) (back : List Int) : List IdB := if ids.length = 0 then [] else match (back.take 2).map (pickI ids) with
  | [a, b] => if b = a then [a] else [a, b]
  | l => l
def comD (h : Hp) (ids : List IdB) (s : StepD) : ObjD := { objZ with kind := 3, style := 1 + ((parD ids s.back).length : Int), tree := idOf (treeOf (tex8 s.rows)), note := s.note.take 20, parents := parD ids s.back, number := h.top (parD ids s.back) }
def putO (h : Hp) (o : ObjD) : Hp := if idOf o ∈ List.map Prod.fst h then h else h ++ [(idOf o, o)]
def putD (h : Hp) (l : List ObjD) : Hp := l.foldl putO h
def partO (rows : List RowD) : List ObjD := (refT rows).map blobO ++ [treeOf rows]
def stepD (x : Hp × List IdB) (s : StepD) : Hp × List IdB := if RowsOk (tex8 s.rows) ∧ ObjOk (treeOf (tex8 s.rows)) then
  (putD x.1 (partO (tex8 s.rows) ++ [comD x.1 x.2 s]), x.2 ++ [idOf (comD x.1 x.2 s)]) else x
def madeD (l : List StepD) : Hp × List IdB := (l.take 6).foldl stepD ([], [])
def madeN (l : List StepD) (n : Nat) : Hp × List IdB := (l.take n).foldl stepD ([], [])
theorem madeN_step {l : List StepD} {i : Nat} (h : i < l.length) : madeN l (i + 1) = stepD (madeN l i) l[i] := by
 rw [madeN, List.take_succ_eq_append_getElem h, List.foldl_append]; rfl
theorem madeN_end {l : List StepD} {i : Nat} (h : i = 6 ∨ i = l.length ∧ i ≤ 6) : madeN l i = madeD l := by
 unfold madeN madeD
 rcases h with h | ⟨h, h8⟩
 ·rw [h]
 ·rw [h, List.take_length, List.take_of_length_le (by omega)]
theorem toHp_putS (l : List HeldT) (x : ObjX) : toHp (putS l x) = putO (toHp l) x.1 := by
 unfold putS putO toHp
 rw [List.map_map]
 have e : (l.map ((fun x => x.fst) ∘ fun h => (h.id, h.o))) = l.map HeldT.id := rfl
 rw [e]
 split
 ·rfl
 ·rw [List.map_append]; rfl
theorem toHp_putW (xs : List ObjX) : ∀ (l : List HeldT), toHp (putW l xs) = putD (toHp l) (xs.map Prod.fst) := by
 induction xs with
 | nil => intro l; rfl
 | cons x xs ih =>
  intro l
  show toHp (putW (putS l x) xs) = putD (putO (toHp l) x.1) (xs.map Prod.fst)
  rw [ih, toHp_putS]
theorem parD_in {ids : List IdB} (hi : ∀ y ∈ ids, IdIn y) (back : List Int) : ∀ y ∈ parD ids back, IdIn y := fun y hy => by
 unfold parD at hy
 split at hy
 ·cases hy
 ·rename_i h0
  have hp : ∀ b, IdIn (pickI ids b) := fun b => by
   unfold pickI
   rw [List.getD_eq_getElem?_getD, List.getElem?_eq_getElem (ix64_lt b (by omega))]
   exact hi _ (List.getElem_mem _)
  have hall : ∀ z ∈ (back.take 2).map (pickI ids), IdIn z := fun z hz => by
   obtain ⟨b, _, rfl⟩ := List.mem_map.1 hz; exact hp b
  split at hy
  ·rename_i a b e
   rw [e] at hall
   split at hy
   ·exact hall y (by rw [List.mem_singleton.1 hy]; simp)
   ·exact hall y hy
  ·exact hall y hy
theorem parD_len (ids : List IdB) (back : List Int) : (parD ids back).length ≤ 2 := by
 unfold parD
 split
 ·exact Nat.zero_le _
 ·have h2 : ((back.take 2).map (pickI ids)).length ≤ 2 := by rw [List.length_map, List.length_take]; omega
  split
  ·split
   ·show 1 ≤ 2; omega
   ·exact Nat.le_refl 2
  ·exact h2
/-- the ways in which parents end -/
theorem parD_none {ids : List IdB} {back : List Int} (h : ids.length = 0) : parD ids back = [] := if_pos h
theorem parD_all {ids : List IdB} {back : List Int} (h : ids.length ≠ 0) {t : Nat} (ht : t = 2 ∨ t = back.length ∧ t ≤ 2) (hne : ∀ a b, (back.take t).map (pickI ids) = [a, b] → b ≠ a) : parD ids back = (back.take t).map (pickI ids) := by
 have e : back.take t = back.take 2 := by
  rcases ht with rfl | ⟨rfl, h2⟩
  ·rfl
  ·rw [List.take_length, List.take_of_length_le h2]
 rw [parD, if_neg h, ← e]
 split
 ·rename_i a b e2
  rw [if_neg (hne a b e2), e2]
 ·rfl
theorem parD_dup {ids : List IdB} {back : List Int} (h : ids.length ≠ 0) {b : Int} (hb : back[1]? = some b) {a : IdB} (ha : (back.take 1).map (pickI ids) = [a]) (hd : pickI ids b = a) : parD ids back = [a] := by
 rw [parD, if_neg h]
 rcases back with _ | ⟨x, _ | ⟨y, r⟩⟩
 ·cases ha
 ·cases hb
 ·have e1 : pickI ids x = a := by simpa using ha
  have e2 : y = b := by simpa using hb
  subst e2
  simp only [List.take, List.map_cons, List.map_nil]
  rw [hd, e1, if_pos rfl]
theorem comD_in {h : Hp} {ids : List IdB} {s : StepD} (hi : ∀ y ∈ ids, IdIn y) (hn : h.top (parD ids s.back) < 2 ^ 32) : ObjIn (comD h ids s) := ⟨idOf_len _, objZ_in.base, fun r hr => parD_in hi _ r hr, fun _ hr => (by cases hr), fun _ hr => (by cases hr), hn, (by show 0 < 2 ^ 32; decide)⟩
theorem comD_bytes (h : Hp) (ids : List IdB) (s : StepD) : BytesIn (comD h ids s) := ⟨.inr (.inr rfl), fun k => absurd k (by show ¬ (3 : Int) = 1; decide), fun k => absurd k (by show ¬ (3 : Int) = 2; decide), fun _ => ⟨Nat.zero_le _, fun _ hr => (by cases hr)⟩, fun _ => ⟨parD_len _ _, by show (0 : Int) ≤ 1 + _; omega⟩, fun _ => by show (s.note.take 20).length ≤ 200; rw [List.length_take]; omega⟩
/-- a heap as it is made -/
structure FewN (l : List HeldT) (n : Nat) : Prop where
  lk : ∀ h ∈ l, (linksOf h.o).length ≤ 40
  note : ∀ h ∈ l, h.o.note.length ≤ 20
  num : ∀ h ∈ l, h.o.number ≤ n
theorem kObj_num {l : List HeldT} {n : Nat} (hn : ∀ h ∈ l, h.o.number ≤ n) (p : IdB) (k : Int) : ((toHp l).kObj p k).number ≤ n := by
 unfold Hp.kObj
 split
 ·exact Nat.zero_le _
 ·rcases Hp.obj_held (l := l) (x := p) with e | ⟨y, hy, e⟩
  ·rw [e]; exact Nat.zero_le _
  ·rw [e]; exact hn y hy
theorem top_snoc (h : Hp) (l : List IdB) (p : IdB) : h.top (l ++ [p]) = max (h.top l) ((h.kObj p 3).number + 1) := by
 rw [Hp.top, List.foldl_append]; rfl
theorem tex8_len (l : List RowD) : (tex8 l).length ≤ 4 := by rw [tex8, List.length_map, List.length_take]; omega
theorem partO_len (l : List RowD) : (partO l).length ≤ l.length + 1 := by rw [partO, List.length_append, List.length_map]; have := refT_len l; show _ + 1 ≤ _; omega
end Go.Proofs.YtpcdihkcenfgkaaGreat
namespace Go.Vc
theorem Ag.shadow {f : Fs} {env : Env} {a : Act} (h : Ag f env a) {d : Nat} {v v' : Value} (hd : lk env d = some v) (hv : v = v') : Ag f ((d, v') :: env) a :=
 ⟨h.defers, h.size, fun i u hi => by
  rw [lk_cons] at hi
  split at hi
  ·rename_i e; subst e; simp at hi; subst hi; subst hv; exact h.get _ _ hd
  ·exact h.get _ _ hi⟩
section
variable {P : Program} {f : Fs} {ops : Array Oper} {Q : XPost} {env : Env} {w : World}
theorem wl_put {l : List Oper} (d : Nat) {v v' : Value} (hd : lk env d = some v) (hv : v = v') (h : WL P f ops Q l ((d, v') :: env) w) : WL P f ops Q l env w := fun a ha => h a (ha.shadow hd hv)
theorem wc_put {c : Code} (d : Nat) {v v' : Value} (hd : lk env d = some v) (hv : v = v') (h : WC P f c Q ((d, v') :: env) w) : WC P f c Q env w := fun a ha => h a (ha.shadow hd hv)
theorem fin_put {e : Exit} (d : Nat) {v v' : Value} (hd : lk env d = some v) (hv : v = v') (h : Fin f Q e ((d, v') :: env) w) : Fin f Q e env w := fun a ha => h a (ha.shadow hd hv)
theorem wd_put {K : Act → World → Prop} {r : Dr} {pl : List (Nat × Bool)} {dn : List Nat} (d : Nat) {v v' : Value} (hd : lk env d = some v) (hv : v = v') (h : WD P f ops K r pl dn ((d, v') :: env) w) : WD P f ops K r pl dn env w :=
 fun h1 h2 h3 h4 a ha => h h1 h2 h3 h4 a (ha.shadow hd hv)
end
end Go.Vc
namespace Go.Proofs.YtpcdihkcenfgkaaGreat
open Go.Vc
/-- a step, and where its rows lie -/
structure StepT where
  mp : Option Addr
  mc : Nat
  rows : List RowD
  bp : Option Addr
  bc : Nat
  back : List Int
  note : Str
abbrev StepT.d (s : StepT) : StepD := ⟨s.rows, s.back, s.note⟩
def stepC (s : StepT) : List Value := [.slice s.mp s.rows.length s.mc, .slice s.bp s.back.length s.bc, strV s.note]
instance (s : StepT) : OneC (stepC s) := by unfold stepC; infer_instance
theorem stepC_len (s : StepT) : (stepC s).length = 3 := rfl
def intC (n : Int) : List Value := [.int .i64 n]
structure StepIn (w : World) (s : StepT) : Prop where
  rows : Sl w s.mp s.rows.length 2 (s.rows.flatMap RowD.cells)
  rl : s.rows.length < 9223372036854775808
  back : Sl w s.bp s.back.length 1 (s.back.flatMap intC)
  bl : s.back.length < 9223372036854775808
structure TurnD where
  at_ : Int
  fl : Int
  n : Int
def turnC (t : TurnD) : List Value := [.int .i64 t.at_, .int .i64 t.fl, .int .i64 t.n]
instance (t : TurnD) : OneC (turnC t) := by unfold turnC; infer_instance
def I64 (n : Int) : Prop := -9223372036854775808 ≤ n ∧ n ≤ 9223372036854775807
/-- a heap and its commits, on the way -/
structure MZ where
  m : List HeldT
  q : Option Addr
  k : Nat
  ids : List IdB
  qi : Option Addr
  ki : Nat
structure MadeS (N0 : Nat) (D : Hp × List IdB) (i : Nat) (z : MZ) : Prop where
  e : (toHp z.m, z.ids) = D
  few : FewN z.m i
  len : z.m.length ≤ 6 * i
  new : ∀ y, OwnB z.qi y → N0 ≤ y
  ids : ∀ y ∈ z.ids, IdIn y
  il : z.ids.length ≤ i
  cap : z.m.length ≤ z.k
structure MadeY (b2 b4 : Nat) (z : MZ) (u : World) : Prop where
  hp : Stb (fun x => x = b2 ∨ x = b4 ∨ OwnB z.qi x) u (fun u => HpIn u z.q z.m)
  own : Own u z.qi z.ids.length z.ki 31 32 (z.ids.flatMap bytesU)
structure MadeR (N b2 b4 : Nat) (z : MZ) (u : World) : Prop where
  n : N ≤ u.heap.size
  hp : Stb (fun x => (x = b2 ∨ x = b4 ∨ OwnB z.qi x) ∨ N ≤ x) u (fun u => HpIn u z.q z.m)
  own : Stb (fun x => (x = b2 ∨ x = b4) ∨ N ≤ x) u (fun u => Own u z.qi z.ids.length z.ki 31 32 (z.ids.flatMap bytesU))
theorem MadeY.round {b2 b4 : Nat} {z : MZ} {u : World} (h : MadeY b2 b4 z u) {T2 T4 : Nat} {L2 L4 : List Value} (h2 : Blk u b2 T2 L2) (h4 : Blk u b4 T4 L4) (n2 : 31 ≠ T2) (n4 : 31 ≠ T4) : MadeR u.heap.size b2 b4 z u := by
 refine ⟨Nat.le_refl _, h.hp.sub fun x hx k => k.elim id fun k => absurd hx (by omega), fun w' hE => h.own.ext hE fun x hx k => ?_⟩
 rcases k with (k | k) | k
 ·exact h.own.neTy hx h2 n2 k
 ·exact h.own.neTy hx h4 n4 k
 ·have := h.own.lt hx; omega
theorem MadeR.ext {N b2 b4 : Nat} {z : MZ} {u u' : World} (h : MadeR N b2 b4 z u) {T : Nat → Prop} (hE : Ext T u u') (hT : ∀ x, x < u.heap.size → T x → N ≤ x) : MadeR N b2 b4 z u' :=
 ⟨Nat.le_trans h.n hE.size, h.hp.step hE (fun x hx k => .inr (hT x hx k)) fun _ _ k => k, h.own.step hE (fun x hx k => .inr (hT x hx k)) fun _ _ k => k⟩
theorem MadeR.no {N b2 b4 : Nat} {z : MZ} {u u' : World} (h : MadeR N b2 b4 z u) (hE : Ext No u u') : MadeR N b2 b4 z u' := h.ext hE fun _ _ k => k.elim
theorem MadeR.one {N b2 b4 : Nat} {z : MZ} {u u' : World} (h : MadeR N b2 b4 z u) {b : Nat} (hE : Ext (One b) u u') (hb : N ≤ b) : MadeR N b2 b4 z u' := h.ext hE fun x _ e => by have e : x = b := e; omega
theorem MadeR.app {N b2 b4 : Nat} {z : MZ} {u u' : World} (h : MadeR N b2 b4 z u) {q : Option Addr} (hE : Ext (OwnB q) u u') (hq : ∀ x, OwnB q x → N ≤ x) : MadeR N b2 b4 z u' := h.ext hE fun x _ e => hq x e
theorem MadeR.y {N b2 b4 : Nat} {z : MZ} {u : World} (h : MadeR N b2 b4 z u) : MadeY b2 b4 z u := ⟨h.hp.sub fun _ _ k => .inl k, h.own.now⟩
theorem MadeS.done {N0 i : Nat} {L : List StepD} {z : MZ} (h : MadeS N0 (madeN L i) i z) (hi : i = 6 ∨ i = L.length ∧ i ≤ 6) : MadeS N0 (madeD L) 6 z := by
 have h8 : i ≤ 6 := by omega
 exact ⟨h.e.trans (madeN_end hi), ⟨h.few.lk, h.few.note, fun x hx => Nat.le_trans (h.few.num x hx) h8⟩, by have := h.len; omega, h.new, h.ids, by have := h.il; omega, h.cap⟩
theorem made0 (N0 : Nat) (L : List StepD) : MadeS N0 (madeN L 0) 0 ⟨[], none, 0, [], none, 0⟩ := ⟨rfl, ⟨fun _ h => (by cases h), fun _ h => (by cases h), fun _ h => (by cases h)⟩, Nat.zero_le _, fun y h => (by cases h), fun _ h => (by cases h), Nat.zero_le _, Nat.zero_le _⟩
theorem madeY0 (b2 b4 : Nat) (u : World) : MadeY b2 b4 ⟨[], none, 0, [], none, 0⟩ u := ⟨fun w' _ => ⟨Sl.nil _ _ _, fun _ h => (by cases h), by show 0 < 1000000; decide, by show 0 < 100000; decide⟩, Own.nil _ _ _⟩
/-- a step that makes nothing -/
theorem MadeS.skip {N0 i : Nat} {L : List StepD} {z : MZ} (h : MadeS N0 (madeN L i) i z) (hi : i < L.length) (hn : ¬ (RowsOk (tex8 L[i].rows) ∧ ObjOk (treeOf (tex8 L[i].rows)))) : MadeS N0 (madeN L (i + 1)) (i + 1) z :=
 ⟨by rw [madeN_step hi, stepD, if_neg hn]; exact h.e, ⟨h.few.lk, h.few.note, fun x hx => Nat.le_succ_of_le (h.few.num x hx)⟩, by have := h.len; omega, h.new, h.ids, by have := h.il; omega, h.cap⟩
/-- objects out of a row of a heap -/
abbrev objs (l : List HeldT) : List ObjX := l.map fun h => (h.o, h.a)
theorem one_obj {o : ObjD} {a : ObjP} (ho : ObjIn o) : putAll (rep 1 (objC objZ noP)) [(0 * (0 + 73), 0 + 73, .agg (objC o a).toArray)] = objC o a := by
 simp only [putAll, cellsOf_agg]
 rw [Nat.zero_mul, put_whole (by rw [rep_length, objC_len ho, objC_len objZ_in])]
theorem objX_len {l : List ObjX} (h : ∀ x ∈ l, ObjIn x.1) : ∀ x ∈ l, (objX x).length = 73 := fun x hx => objC_len (h x hx)
theorem objs_step {l : List HeldT} {j : Nat} (hj : j < l.length) : (objs (l.take (j + 1))).flatMap objX = (objs (l.take j)).flatMap objX ++ objC l[j].o l[j].a := by
 rw [List.take_succ_eq_append_getElem hj, objs, List.map_append, List.flatMap_append]
 simp [objs]
/-- a commit, on the way -/
def comT (h : Hp) (ids : List IdB) (s : StepD) (t : Nat) : ObjD := { objZ with kind := 3, style := 1 + (t : Int), tree := idOf (treeOf (tex8 s.rows)), note := s.note.take 20, parents := (s.back.take t).map (pickI ids), number := h.top ((s.back.take t).map (pickI ids)) }
abbrev parP (p : Option Addr) (c : Nat) : ObjP := ⟨none, 0, p, c, none, 0⟩
theorem pickI_in {ids : List IdB} (hi : ∀ y ∈ ids, IdIn y) (h0 : ids.length ≠ 0) (b : Int) : IdIn (pickI ids b) := by
 unfold pickI
 rw [List.getD_eq_getElem?_getD, List.getElem?_eq_getElem (ix64_lt b (by omega))]
 exact hi _ (List.getElem_mem _)
theorem pickI_at {ids : List IdB} {b : Int} (h : ix64 b ids.length < ids.length) : pickI ids b = ids[ix64 b ids.length] := by
 unfold pickI
 rw [List.getD_eq_getElem?_getD, List.getElem?_eq_getElem h]; rfl
theorem comT_in {h : Hp} {ids : List IdB} {s : StepD} {t : Nat} (hi : ∀ y ∈ ids, IdIn y) (h0 : t = 0 ∨ ids.length ≠ 0) (hn : ∀ p, (h.kObj p 3).number < 1000) : ObjIn (comT h ids s t) := by
 refine ⟨idOf_len _, objZ_in.base, fun r hr => ?_, fun _ hr => (by cases hr), fun _ hr => (by cases hr), ?_, (by show 0 < 2 ^ 32; decide)⟩
 ·obtain ⟨b, hb, rfl⟩ := List.mem_map.1 hr
  rcases h0 with rfl | h0
  ·cases hb
  ·exact pickI_in hi h0 b
 ·have : h.top ((s.back.take t).map (pickI ids)) ≤ 1000 := top_le fun p _ => hn p
  show h.top _ < 2 ^ 32
  omega
theorem comT_len {ids : List IdB} {s : StepD} {t : Nat} (ht : t ≤ s.back.length) : ((s.back.take t).map (pickI ids)).length = t := by rw [List.length_map, List.length_take]; omega
theorem comT_done {h : Hp} {ids : List IdB} {s : StepD} {t : Nat} (ht : t ≤ s.back.length) (e : parD ids s.back = (s.back.take t).map (pickI ids)) : comT h ids s t = comD h ids s := by
 unfold comT comD
 rw [e, comT_len ht]
theorem back_snoc {ids : List IdB} {back : List Int} {t : Nat} (ht : t < back.length) : (back.take (t + 1)).map (pickI ids) = (back.take t).map (pickI ids) ++ [pickI ids back[t]] := by
 rw [List.take_succ_eq_append_getElem ht, List.map_append]; rfl
/-- the first form of a commit -/
theorem com_build {t : List UInt8} (ht : t.length = 32) (n : Str) : putAll (objC objZ noP) [(0, 1, .int .i64 3), (3, 1, .int .i64 1), (4, 32, .agg (bytesU t).toArray), (72, 1, strV n)] = objC { objZ with kind := 3, style := 1, tree := t, note := n } noP := by
 have l1 : (bytesU t).length = 32 := by rw [bytesU_len, ht]
 have e0 : putAll (objC objZ noP) [(0, 1, .int .i64 3), (3, 1, .int .i64 1)] = ([.int .i64 3, strV [], .slice none 0 0, .int .i64 1] : List Value) ++ (bytesU idZ ++ (bytesU idZ ++ [Value.slice none 0 0, .slice none 0 0, .int .u32 0, .int .u32 0, strV []])) := by kernel_rfl
 have e1 : putAll (objC objZ noP) [(0, 1, .int .i64 3), (3, 1, .int .i64 1), (4, 32, .agg (bytesU t).toArray), (72, 1, strV n)] = put (put (putAll (objC objZ noP) [(0, 1, .int .i64 3), (3, 1, .int .i64 1)]) 4 (bytesU t)) 72 [strV n] := rfl
 rw [e1, e0]
 have l2 : (bytesU idZ).length = 32 := by rw [bytesU_len]; rfl
 rw [put_eq _ 4 _ (by simp only [List.length_append, l1, l2]; decide)]
 obtain ⟨A, hA⟩ : ∃ A : List Value, A = [.int .i64 3, strV [], .slice none 0 0, .int .i64 1] := ⟨_, rfl⟩
 have lA : A.length = 4 := by rw [hA]; rfl
 rw [← hA, List.take_left' lA, l1, ← List.drop_drop, List.drop_left' lA, List.drop_left' l2]
 obtain ⟨B, hB⟩ : ∃ B : List Value, B = [Value.slice none 0 0, .slice none 0 0, .int .u32 0, .int .u32 0] := ⟨_, rfl⟩
 have lB : B.length = 4 := by rw [hB]; rfl
 have e2 : ([Value.slice none 0 0, .slice none 0 0, .int .u32 0, .int .u32 0, strV []] : List Value) = B ++ [strV []] := by rw [hB]; rfl
 rw [e2, ← List.append_assoc (bytesU idZ) B, ← List.append_assoc (A ++ bytesU t)]
 have l3 : (A ++ bytesU t ++ (bytesU idZ ++ B)).length = 72 := by simp only [List.length_append, lA, lB, l1, l2]
 rw [put_eq _ _ _ (by rw [List.length_append, l3]; exact Nat.le_refl _), List.take_left' l3, List.drop_of_length_le (by rw [List.length_append, l3]; exact Nat.le_refl _), List.append_nil, hA, hB]
 simp [objC, objZ]
theorem objC_par {o : ObjD} {a : ObjP} (h : ObjIn o) {l : List IdB} {p : Option Addr} {c : Nat} : (objC o a).set (68 + 0) (.slice p l.length c) = objC { o with parents := l } ⟨a.lp, a.lc, p, c, a.rp, a.rc⟩ := objC_set h 0 _
theorem objC_nu {o : ObjD} {a : ObjP} (h : ObjIn o) {n : Nat} : (objC o a).set (68 + 2) (.int .u32 (n : Int)) = objC { o with number := n } a := objC_set h 2 _
/-- the parts of a map in one form -/
theorem parts_shape {W w' : World} {v : Value} {L : List HeldT} {q : Option Addr} {k : Nat} {t : ObjD} (h1 : ObjOk t → v = .slice q L.length k ∧ Own w' q L.length k 84 105 (L.flatMap heldC)) (h2 : ¬ ObjOk t → v = .slice none 0 0) (hn : ∀ x, OwnB q x → W.heap.size ≤ x) :
  ∃ q2 n k2, v = .slice q2 n k2 ∧ (ObjOk t → n = L.length ∧ Own w' q2 L.length k2 84 105 (L.flatMap heldC)) ∧ (¬ ObjOk t → n = 0) ∧ ∀ x, OwnB q2 x → W.heap.size ≤ x := by
 by_cases h : ObjOk t
 ·obtain ⟨e, ho⟩ := h1 h
  exact ⟨q, L.length, k, e, fun _ => ⟨rfl, ho⟩, fun k => absurd h k, hn⟩
 ·exact ⟨none, 0, 0, h2 h, fun k => absurd k h, fun _ => rfl, noOwn⟩
theorem refP_len (l : List RowD) (a : ObjP) : (refP l a).length = (refT l).length + 1 := by rw [refP, List.length_append, List.length_map]; rfl
theorem refP_last (l : List RowD) (a : ObjP) (h : (refP l a).length - 1 < (refP l a).length) : (refP l a)[(refP l a).length - 1] = ⟨idOf (treeOf l), treeOf l, a⟩ := by
 have e : (refP l a).length - 1 = ((refT l).map heldB).length := by rw [refP_len, List.length_map]; rfl
 simp only [e]
 unfold refP
 rw [List.getElem_append_right (Nat.le_refl _)]
 simp
theorem refP_objs (l : List RowD) (a : ObjP) : (objs (refP l a)).map Prod.fst = partO l := by
 unfold refP partO objs
 simp only [List.map_append, List.map_map, List.map_cons, List.map_nil]
 rfl
/-- what holds of each part -/
theorem refP_all {P : HeldT → Prop} {l : List RowD} {a : ObjP} (h1 : ∀ t ∈ refT l, P (heldB t)) (h2 : P ⟨idOf (treeOf l), treeOf l, a⟩) : ∀ x ∈ refP l a, P x := fun x hx => by
 unfold refP at hx
 rcases List.mem_append.1 hx with hx | hx
 ·obtain ⟨t, ht, rfl⟩ := List.mem_map.1 hx; exact h1 t ht
 ·rw [List.mem_singleton.1 hx]; exact h2
theorem refT_mem {l : List RowD} : ∀ t ∈ refT l, ∃ r ∈ l, t = r.text := by
 have : ∀ (l : List RowD) (acc : List Str) (t : Str), t ∈ l.foldl addT acc → t ∈ acc ∨ ∃ r ∈ l, t = r.text := by
  intro l
  induction l with
  | nil => intro acc t h; exact .inl h
  | cons r l ih =>
   intro acc t h
   rcases ih _ t h with k | ⟨r2, h2, e⟩
   ·unfold addT at k
    split at k
    ·exact .inl k
    ·rcases List.mem_append.1 k with k | k
     ·exact .inl k
     ·exact .inr ⟨r, List.mem_cons_self, List.mem_singleton.1 k⟩
   ·exact .inr ⟨r2, List.mem_cons_of_mem _ h2, e⟩
 intro t ht
 rcases this l [] t ht with k | k
 ·cases k
 ·exact k
theorem tex8_in (l : List RowD) : ∀ r ∈ tex8 l, r.path.length ≤ 48 ∧ r.text.length ≤ 20 := fun r hr => by
 obtain ⟨x, _, rfl⟩ := List.mem_map.1 hr
 exact ⟨by show (x.path.take 48).length ≤ 48; rw [List.length_take]; omega, by show (x.text.take 20).length ≤ 20; rw [List.length_take]; omega⟩
theorem tree_ok {l : List RowD} : ObjIn (treeOf (tex8 l)) ∧ Short (treeOf (tex8 l)) := by
 have h := tex8_in l
 have hl := tex8_len l
 have hll : (leavesOf (tex8 l)).length = (tex8 l).length := by rw [leavesOf, List.length_map]
 refine ⟨treeO_in (leavesOf_in fun r hr => by have := (h r hr).1; have := maxLen_big; omega), tree_sh (by omega) fun r hr => ?_⟩
 obtain ⟨y, hy, rfl⟩ := List.mem_map.1 hr
 have := (h y hy).1
 show y.path.length < _
 omega
theorem held_okB (w : World) {l : List RowD} {t : Str} (ht : t ∈ refT (tex8 l)) : HeldIn w (heldB t) ∧ BytesIn (heldB t).o ∧ (linksOf (heldB t).o).length ≤ 40 ∧ (heldB t).o.note.length ≤ 20 ∧ (heldB t).o.number = 0 := by
 obtain ⟨r, hr, rfl⟩ := refT_mem t ht
 have := (tex8_in l r hr).2
 exact ⟨⟨idOf_len _, blobO_in _, blob_sh _, blob_l _ _⟩, bytes_of (blob_ok (by omega)).1, Nat.zero_le _, Nat.zero_le _, rfl⟩
end Go.Proofs.YtpcdihkcenfgkaaGreat
namespace Go.Vc
section
variable {P : Program} {I : Info} {f : Fs} {ops : Array Oper} {o : Oper} {env : Env} {w : World} {K : Env → World → Prop}
end
end Go.Vc
namespace Go.Vc
section
variable {P : Program} {I : Info} {f : Fs} {ops : Array Oper} {o : Oper} {env : Env} {w : World} {K : Env → World → Prop}
/-- append of nothing -/
theorem run_appZ (hI : I.Ok P) {t t2 ty e : Nat} {y y2 g : TI} (hy : lkT I t = some y) (he : y.desc = .slice e) (hg : lkT I e = some g) (hy2 : lkT I t2 = some y2) (hd2 : (∃ e2, y2.desc = .slice e2) ∨ y2.desc = .string)
  {p : Option Addr} {n c : Nat} {x : Value} {news : List Value} (hsrc : Src P w g.size x 0 news)
  (hfit : n ≤ c) :
  (Builtin.append_ #[t, t2] ty #[.slice p n c, x]).run P w = .ok (.slice p (n + 0) c) w := by
 have hu := (hI.get hy).under w
 rw [he] at hu
 have hs := (hI.get hg).sizeOf w
 have hu2 := (hI.get hy2).under w
 have hlen := hsrc.1
 have hnews : news = [] := by have := hsrc.2.1; simpa using this
 subst hnews
 unfold Builtin.append_
 simp only [List.getElem?_toArray, List.getElem?_cons_zero, List.getElem?_cons_succ]
 rw [run_under_bind hu]
 simp only []
 rw [Sem.run_bind, hs, Result.andThen_ok]
 rw [run_under_bind hu2]
 rcases hd2 with ⟨e2, h2⟩ | h2 <;> rw [h2] <;> simp only [pure_bind, Bool.false_eq_true, if_false, Bool.not_false, if_true, hlen]
 all_goals
  ·rw [if_pos (show n + 0 ≤ c from hfit)]
   simp only [Sem.run_bind, hsrc.cells (fun _ => rfl), Result.andThen_ok]
   cases p <;> simp [storeCells]
/-- append to a full row: nothing, or a new row -/
theorem st_appS (hI : I.Ok P) {s : AppArgs} (h : appE I f.n ops env o = some s) (sz by_ : Nat) (hsz : s.g.size = sz) (hby : s.g.bytes = by_) (hz : (cellsOf s.g.zero).length = sz) (hz0 : 0 < sz) {xs : List Value} (hown : Sl w s.p s.n sz xs) (hful : s.n = s.c) {m : Nat} {news : List Value} (hsrc : Src P w sz s.x m news)
  (hm : s.n + m ≤ maxLen) (hb : (s.n + m) * by_ ≤ 140737488355328)
  (k : ∀ p' c' w', Sl w' p' (s.n + m) sz (xs ++ news) → Ext No w w' → (m = 0 ∧ p' = s.p ∨ ∀ b off, p' = some ⟨b, off, none⟩ → w.heap.size ≤ b) → s.n + m ≤ c' → K ((s.d, .slice p' (s.n + m) c') :: env) w') : St P f ops o env w K := by
 subst hsz
 subst hby
 unfold appE at h
 split at h
 ·cases h
 ·rename_i hp
  obtain ⟨e1, e2⟩ := pre_eq hp
  split at h
  ·rename_i d' hd
   split at h
   ·rename_i xs' ts ho
    split at h
    ·rename_i sx xx hxs
     have hx1 : xs' = #[sx, xx] := by apply Array.ext'; simpa using hxs
     subst hx1
     split at h
     ·rename_i t t2 hts
      have ht1 : ts = #[t, t2] := by apply Array.ext'; simpa using hts
      subst ht1
      split at h
      ·rename_i y hy
       split at h
       ·rename_i e he
        split at h
        ·rename_i g hg
         split at h
         ·rename_i y2 hy2
          split at h
          ·rename_i hss
           split at h
           ·rename_i p n c hs
            split at h
            ·rename_i v hv
             cases h
             simp only at *
             obtain ⟨p', c', w', hr, hown', hE, hC, hcc⟩ : ∃ p' c' w', (Builtin.append_ #[t, t2] o.type #[.slice p n c, v]).run P w = .ok (.slice p' (n + m) c') w' ∧ Sl w' p' (n + m) g.size (xs ++ news) ∧ Ext No w w' ∧ (m = 0 ∧ p' = p ∨ ∀ b off, p' = some ⟨b, off, none⟩ → w.heap.size ≤ b) ∧ n + m ≤ c' := by
              rcases Nat.eq_zero_or_pos m with h0 | h0
              ·subst h0
               have hnews : news = [] := by have := hsrc.2.1; simpa using this
               subst hnews
               exact ⟨p, c, w, run_appZ (P := P) (ty := o.type) hI hy he hg hy2 (slOrStr_eq hss) hsrc (Nat.le_of_eq hful), by rw [List.append_nil]; exact hown, Ext.refl _ _, Or.inl ⟨rfl, rfl⟩, Nat.le_of_eq hful⟩
              ·obtain ⟨c', w', h1, h2, h3⟩ := run_appG (P := P) (ty := o.type) (c := c) hI hy he hg hy2 (slOrStr_eq hss) hz hz0 hown hsrc hm hb (by omega)
               exact ⟨_, c', w', h1, h2.sl, h3, Or.inr fun b off hb => Nat.le_of_eq (congrArg Addr.block (Option.some.inj hb)), h2.cap⟩
             refine st_v e1 e2 (v := .slice p' (n + m) c') (w' := w') (fun ρ hρ => ?_) (by rw [hd]; exact k p' c' w' hown' hE hC hcc)
             have em : Array.map ρ #[sx, xx] = #[.slice p n c, v] := by simp [hρ _ _ hs, hρ _ _ hv]
             simp only [execOp, ho, resolve, Sem.run_bind, Sem.run_pure, Result.andThen_ok, invoke, builtin, em, hr]
            ·cases h
           ·cases h
          ·cases h
         ·cases h
        ·cases h
       ·cases h
      ·cases h
     ·cases h
    ·cases h
   ·cases h
  ·cases h

end
end Go.Vc
namespace Go.Proofs.YtpcdihkcenfgkaaGreat
open Go.Vc
/-- what is made: a heap, and Ids of its commits -/
structure MadeQ (W w : World) (q : Option Addr) (m : List HeldT) (qi : Option Addr) (ki : Nat) (ids : List IdB) : Prop where
  hp : Stb (OwnB qi) w (fun u => HpIn u q m)
  own : Own w qi ids.length ki 31 32 (ids.flatMap bytesU)
  new : ∀ y, OwnB qi y → W.heap.size ≤ y
  iin : ∀ y ∈ ids, IdIn y
  il : ids.length ≤ 8
  few : m.length ≤ 60
  lks : ∀ x ∈ m, (linksOf x.o).length ≤ 40
theorem lk_few {l : List HeldT} (hl : l.length ≤ 1000) (h : ∀ x ∈ l, (linksOf x.o).length ≤ 40) : (l.flatMap fun e => linksOf e.o).length < 100000 := by
 have h1 := flat_few (f := fun e : HeldT => linksOf e.o) (n := 40) h
 have := Nat.mul_le_mul_right 40 hl
 omega
theorem com_few (h : Hp) (ids : List IdB) (s : StepD) : (linksOf (comD h ids s)).length ≤ 40 := by
 have e : linksOf (comD h ids s) = idOf (treeOf (tex8 s.rows)) :: parD ids s.back := rfl
 rw [e, List.length_cons]
 have := parD_len ids s.back
 omega
theorem tree_few (l : List RowD) : (linksOf (treeOf (tex8 l))).length ≤ 40 := by
 have e : linksOf (treeOf (tex8 l)) = (leavesOf (tex8 l)).map LeafD.id := rfl
 rw [e, List.length_map, leavesOf, List.length_map]
 have := tex8_len l
 omega
/-- a step that makes a commit -/
theorem MadeS.go {N0 i : Nat} {L : List StepD} {z : MZ} (h : MadeS N0 (madeN L i) i z) (hi : i < L.length) (hok : RowsOk (tex8 L[i].rows) ∧ ObjOk (treeOf (tex8 L[i].rows))) {xs : List ObjX} (hx : xs.map Prod.fst = partO (tex8 L[i].rows) ++ [comD (toHp z.m) z.ids L[i]]) {q qi : Option Addr} {k ki : Nat} (hn : ∀ y, OwnB qi y → N0 ≤ y) (hcap : (putW z.m xs).length ≤ k) :
  MadeS N0 (madeN L (i + 1)) (i + 1) ⟨putW z.m xs, q, k, z.ids ++ [idOf (comD (toHp z.m) z.ids L[i])], qi, ki⟩ := by
 have hxl : xs.length = (partO (tex8 L[i].rows)).length + 1 := by rw [← List.length_map (f := Prod.fst), hx, List.length_append]; rfl
 have hpl := partO_len (tex8 L[i].rows)
 have h4 := tex8_len L[i].rows
 have hwl := putW_len xs z.m
 have hall : ∀ x ∈ xs, (linksOf x.1).length ≤ 40 ∧ x.1.note.length ≤ 20 ∧ x.1.number ≤ i + 1 := fun x hm => by
  have hm2 : x.1 ∈ partO (tex8 L[i].rows) ++ [comD (toHp z.m) z.ids L[i]] := by rw [← hx]; exact List.mem_map_of_mem hm
  rcases List.mem_append.1 hm2 with k | k
  ·unfold partO at k
   rcases List.mem_append.1 k with k | k
   ·obtain ⟨t, _, e⟩ := List.mem_map.1 k
    rw [← e]; exact ⟨Nat.zero_le _, Nat.zero_le _, Nat.zero_le _⟩
   ·rw [List.mem_singleton.1 k]; exact ⟨tree_few _, Nat.zero_le _, Nat.zero_le _⟩
  ·rw [List.mem_singleton.1 k]
   refine ⟨com_few _ _ _, ?_, top_le fun p _ => Nat.lt_succ_of_le (kObj_num h.few.num p 3)⟩
   show (L[i].note.take 20).length ≤ 20
   rw [List.length_take]; omega
 refine ⟨?_, ⟨?_, ?_, ?_⟩, ?_, hn, ?_, ?_, hcap⟩
 ·rw [madeN_step hi, stepD, if_pos hok, ← h.e, toHp_putW, hx]
 ·exact putW_mem (P := fun y => (linksOf y.o).length ≤ 40) xs h.few.lk fun x hm => (hall x hm).1
 ·exact putW_mem (P := fun y => y.o.note.length ≤ 20) xs h.few.note fun x hm => (hall x hm).2.1
 ·exact putW_mem (P := fun y => y.o.number ≤ i + 1) xs (fun y hy => Nat.le_succ_of_le (h.few.num y hy)) fun x hm => (hall x hm).2.2
 ·have := h.len
  dsimp only
  omega
 ·intro y hy
  rcases List.mem_append.1 hy with k | k
  ·exact h.ids y k
  ·rw [List.mem_singleton.1 k]; exact idOf_len _
 ·have := h.il
  show (z.ids ++ [_]).length ≤ i + 1
  rw [List.length_append]
  show z.ids.length + 1 ≤ i + 1
  omega
theorem comT_step {h : Hp} {ids : List IdB} {s : StepD} {t : Nat} (ht : t < s.back.length) : comT h ids s (t + 1) = { comT h ids s t with parents := (s.back.take (t + 1)).map (pickI ids), style := 1 + ((t + 1 : Nat) : Int), number := max (comT h ids s t).number ((h.kObj (pickI ids s.back[t]) 3).number + 1) } := by
 unfold comT
 rw [back_snoc ht, top_snoc]
/-- without one of its objects (counted from 1) -/
def goneD (g : Int) (h : Hp) : Hp := if 0 < g ∧ g ≤ (List.length h : Int) then List.eraseIdx h (g.toNat - 1) else h
theorem toHp_erase (m : List HeldT) (g : Nat) : toHp (m.take g ++ m.drop (g + 1)) = List.eraseIdx (toHp m) g := by
 rw [← List.eraseIdx_eq_take_drop_succ]
 unfold toHp
 induction m generalizing g with
 | nil => rfl
 | cons a m ih =>
  cases g with
  | zero => rfl
  | succ g => rw [List.eraseIdx_cons_succ, List.map_cons, ih, List.map_cons, List.eraseIdx_cons_succ]
theorem goneD_on {m : List HeldT} {g : Nat} (hg : g < m.length) : goneD ((g + 1 : Nat) : Int) (toHp m) = toHp (m.take g ++ m.drop (g + 1)) := by
 have hl : List.length (toHp m) = m.length := List.length_map ..
 rw [goneD, if_pos ⟨by omega, by rw [hl]; omega⟩, toHp_erase]
 rfl
theorem goneD_no {m : List HeldT} {g : Int} (hg : ¬ (0 < g ∧ g ≤ (m.length : Int))) : goneD g (toHp m) = toHp m := by
 have hl : List.length (toHp m) = m.length := List.length_map ..
 rw [goneD, if_neg (by rw [hl]; exact hg)]
theorem flat_sub {α β : Type} (f : α → List β) : ∀ {l m : List α}, l.Sublist m → (l.flatMap f).length ≤ (m.flatMap f).length
 | _, _, .slnil => Nat.le_refl _
 | _, _, .cons a h => by rw [List.flatMap_cons, List.length_append]; have := flat_sub f h; omega
 | _, _, .cons_cons a h => by rw [List.flatMap_cons, List.flatMap_cons, List.length_append, List.length_append]; have := flat_sub f h; omega
theorem take_drop_sub {α : Type} (m : List α) (g : Nat) : (m.take g ++ m.drop (g + 1)).Sublist m := by
 rw [← List.eraseIdx_eq_take_drop_succ]; exact List.eraseIdx_sublist m g
/-- a row without one of its rows -/
theorem stb_gone {S : Nat → Prop} {w w' : World} {q q2 : Option Addr} {m : List HeldT} {g : Nat} (h : Stb S w fun u => HpIn u q m) (hE : Ext No w w') (hS : ∀ x, S x → x < w.heap.size) (_hg : g < m.length)
  (hs : Sl w' q2 (m.take g ++ m.drop (g + 1)).length 105 ((m.take g ++ m.drop (g + 1)).flatMap heldC)) (hn : m.length - (g + 1) = 0 ∧ q2 = q ∨ ∀ b off, q2 = some ⟨b, off, none⟩ → w.heap.size ≤ b) : Stb S w' fun u => HpIn u q2 (m.take g ++ m.drop (g + 1)) := fun u hu => by
 have h0 := (h.no hE) u hu
 have hsub := take_drop_sub m g
 refine ⟨?_, fun y hy => h0.ins y (hsub.subset hy), Nat.lt_of_le_of_lt hsub.length_le h0.len, Nat.lt_of_le_of_lt (flat_sub _ hsub) h0.lk⟩
 rcases hn with ⟨e1, e2⟩ | hn
 ·have e : m.drop (g + 1) = [] := List.drop_eq_nil_of_le (by omega)
  rw [e, List.append_nil, e2]
  exact h0.sl.cut h0.c g
 ·exact hs.ext hu fun b off e k => by have := hn b off e; have := hS b k; omega
/-- a heap that was put is as it is, whatever turns of S -/
theorem stb_put {S T : Nat → Prop} {w w' : World} {q q2 : Option Addr} {k2 : Nat} {m : List HeldT} {xs : List ObjX} (h : Stb T w fun u => HpIn u q m) (hE : Ext No w w') (hST : ∀ x, x < w.heap.size → S x → T x) (ho : Own w' q2 (putW m xs).length k2 84 105 ((putW m xs).flatMap heldC)) (hS : ∀ x, OwnB q2 x → ¬ S x)
  (hx : ∀ x ∈ xs, Stb S w' fun u => HeldIn u (heldO x)) (hl : (putW m xs).length < 1000000) (hk : ((putW m xs).flatMap fun e => linksOf e.o).length < 100000) : Stb S w' fun u => HpIn u q2 (putW m xs) := fun u hu =>
 ⟨(ho.ext hu hS).sl, putW_mem xs ((h.step hE (fun _ _ k => k.elim) hST) u hu).ins fun x hm => hx x hm u hu, hl, hk⟩
theorem made_calls (w : World) {ps : Option Addr} {cs : Nat} {steps : List StepT} (hs : Sl w ps steps.length 3 (steps.flatMap stepC)) (hsi : ∀ s ∈ steps, StepIn w s) (hsl : steps.length < 9223372036854775808) (gone : Int) :
  CallsV Tryz.prog 8 [.slice ps steps.length cs, .int .i64 gone] w fun v w' => ∃ q k m qi ki ids, v = .tuple #[.agg #[.slice q m.length k], .slice qi ids.length ki] ∧ MadeQ w w' q m qi ki ids ∧ (toHp m, ids) = (goneD gone (madeD (steps.map StepT.d)).1, (madeD (steps.map StepT.d)).2) ∧ Ext No w w' := by
 refine calls_enter Tryz.func8 rfl rfl rfl rfl ?_
 have hX := Ext.refl No w
 refine c_seq (c_region (wl (st_al I_ok rfl fun b4 w1 hn4 hb4 hE1 => ?_)))
 have fr4 := Nat.le_trans hX.size hn4
 have hX := hX.thenNo hE1
 have hb4 : Blk w1 b4 26 ([.slice none 0 0]) := hb4
 refine wl_p I_ok rfl (wl_nil (f_then (c_seq (c_region (wl (st_al I_ok rfl fun b6 w2 hn6 hb6 hE2 => ?_))))))
 have ne4_6 : b4 ≠ b6 := Nat.ne_of_lt (Nat.lt_of_lt_of_le hb4.lt hn6)
 have fr6 := Nat.le_trans hX.size hn6
 have hb4 := hb4.extNo hE2
 have hX := hX.thenNo hE2
 have hb6 : Blk w2 b6 26 ([.slice none 0 0]) := hb6
 refine wl_nil (f_then (c_seq (c_region (wl_p I_ok rfl (wl_nil (f_then ?_))))))
 refine c_cutK (α := MZ) [1, 4, 6] rfl (fun z => [(7, .slice z.qi z.ids.length z.ki)]) (fun z u => (MadeS w.heap.size (madeD (steps.map StepT.d)) 6 z ∧ MadeY b4 b6 z u) ∧ Blk u b4 26 ([.slice none 0 0]) ∧ Blk u b6 26 ([.slice z.q z.m.length z.k]) ∧ Ext No w u) ?_ ?_
 ·refine c_seq ?_
  refine c_region (wl_p I_ok rfl (wl_nil (f_then (c_block ?_))))
  refine c_loopK (α := Nat × MZ) [1, 4, 6, 21, 22] rfl (fun z => [(7, .slice z.2.qi z.2.ids.length z.2.ki), (23, .int .i64 (z.1 : Int))]) (fun z u => (z.1 ≤ steps.length ∧ z.1 ≤ 6 ∧ MadeS w.heap.size (madeN (steps.map StepT.d) z.1) z.1 z.2 ∧ MadeY b4 b6 z.2 u) ∧ Blk u b4 26 ([.slice none 0 0]) ∧ Blk u b6 26 ([.slice z.2.q z.2.m.length z.2.k]) ∧ Ext No w u) (fun z u => steps.length - z.1) (0, ⟨[], none, 0, [], none, 0⟩) rfl ⟨⟨Nat.zero_le _, Nat.zero_le _, made0 _ _, madeY0 _ _ _⟩, hb4, hb6, hX⟩ ?_
  rintro ⟨i, m, q, k, ids, qi, ki⟩ w3 ⟨⟨hi, hi8, hMS, hMY⟩, hb4, hb6, hX⟩
  try dsimp only
  dsimp only at hi hi8 hMS hMY
  have hR := hMY.round hb4 hb6 (by decide) (by decide)
  have hqiL : ∀ x, OwnB qi x → x < w3.heap.size := fun x hx => hMY.own.lt hx
  obtain ⟨N, hN⟩ : ∃ N, N = w3.heap.size := ⟨_, rfl⟩
  rw [← hN] at hR hqiL
  have hNw : w.heap.size ≤ N := by rw [hN]; exact hX.size
  refine c_seq (c_region (wl_p I_ok rfl (wl_nil (f_then (c_seq (c_if rfl (fun hc => ?_) (fun hc => ?_)))))))
  ·have hi2 : i < steps.length := by omega
   have hiD : i < (steps.map StepT.d).length := by rw [List.length_map]; exact hi2
   have eiD : (steps.map StepT.d)[i] = steps[i].d := by rw [List.getElem_map]
   obtain ⟨sb, so, hp1, hsq⟩ := hs.rowAll (fun r _ => stepC_len r) (by omega)
   have hSi := hsi _ (List.getElem_mem hi2)
   refine wc_put 21 rfl (v' := .slice (some ⟨sb, so, none⟩) steps.length cs) (by rw [hp1]) (c_skip (f_then ?_))
   refine c_cutK (α := MZ) [1, 4, 6, 21, 22, 23] rfl (fun z => [(7, .slice z.qi z.ids.length z.ki)]) (fun z u => (i < 6 ∧ MadeS w.heap.size (madeN (steps.map StepT.d) (i + 1)) (i + 1) z ∧ MadeY b4 b6 z u) ∧ Blk u b4 26 ([.slice none 0 0]) ∧ Blk u b6 26 ([.slice z.q z.m.length z.k]) ∧ Ext No w u) ?_ ?_
   ·refine c_block ?_
    refine c_seq (c_region (wl_p I_ok rfl (wl (st_ix I_ok rfl 3 rfl i rfl (by omega) (so + i * 3) rfl (wl (st_ldN I_ok rfl ((hsq i hi2).extNo hX) rfl ?_))))))
    have hR0 := hR.n
    refine wl (st_al I_ok rfl fun b9 w4 hn9 hb9 hE4 => ?_)
    have ne4_9 : b4 ≠ b9 := Nat.ne_of_lt (Nat.lt_of_lt_of_le hb4.lt hn9)
    have ne6_9 : b6 ≠ b9 := Nat.ne_of_lt (Nat.lt_of_lt_of_le hb6.lt hn9)
    have fr9 := Nat.le_trans hX.size hn9
    have hb4 := hb4.extNo hE4
    have hb6 := hb6.extNo hE4
    have hR := hR.no hE4
    have hX := hX.thenNo hE4
    have fN9 := Nat.le_trans hR0 hn9
    refine wl_p I_ok rfl (wl (st_stW (l' := stepC steps[i]) I_ok hb9 rfl rfl rfl rfl OneC.h fun w5 hb9 hE5 hs5 => ?_))
    have hb4 := hb4.ext1 hE5 ne4_9
    have hb6 := hb6.ext1 hE5 ne6_9
    have hR := hR.one hE5 fN9
    have hX := hX.thenNew hE5 fr9
    refine wl_nil (f_then (c_seq (c_seq (c_region (wl_p I_ok rfl (wl_nil (f_then (c_if rfl (fun hc => ?_) (fun hc => ?_)))))))))
    ·have h8 : i = 6 := by omega
     refine c_exit ?_
     exact f_thenE (f_blockE' rfl (f_thenE (f_thenE (f_blockE (f_cut (⟨m, q, k, ids, qi, ki⟩) rfl ⟨⟨hMS.done (.inl h8), hR.y⟩, hb4, hb6, hX⟩)))))
    ·have h8 : i < 6 := by omega
     refine c_skip (f_then (c_seq (c_region (wl_p I_ok rfl (wl (st_ldN I_ok rfl (show Seg _ _ _ [.slice steps[i].mp steps[i].rows.length steps[i].mc] from hb9.seg.take 1) rfl ?_))))))
     refine wl (st_call Tryz.call28 rfl rfl rfl rfl rfl rfl (tex8_calls w5 (hSi.rows.extNo hX) hSi.rl) fun v6 w6 hr6 => ?_)
     obtain ⟨q8, k8, rfl, h8o, h8n, hE6⟩ := hr6
     have hb4 := hb4.extNo hE6
     have hb6 := hb6.extNo hE6
     have hb9 := hb9.extNo hE6
     have hR := hR.no hE6
     have hX := hX.thenNo hE6
     have hR0 := hR.n
     refine wl (st_al I_ok rfl fun b10 w7 hn10 hb10 hE7 => ?_)
     have ne4_10 : b4 ≠ b10 := Nat.ne_of_lt (Nat.lt_of_lt_of_le hb4.lt hn10)
     have ne6_10 : b6 ≠ b10 := Nat.ne_of_lt (Nat.lt_of_lt_of_le hb6.lt hn10)
     have ne9_10 : b9 ≠ b10 := Nat.ne_of_lt (Nat.lt_of_lt_of_le hb9.lt hn10)
     have fr10 := Nat.le_trans hX.size hn10
     have hb4 := hb4.extNo hE7
     have hb6 := hb6.extNo hE7
     have hb9 := hb9.extNo hE7
     have hR := hR.no hE7
     have h8o := h8o.ext hE7 fun _ _ => id
     have hX := hX.thenNo hE7
     have fN10 := Nat.le_trans hR0 hn10
     have hb10o := hb10
     refine wl (st_stW (l' := [.slice q8 (tex8 steps[i].rows).length k8]) I_ok hb10 rfl rfl rfl rfl OneC.h fun w8 hb10 hE8 hs8 => ?_)
     have hb4 := hb4.ext1 hE8 ne4_10
     have hb6 := hb6.ext1 hE8 ne6_10
     have hb9 := hb9.ext1 hE8 ne9_10
     have hR := hR.one hE8 fN10
     have h8o := h8o.extTy hE8 hb10o (by decide)
     have hX := hX.thenNew hE8 fr10
     refine wl_nil (f_then (c_seq (c_seq (c_region (wl (st_ldB I_ok hb10 rfl rfl ?_))))))
     refine wl (st_call Tryz.call29 rfl rfl rfl rfl rfl rfl (right5_calls w8 h8o.sl (by have := tex8_len steps[i].rows; omega) (fun r hr => by have := (tex8_in steps[i].rows r hr).1; omega)) fun v9 w9 hr9 => ?_)
     obtain ⟨rfl, hE9⟩ := hr9
     have hb4 := hb4.extNo hE9
     have hb6 := hb6.extNo hE9
     have hb9 := hb9.extNo hE9
     have hb10 := hb10.extNo hE9
     have hR := hR.no hE9
     have h8o := h8o.ext hE9 fun _ _ => id
     have hX := hX.thenNo hE9
     refine wl_p I_ok rfl (wl_nil (f_then (c_cond rfl (fun hc => ?_) (fun hc => ?_))))
     ·have hro : ¬ RowsOk (tex8 steps[i].rows) := by simpa using hc
      refine c_exit ?_
      exact f_thenE (f_blockE (f_cut (⟨m, q, k, ids, qi, ki⟩) rfl ⟨⟨h8, hMS.skip hiD (by rw [eiD]; exact fun e => hro e.1), hR.y⟩, hb4, hb6, hX⟩))
     ·have hro : RowsOk (tex8 steps[i].rows) := by simpa using hc
      refine c_skip (f_then (c_seq (c_region (wl_p I_ok rfl (wl_nil (f_then (c_seq (c_region (wl (st_ldB I_ok hb10 rfl rfl ?_))))))))))
      have hRp := hR.n
      refine wl (st_call Tryz.call30 rfl rfl rfl rfl rfl rfl (parts6_calls w9 hro h8o.sl) fun v10 w10 hr10 => ?_)
      obtain ⟨qP0, kP0, lp, lc, hP1, hP2, hPn, hlf, hln, hE10⟩ := hr10
      have hb4 := hb4.extNo hE10
      have hb6 := hb6.extNo hE10
      have hb9 := hb9.extNo hE10
      have hR := hR.no hE10
      have hX := hX.thenNo hE10
      obtain ⟨qP, nP, kP, rfl, hPo, hPz, hPn2⟩ := parts_shape hP1 hP2 hPn
      have hln2 : ∀ y, OwnB lp y → N ≤ y := fun y hy => Nat.le_trans hRp (hln y hy)
      obtain ⟨htin, htsh⟩ := tree_ok (l := steps[i].rows)
      refine wl_p I_ok rfl (wl_nil (f_then (c_seq (c_seq (c_region (wl_p I_ok rfl (wl_nil (f_then (c_if rfl (fun hc => ?_) (fun hc => ?_))))))))))
      ·have hok : ¬ ObjOk (treeOf (tex8 steps[i].rows)) := fun k => by have := (hPo k).1; rw [refP_len] at this; have h0 : (nP : Int) = 0 := hc; omega
       refine c_exit ?_
       exact f_thenE (f_blockE (f_cut (⟨m, q, k, ids, qi, ki⟩) rfl ⟨⟨h8, hMS.skip hiD (by rw [eiD]; exact fun e => hok e.2), hR.y⟩, hb4, hb6, hX⟩))
      ·have hok : ObjOk (treeOf (tex8 steps[i].rows)) := Decidable.byContradiction fun k => hc (by rw [hPz k]; rfl)
       obtain ⟨rfl, hpt⟩ := hPo hok
       have hPlen := refP_len (tex8 steps[i].rows) (lfP lp lc)
       have hPl2 := refT_len (tex8 steps[i].rows)
       have hPl3 := tex8_len steps[i].rows
       obtain ⟨pb, Lp, hpb, hpB, hpL, hpc, hpm, hpk⟩ := hpt.opened (by omega)
       subst hpb
       have hPid : ∀ x ∈ (refP (tex8 steps[i].rows) (lfP lp lc)), x.id.length = 32 ∧ ObjIn x.o := refP_all (fun t ht => ⟨idOf_len _, blobO_in _⟩) ⟨idOf_len _, htin⟩
       have hPc : ∀ x ∈ (refP (tex8 steps[i].rows) (lfP lp lc)), (heldC x).length = 105 := fun x hx => heldC_len (hPid x hx).1 (hPid x hx).2
       obtain ⟨pb2, po2, eq2, hpr⟩ := hpt.sl.rowAll hPc (by omega)
       cases eq2
       have hlt1 : (refP (tex8 steps[i].rows) (lfP lp lc)).length - 1 < (refP (tex8 steps[i].rows) (lfP lp lc)).length := by omega
       have hla := held_id (hpr _ hlt1)
       rw [refP_last] at hla
       dsimp only at hla
       refine c_skip (f_then (c_seq (c_seq (c_region (wl_p I_ok rfl (wl_nil (f_then (c_block ?_))))))))
       refine c_loopK (α := Nat × Option Addr × Nat) [1, 4, 6, 7, 9, 12, 21, 22, 23, 41, 42] rfl (fun z => [(11, .slice z.2.1 (objs ((refP (tex8 steps[i].rows) (lfP lp lc)).take z.1)).length z.2.2), (43, .int .i64 (z.1 : Int))]) (fun z u => (z.1 ≤ (refP (tex8 steps[i].rows) (lfP lp lc)).length ∧ Own u z.2.1 (objs ((refP (tex8 steps[i].rows) (lfP lp lc)).take z.1)).length z.2.2 48 73 ((objs ((refP (tex8 steps[i].rows) (lfP lp lc)).take z.1)).flatMap objX) ∧ (∀ y, OwnB z.2.1 y → N ≤ y) ∧ Own u (some ⟨pb, 0, none⟩) (refP (tex8 steps[i].rows) (lfP lp lc)).length kP 84 105 ((refP (tex8 steps[i].rows) (lfP lp lc)).flatMap heldC) ∧ Own u lp (leavesOf (tex8 steps[i].rows)).length lc 50 33 ((leavesOf (tex8 steps[i].rows)).flatMap LeafD.cells) ∧ MadeR N b4 b6 ⟨m, q, k, ids, qi, ki⟩ u) ∧ Blk u b4 26 ([.slice none 0 0]) ∧ Blk u b6 26 ([.slice q m.length k]) ∧ Blk u b9 79 (stepC steps[i]) ∧ Ext No w u) (fun z u => (refP (tex8 steps[i].rows) (lfP lp lc)).length - z.1) (0, none, 0) rfl ⟨⟨Nat.zero_le _, Own.nil _ _ _, noOwn, hpt, hlf, hR⟩, hb4, hb6, hb9, hX⟩ ?_
       rintro ⟨j, q9, k9⟩ w11 ⟨⟨hj, h9, h9n, hpt, hlf, hR⟩, hb4, hb6, hb9, hX⟩
       try dsimp only
       dsimp only at hj h9 h9n hpt hlf hR
       refine c_seq (c_region (wl_p I_ok rfl (wl_nil (f_then (c_seq (c_if rfl (fun hc => ?_) (fun hc => ?_)))))))
       ·have hj2 : j < (refP (tex8 steps[i].rows) (lfP lp lc)).length := by omega
        obtain ⟨pb3, po3, eq3, hpr⟩ := hpt.sl.rowAll hPc (by omega)
        cases eq3
        have hidj := hPid _ (List.getElem_mem hj2)
        have hjl : (objs ((refP (tex8 steps[i].rows) (lfP lp lc)).take j)).length = j := by rw [List.length_map, List.length_take]; omega
        refine c_skip (f_then (c_seq (c_block (c_seq (c_region (wl (st_ix I_ok rfl 105 rfl j rfl hj2 (0 + j * 105) rfl (wl (st_ldN I_ok rfl (hpr j hj2) (hPc _ (List.getElem_mem hj2)) ?_)))))))))
        have hR0 := hR.n
        have hpt0 := hpt
        refine wl (st_al I_ok rfl fun b14 w12 hn14 hb14 hE12 => ?_)
        have ne4_14 : b4 ≠ b14 := Nat.ne_of_lt (Nat.lt_of_lt_of_le hb4.lt hn14)
        have ne6_14 : b6 ≠ b14 := Nat.ne_of_lt (Nat.lt_of_lt_of_le hb6.lt hn14)
        have ne9_14 : b9 ≠ b14 := Nat.ne_of_lt (Nat.lt_of_lt_of_le hb9.lt hn14)
        have fr14 := Nat.le_trans hX.size hn14
        have hb4 := hb4.extNo hE12
        have hb6 := hb6.extNo hE12
        have hb9 := hb9.extNo hE12
        have hR := hR.no hE12
        have hlf := hlf.ext hE12 fun _ _ => id
        have hpt := hpt.ext hE12 fun _ _ => id
        have h9 := h9.ext hE12 fun _ _ => id
        have hX := hX.thenNo hE12
        have fN14 := Nat.le_trans hR0 hn14
        have ne14 : ∀ x, OwnB (some ⟨pb, 0, none⟩) x → x ≠ b14 := fun x hx => Nat.ne_of_lt (Nat.lt_of_lt_of_le (hpt0.lt hx) hn14)
        have hb14o := hb14
        refine wl (st_stW (l' := heldC (refP (tex8 steps[i].rows) (lfP lp lc))[j]) I_ok hb14 rfl rfl (hPc _ (List.getElem_mem hj2)) (by rw [hPc _ (List.getElem_mem hj2)]; rfl) OneC.h fun w13 hb14 hE13 hs13 => ?_)
        have hb4 := hb4.ext1 hE13 ne4_14
        have hb6 := hb6.ext1 hE13 ne6_14
        have hb9 := hb9.ext1 hE13 ne9_14
        have hR := hR.one hE13 fN14
        have hlf := hlf.extTy hE13 hb14o (by decide)
        have hpt := hpt.ext hE13 (fun x hx => ne14 x hx)
        have h9 := h9.extTy hE13 hb14o (by decide)
        have hX := hX.thenNew hE13 fr14
        refine wl_nil (f_then (c_region (wl_p I_ok rfl (wl (st_ldN I_ok rfl (held_obj hb14.seg hidj.1) (objC_len hidj.2) ?_)))))
        refine wl (st_bs I_ok rfl 73 rfl objZ_c.symm (by rw [objC_len objZ_in]) (by decide) (by decide) ⟨⟨by rw [cellsOf_agg]; exact objC_len hidj.2, by decide⟩, trivial⟩ (l' := objC (refP (tex8 steps[i].rows) (lfP lp lc))[j].o (refP (tex8 steps[i].rows) (lfP lp lc))[j].a) (one_obj hidj.2) fun b50 w14 hn50 hb50 hE14 hs14 => ?_)
        have hb4 := hb4.extNo hE14
        have hb6 := hb6.extNo hE14
        have hb9 := hb9.extNo hE14
        have hR := hR.no hE14
        have hlf := hlf.ext hE14 fun _ _ => id
        have hpt := hpt.ext hE14 fun _ _ => id
        have h9 := h9.ext hE14 fun _ _ => id
        have hX := hX.thenNo hE14
        have hX1 := hX
        have hR1 := hR.n
        have hs50 : Sl w14 (some ⟨b50, 0, none⟩) 1 73 (objC (refP (tex8 steps[i].rows) (lfP lp lc))[j].o (refP (tex8 steps[i].rows) (lfP lp lc))[j].a) := ⟨objC_len hidj.2, .inr ⟨b50, 0, rfl, hb50.seg⟩⟩
        refine wl (st_app I_ok rfl 73 192 rfl rfl rfl (by decide) h9 (Src.slice (m := 1) hs50 OneC.h) (by rw [hjl]; dsimp only [maxLen]; omega) (by dsimp only; rw [hjl]; omega) fun p15 c15 w15 ho15 hE15 hB15 => ?_)
        dsimp only at ho15 hE15 hB15 ⊢
        have hX := hX1.trans hE15 fun y hy hF => by have := h9n y hF; omega
        have hb4 := hb4.extOwn h9 hE15 (by decide)
        have hb6 := hb6.extOwn h9 hE15 (by decide)
        have hb9 := hb9.extOwn h9 hE15 (by decide)
        have hR := hR.app hE15 h9n
        have hlf := hlf.ext hE15 (fun x hx hx2 => by obtain ⟨L1, h1⟩ := hlf.blkAt hx; obtain ⟨L2, h2⟩ := h9.blkAt hx2; exact absurd (h1.uniq h2).2 (by decide))
        have hpt := hpt.ext hE15 (fun x hx hx2 => by obtain ⟨L1, h1⟩ := hpt.blkAt hx; obtain ⟨L2, h2⟩ := h9.blkAt hx2; exact absurd (h1.uniq h2).2 (by decide))
        have e3 : (objs ((refP (tex8 steps[i].rows) (lfP lp lc)).take (j + 1))).length = (objs ((refP (tex8 steps[i].rows) (lfP lp lc)).take j)).length + 1 := by rw [hjl, List.length_map, List.length_take]; omega
        obtain ⟨q92, k92, e1, e2, h92⟩ : ∃ q2 k2, q2 = p15 ∧ k2 = c15 ∧ Own w15 q2 (objs ((refP (tex8 steps[i].rows) (lfP lp lc)).take (j + 1))).length k2 48 73 ((objs ((refP (tex8 steps[i].rows) (lfP lp lc)).take (j + 1))).flatMap objX) := ⟨_, _, rfl, rfl, by
         rw [e3, objs_step hj2]
         exact ho15⟩
        rw [← e1] at hB15
        rw [← e1, ← e2, ← e3]
        have h9n2 : (∀ y, OwnB q92 y → N ≤ y) := fun x hx => (hB15 x hx).elim (fun h => h9n x h) fun h => Nat.le_trans hR1 h
        refine wl_p I_ok rfl (wl_nil (f_blockN (f_then (c_region (wl_p I_ok rfl ?_)))))
        rw [IntWalk.i64_in _ (by omega)]
        refine wl_nil ?_
        exact f_round (j + 1, q92, k92) rfl ⟨⟨hj2, h92, h9n2, hpt, hlf, hR⟩, hb4, hb6, hb9, hX⟩ (by first | omega | (dsimp only; omega))
       ·have hjz : j = (refP (tex8 steps[i].rows) (lfP lp lc)).length := by omega
        subst hjz
        rw [List.take_length] at h9
        rw [List.take_length]
        obtain ⟨pb3, po3, eq3, hpr⟩ := hpt.sl.rowAll hPc (by omega)
        cases eq3
        have hla := held_id (hpr _ hlt1)
        rw [refP_last] at hla
        dsimp only at hla
        refine c_exit (f_thenE (f_thenE (f_blockE (f_then (c_seq ?_)))))
        refine c_draw rfl 16 [(0, true), (1, true), (2, true), (3, true), (4, true), (5, true), (6, true), (7, true), (8, true), (9, true), (10, true), (11, true), (12, true), (13, true), (14, true), (15, false)] [16] (No) (by kernel_rfl) fun w16 hE16 hs16 => ?_
        have hd9 := hb9
        have hlad := hla
        have hb4 := hb4.extNo hE16
        have hb6 := hb6.extNo hE16
        have hb9 := hb9.extNo hE16
        have hR := hR.no hE16
        have hlf := hlf.ext hE16 fun _ _ => id
        have h9 := h9.ext hE16 fun _ _ => id
        have hX := hX.thenNo hE16
        have hC : Ext (No) _ w16 := hE16.no
        refine wd_k I_ok 4 rfl ?_
        rw [show ((((refP (tex8 steps[i].rows) (lfP lp lc)).length : Nat) : Int) - 1) = (((refP (tex8 steps[i].rows) (lfP lp lc)).length - 1 : Nat) : Int) from by omega, IntWalk.i64_in _ (by omega)]
        refine wd_ix I_ok rfl rfl 105 rfl ((refP (tex8 steps[i].rows) (lfP lp lc)).length - 1) rfl hlt1 (0 + ((refP (tex8 steps[i].rows) (lfP lp lc)).length - 1) * 105) rfl (wd_k I_ok 1 rfl ?_)
        refine wd_ldN I_ok rfl rfl (fun w' hw' => (hlad.extNo hw')) (by rw [bytesU_len, idOf_len]) ?_
        refine wd_k I_ok 1 rfl (wd_ld I_ok rfl rfl (fun w' hw' => (hd9.extNo hw').cell rfl) ?_)
        refine wd_k I_ok 1 rfl (wd_ld I_ok rfl rfl (fun w' hw' => (hd9.extNo hw').cell rfl) ?_)
        refine wd_k I_ok 2 rfl (wd_ss I_ok rfl rfl 0 (min _ 20) (cutBds _ _) ?_)
        rw [strU_cut]
        refine wd_bd I_ok rfl rfl ⟨⟨rfl, by decide⟩, ⟨rfl, by decide⟩, ⟨by rw [cellsOf_agg, bytesU_len, idOf_len], by decide⟩, ⟨rfl, by decide⟩, trivial⟩ (l' := objC (comT (toHp m) ids steps[i].d 0) noP) (by rw [← objZ_c]; exact com_build (idOf_len _) _) ?_
        have hR0 := hR.n
        have h90 := h9
        have hnu : ∀ p, ((toHp m).kObj p 3).number < 1000 := fun p => by have := kObj_num hMS.few.num p 3; dsimp only at this; omega
        have hc0 := comT_in (s := steps[i].d) hMS.ids (.inl rfl) hnu
        refine wd_l rfl (st_al I_ok rfl fun b15 w17 hn15 hb15 hE17 => ⟨hC.thenNo hE17, ?_⟩)
        have ne4_15 : b4 ≠ b15 := Nat.ne_of_lt (Nat.lt_of_lt_of_le hb4.lt hn15)
        have ne6_15 : b6 ≠ b15 := Nat.ne_of_lt (Nat.lt_of_lt_of_le hb6.lt hn15)
        have ne9_15 : b9 ≠ b15 := Nat.ne_of_lt (Nat.lt_of_lt_of_le hb9.lt hn15)
        have fr15 := Nat.le_trans hX.size hn15
        have hb4 := hb4.extNo hE17
        have hb6 := hb6.extNo hE17
        have hb9 := hb9.extNo hE17
        have hR := hR.no hE17
        have hlf := hlf.ext hE17 fun _ _ => id
        have h9 := h9.ext hE17 fun _ _ => id
        have hX := hX.thenNo hE17
        have hC := hC.thenNo hE17
        have fN15 := Nat.le_trans hR0 hn15
        have nq9_15 : ∀ x, OwnB q9 x → x ≠ b15 := fun x hx => Nat.ne_of_lt (Nat.lt_of_lt_of_le (h90.lt hx) hn15)
        refine wd_sw ?_
        have hb15o := hb15
        refine wb rfl (st_stW (l' := objC (comT (toHp m) ids steps[i].d 0) noP) I_ok hb15 rfl rfl (objC_len hc0) (by rw [objC_len hc0]; rfl) OneC.h fun w18 hb15 hE18 hs18 => ?_)
        have hb4 := hb4.ext1 hE18 ne4_15
        have hb6 := hb6.ext1 hE18 ne6_15
        have hb9 := hb9.ext1 hE18 ne9_15
        have hR := hR.one hE18 fN15
        have hlf := hlf.extTy hE18 hb15o (by decide)
        have h9 := h9.ext hE18 (fun x hx => nq9_15 x hx)
        have hX := hX.thenNew hE18 fr15
        refine wb_nil (f_then ?_)
        refine c_cutK (α := Option Addr × Nat) [1, 4, 6, 7, 11, 15, 21, 22, 23] rfl (fun z => []) (fun z u => (Own u z.1 (parD ids steps[i].back).length z.2 31 32 ((parD ids steps[i].back).flatMap bytesU) ∧ (∀ y, OwnB z.1 y → N ≤ y) ∧ Own u q9 (objs (refP (tex8 steps[i].rows) (lfP lp lc))).length k9 48 73 ((objs (refP (tex8 steps[i].rows) (lfP lp lc))).flatMap objX) ∧ Own u lp (leavesOf (tex8 steps[i].rows)).length lc 50 33 ((leavesOf (tex8 steps[i].rows)).flatMap LeafD.cells) ∧ MadeR N b4 b6 ⟨m, q, k, ids, qi, ki⟩ u) ∧ Blk u b4 26 ([.slice none 0 0]) ∧ Blk u b6 26 ([.slice q m.length k]) ∧ Blk u b15 48 (objC (comD (toHp m) ids steps[i].d) (parP z.1 z.2)) ∧ Ext No w u) ?_ ?_
        ·refine c_seq ?_
         refine c_region (wl_p I_ok rfl (wl (st_ldb I_ok hb9 rfl rfl (wl_p I_ok rfl (wl_nil (f_then (c_block ?_)))))))
         refine c_loopK (α := Nat × Option Addr × Nat) [1, 4, 6, 7, 11, 15, 21, 22, 23, 69, 70] rfl (fun z => [(71, .int .i64 (z.1 : Int))]) (fun z u => ((z.1 ≤ steps[i].back.length ∧ z.1 ≤ 2 ∧ (z.1 = 0 ∨ ids.length ≠ 0) ∧ ∀ a b, ((steps[i].back.take z.1).map (pickI ids)) = [a, b] → b ≠ a) ∧ Own u z.2.1 ((steps[i].back.take z.1).map (pickI ids)).length z.2.2 31 32 (((steps[i].back.take z.1).map (pickI ids)).flatMap bytesU) ∧ (∀ y, OwnB z.2.1 y → N ≤ y) ∧ Own u q9 (objs (refP (tex8 steps[i].rows) (lfP lp lc))).length k9 48 73 ((objs (refP (tex8 steps[i].rows) (lfP lp lc))).flatMap objX) ∧ Own u lp (leavesOf (tex8 steps[i].rows)).length lc 50 33 ((leavesOf (tex8 steps[i].rows)).flatMap LeafD.cells) ∧ MadeR N b4 b6 ⟨m, q, k, ids, qi, ki⟩ u) ∧ Blk u b4 26 ([.slice none 0 0]) ∧ Blk u b6 26 ([.slice q m.length k]) ∧ Blk u b15 48 (objC (comT (toHp m) ids steps[i].d z.1) (parP z.2.1 z.2.2)) ∧ Ext No w u) (fun z u => steps[i].back.length - z.1) (0, none, 0) rfl ⟨⟨⟨Nat.zero_le _, Nat.zero_le _, .inl rfl, fun a b e => (by cases e)⟩, Own.nil _ _ _, noOwn, h9, hlf, hR⟩, hb4, hb6, hb15, hX⟩ ?_
         rintro ⟨t, pp, pc⟩ w19 ⟨⟨⟨ht1, ht2, ht3, ht4⟩, hpp, hppn, h9, hlf, hR⟩, hb4, hb6, hb15, hX⟩
         try dsimp only
         dsimp only at ht1 ht2 ht3 ht4 hpp hppn
         refine c_seq (c_region (wl_p I_ok rfl (wl_nil (f_then (c_seq (c_if rfl (fun hc => ?_) (fun hc => ?_)))))))
         ·have htl : t < steps[i].back.length := by omega
          have hbl := hSi.bl
          obtain ⟨bb, bo, hbp, hbr⟩ := hSi.back.rowAll (fun r _ => rfl) (by omega)
          have hct := comT_in (s := steps[i].d) hMS.ids ht3 hnu
          refine wc_put 69 rfl (v' := .slice (some ⟨bb, bo, none⟩) steps[i].back.length steps[i].bc) (by rw [hbp]) (c_skip (f_then (c_seq (c_block (c_seq (c_region (wl_p I_ok rfl ?_)))))))
          refine wl (st_ix I_ok rfl 1 rfl t rfl (by omega) (bo + t * 1) rfl (wl (st_ld I_ok rfl (by have := ((hbr t htl).extNo hX) 0 _ rfl; exact this) (wl_p I_ok rfl (wl_nil (f_then (c_seq ?_)))))))
          refine c_cutK (α := Bool) [1, 4, 6, 7, 11, 15, 16, 17, 21, 22, 23, 69, 70, 71] rfl (fun z => [(82, .bool z)]) (fun z u => u = w19 ∧ z = decide (t = 2 ∨ ids.length = 0)) ?_ ?_
          ·refine c_region ?_
           refine wl_p I_ok rfl (wl_caseD 78 rfl (fun hg => ?_) (fun hg => ?_))
           ·have hg1 : t = 2 := by omega
            refine wl_pk I_ok 4 rfl (wl_nil ?_)
            exact f_cut (true) rfl ⟨rfl, (decide_eq_true (.inl hg1)).symm⟩
           ·have hg1 : ¬ t = 2 := by omega
            refine wl_pk I_ok 4 rfl (wl_nil ?_)
            exact f_cut (_) rfl ⟨rfl, by rw [decide_eq_decide]; exact ⟨fun k => .inr (by omega), fun k => k.elim (fun k => absurd k hg1) fun k => by omega⟩⟩
          rintro z w20 ⟨hu, rfl⟩
          have hu := hu.symm
          subst hu
          refine c_if rfl (fun hc => ?_) (fun hc => ?_)
          ·have hpd : parD ids steps[i].back = ((steps[i].back.take t).map (pickI ids)) := by
            by_cases h0 : ids.length = 0
            ·rw [parD_none h0]
             rcases ht3 with k | k
             ·rw [k]; rfl
             ·exact absurd h0 k
            ·exact parD_all h0 (.inl (hc.elim id fun k => absurd k h0)) ht4
           have hcd : (comT (toHp m) ids steps[i].d t) = (comD (toHp m) ids steps[i].d) := comT_done ht1 hpd
           rw [← hpd] at hpp
           rw [hcd] at hb15
           refine c_exit ?_
           exact f_thenE (f_blockE' rfl (f_thenE (f_thenE (f_blockE (f_cut (pp, pc) rfl ⟨⟨hpp, hppn, h9, hlf, hR⟩, hb4, hb6, hb15, hX⟩)))))
          ·have ht5 : t < 2 := by omega
           have hl0 : 0 < ids.length := by omega
           have hil := hMS.il
           dsimp only at hil
           have hilen : ids.length < 1000000 := by omega
           have hix := ix64_lt steps[i].back[t] hl0
           have hids := hMS.ids
           dsimp only at hids
           obtain ⟨ib, io, hqi, hir⟩ := (hR.own.now).sl.rowAll (fun r hr => (hids r hr : IdIn r).len) (by dsimp only; omega)
           dsimp only at hqi hir
           have hpi := pickI_in hids (by omega) steps[i].back[t]
           have hpe := pickI_at (b := steps[i].back[t]) hix
           refine wc_put 7 rfl (v' := .slice (some ⟨ib, io, none⟩) ids.length ki) (by rw [hqi]) (c_skip (f_then (c_seq (c_region (wl_pk I_ok 6 rfl (wl (st_dv I_ok rfl (u64_len hl0 hilen) ?_)))))))
           rw [show dvV false IntKind.u64 (IntKind.u64.wrap steps[i].back[t]) (IntKind.u64.wrap (ids.length : Int)) = .int .u64 ((IntKind.u64.wrap steps[i].back[t]).tmod (IntKind.u64.wrap (ids.length : Int))) from rfl]
           refine wl_p I_ok rfl ?_
           rw [ix64_eq _ hl0 hilen]
           refine wl (st_ix I_ok rfl 32 rfl (ix64 steps[i].back[t] ids.length) rfl hix (io + ix64 steps[i].back[t] ids.length * 32) rfl (wl (st_ldN I_ok rfl (by have := hir _ hix; rw [← hpe] at this; exact this) hpi.len ?_)))
           have hR0 := hR.n
           have h90 := h9
           have hpp0 := hpp
           refine wl (st_al I_ok rfl fun b18 w21 hn18 hb18 hE21 => ?_)
           have ne4_18 : b4 ≠ b18 := Nat.ne_of_lt (Nat.lt_of_lt_of_le hb4.lt hn18)
           have ne6_18 : b6 ≠ b18 := Nat.ne_of_lt (Nat.lt_of_lt_of_le hb6.lt hn18)
           have ne15_18 : b15 ≠ b18 := Nat.ne_of_lt (Nat.lt_of_lt_of_le hb15.lt hn18)
           have fr18 := Nat.le_trans hX.size hn18
           have hb4 := hb4.extNo hE21
           have hb6 := hb6.extNo hE21
           have hb15 := hb15.extNo hE21
           have hR := hR.no hE21
           have hlf := hlf.ext hE21 fun _ _ => id
           have h9 := h9.ext hE21 fun _ _ => id
           have hpp := hpp.ext hE21 fun _ _ => id
           have hX := hX.thenNo hE21
           have fN18 := Nat.le_trans hR0 hn18
           have nq9_18 : ∀ x, OwnB q9 x → x ≠ b18 := fun x hx => Nat.ne_of_lt (Nat.lt_of_lt_of_le (h90.lt hx) hn18)
           have ne18 : ∀ x, OwnB pp x → x ≠ b18 := fun x hx => Nat.ne_of_lt (Nat.lt_of_lt_of_le (hpp0.lt hx) hn18)
           have hb18o := hb18
           refine wl (st_stW (l' := bytesU (pickI ids steps[i].back[t])) I_ok hb18 rfl rfl hpi.len (by rw [bytesU_len, hpi]; rfl) OneC.h fun w22 hb18 hE22 hs22 => ?_)
           have hb4 := hb4.ext1 hE22 ne4_18
           have hb6 := hb6.ext1 hE22 ne6_18
           have hb15 := hb15.ext1 hE22 ne15_18
           have hR := hR.one hE22 fN18
           have hlf := hlf.extTy hE22 hb18o (by decide)
           have h9 := h9.ext hE22 (fun x hx => nq9_18 x hx)
           have hpp := hpp.ext hE22 (fun x hx => ne18 x hx)
           have hX := hX.thenNew hE22 fr18
           refine wl_nil (f_then (c_seq ?_))
           refine c_cutK (α := Bool) [1, 4, 6, 7, 11, 15, 18, 21, 22, 23, 69, 70, 71] rfl (fun z => [(102, .bool z)]) (fun z u => (z = decide (t = 1 ∧ ((steps[i].back.take t).map (pickI ids)) = [pickI ids steps[i].back[t]]) ∧ Own u pp ((steps[i].back.take t).map (pickI ids)).length pc 31 32 (((steps[i].back.take t).map (pickI ids)).flatMap bytesU) ∧ Own u q9 (objs (refP (tex8 steps[i].rows) (lfP lp lc))).length k9 48 73 ((objs (refP (tex8 steps[i].rows) (lfP lp lc))).flatMap objX) ∧ Own u lp (leavesOf (tex8 steps[i].rows)).length lc 50 33 ((leavesOf (tex8 steps[i].rows)).flatMap LeafD.cells) ∧ MadeR N b4 b6 ⟨m, q, k, ids, qi, ki⟩ u) ∧ Blk u b4 26 ([.slice none 0 0]) ∧ Blk u b6 26 ([.slice q m.length k]) ∧ Blk u b15 48 (objC (comT (toHp m) ids steps[i].d t) (parP pp pc)) ∧ Blk u b18 31 (bytesU (pickI ids steps[i].back[t])) ∧ Ext No w u) ?_ ?_
           ·refine c_draw rfl 10 [(0, true), (1, true), (2, true), (3, true), (4, true), (5, true), (6, true), (7, true), (8, true), (9, true)] [] (No) (by kernel_rfl) fun w23 hE23 hs23 => ?_
            have hd15 := hb15
            have hd18 := hb18
            have hppd := hpp
            have hb4 := hb4.extNo hE23
            have hb6 := hb6.extNo hE23
            have hb15 := hb15.extNo hE23
            have hb18 := hb18.extNo hE23
            have hR := hR.no hE23
            have hlf := hlf.ext hE23 fun _ _ => id
            have h9 := h9.ext hE23 fun _ _ => id
            have hpp := hpp.ext hE23 fun _ _ => id
            have hX := hX.thenNo hE23
            refine wd_k I_ok 3 rfl (wd_caseD 95 rfl (fun hg => ?_) (fun hg => ?_))
            ·have hg1 : t = 1 := by omega
             have hpl : ((steps[i].back.take t).map (pickI ids)).length = 1 := by rw [List.length_map, List.length_take]; omega
             obtain ⟨p0, hp0⟩ : ∃ p0, ((steps[i].back.take t).map (pickI ids)) = [p0] := List.length_eq_one_iff.1 hpl
             have hp0i : IdIn p0 := hct.parents p0 (by show p0 ∈ ((steps[i].back.take t).map (pickI ids)); rw [hp0]; exact List.mem_cons_self)
             obtain ⟨pb4, po4, hpe4, hpr4⟩ := hppd.sl.rowAll (fun r hr => IdIn.len (hct.parents r hr)) (by omega)
             have hpr0 := hpr4 0 (by omega)
             have hpr5 : Seg w22 pb4 (po4 + 0 * 32) (bytesU p0) := by
              have e : ((steps[i].back.take t).map (pickI ids))[0]'(by omega) = p0 := by simp only [hp0, List.getElem_cons_zero]
              rw [← e]; exact hpr0
             refine wd_ldN I_ok rfl rfl (fun w' hw' => (hd18.extNo hw').seg) hpi.len ?_
             refine wd_k I_ok 1 rfl (wd_ld I_ok rfl rfl (fun w' hw' => ((hd15.extNo hw').seg.obj hct).parents) ?_)
             refine wd_put 98 rfl (v' := .slice (some ⟨pb4, po4, none⟩) ((steps[i].back.take t).map (pickI ids)).length pc) (by show Value.slice pp _ pc = _; rw [hpe4]; rfl) ?_
             refine wd_ix I_ok rfl rfl 32 rfl 0 rfl (by omega) (po4 + 0 * 32) rfl (wd_ldN I_ok rfl rfl (fun w' hw' => (hpr5.extNo hw')) hp0i.len ?_)
             refine wd_eqK rfl rfl gId 10 (by decide) kId (idForm hpi) (idForm hp0i) (idKey hpi) (idKey hp0i) idLits_inj ?_
             simp only [if_true]
             refine wd_k I_ok 1 rfl (wd_sw (wb_nil ?_))
             exact f_cut (_) rfl ⟨⟨by rw [decide_eq_decide]; exact ⟨fun e => ⟨hg1, by rw [hp0, e]⟩, fun e => by rw [hp0] at e; exact (List.cons.inj e.2).1.symm⟩, hpp, h9, hlf, hR⟩, hb4, hb6, hb15, hb18, hX⟩
            ·have hg1 : ¬ t = 1 := by omega
             refine wd_k I_ok 7 rfl (wd_sw (wb_nil ?_))
             exact f_cut (false) rfl ⟨⟨(decide_eq_false fun e => hg1 e.1).symm, hpp, h9, hlf, hR⟩, hb4, hb6, hb15, hb18, hX⟩
           rintro z w24 ⟨⟨rfl, hpp, h9, hlf, hR⟩, hb4, hb6, hb15, hb18, hX⟩
           refine c_if rfl (fun hc => ?_) (fun hc => ?_)
           ·obtain ⟨h1, h2⟩ := hc
            have hpd : parD ids steps[i].back = ((steps[i].back.take t).map (pickI ids)) := by
             rw [h2]
             subst h1
             exact parD_dup (by omega) (List.getElem?_eq_getElem htl) h2 rfl
            have hcd : (comT (toHp m) ids steps[i].d t) = (comD (toHp m) ids steps[i].d) := comT_done ht1 hpd
            rw [← hpd] at hpp
            rw [hcd] at hb15
            refine c_exit (fin_put 7 rfl (v' := .slice qi ids.length ki) (by rw [hqi]) ?_)
            exact f_thenE (f_blockE' rfl (f_thenE (f_thenE (f_blockE (f_cut (pp, pc) rfl ⟨⟨hpp, hppn, h9, hlf, hR⟩, hb4, hb6, hb15, hX⟩)))))
           ·refine c_skip ?_
            refine f_then (c_seq (c_region (wl_p I_ok rfl (wl (st_ld I_ok rfl (hb15.seg.obj hct).parents ?_)))))
            rw [show Value.slice (parP pp pc).pp (comT (toHp m) ids steps[i].d t).parents.length (parP pp pc).pc = .slice pp ((steps[i].back.take t).map (pickI ids)).length pc from rfl]
            refine wl (st_ldB I_ok hb18 rfl hpi.len ?_)
            refine wl (st_bs I_ok rfl 32 rfl idZ_c.symm (by rw [bytesU_len]; rfl) (by decide) (by decide) ⟨⟨by rw [cellsOf_agg]; exact (IdIn.len hpi), by decide⟩, trivial⟩ (l' := bytesU (pickI ids steps[i].back[t])) (one_id hpi) fun b106 w25 hn106 hb106 hE25 hs25 => ?_)
            have hb4 := hb4.extNo hE25
            have hb6 := hb6.extNo hE25
            have hb15 := hb15.extNo hE25
            have hb18 := hb18.extNo hE25
            have hR := hR.no hE25
            have hlf := hlf.ext hE25 fun _ _ => id
            have h9 := h9.ext hE25 fun _ _ => id
            have hpp := hpp.ext hE25 fun _ _ => id
            have hX := hX.thenNo hE25
            have hX1 := hX
            have hR1 := hR.n
            have hptl : ((steps[i].back.take t).map (pickI ids)).length = t := by rw [List.length_map, List.length_take]; omega
            refine wl (st_app I_ok rfl 32 32 rfl rfl rfl (by decide) hpp (Src.slice (m := 1) (one_idS hpi hb106) OneC.h) (by rw [hptl]; dsimp only [maxLen]; omega) (by dsimp only; rw [hptl]; omega) fun p26 c26 w26 ho26 hE26 hB26 => ?_)
            dsimp only at ho26 hE26 hB26 ⊢
            have hX := hX1.trans hE26 fun y hy hF => by have := hppn y hF; omega
            have hb4 := hb4.extOwn hpp hE26 (by decide)
            have hb6 := hb6.extOwn hpp hE26 (by decide)
            have hb15 := hb15.extOwn hpp hE26 (by decide)
            have hb18 := hb18.ext hE26 (fun h => ne18 _ h rfl)
            have hR := hR.app hE26 hppn
            have hlf := hlf.ext hE26 (fun x hx hx2 => by obtain ⟨L1, h1⟩ := hlf.blkAt hx; obtain ⟨L2, h2⟩ := hpp.blkAt hx2; exact absurd (h1.uniq h2).2 (by decide))
            have h9 := h9.ext hE26 (fun x hx hx2 => by obtain ⟨L1, h1⟩ := h9.blkAt hx; obtain ⟨L2, h2⟩ := hpp.blkAt hx2; exact absurd (h1.uniq h2).2 (by decide))
            have e3 : ((steps[i].back.take (t + 1)).map (pickI ids)).length = ((steps[i].back.take t).map (pickI ids)).length + 1 := by rw [back_snoc htl, List.length_append]; rfl
            obtain ⟨pp2, pc2, e1, e2, hpp2⟩ : ∃ q2 k2, q2 = p26 ∧ k2 = c26 ∧ Own w26 q2 ((steps[i].back.take (t + 1)).map (pickI ids)).length k2 31 32 (((steps[i].back.take (t + 1)).map (pickI ids)).flatMap bytesU) := ⟨_, _, rfl, rfl, by
             rw [e3, back_snoc htl, List.flatMap_append, List.flatMap_singleton]
             exact ho26⟩
            rw [← e1] at hB26
            rw [← e1, ← e2, show (((steps[i].back.take t).map (pickI ids)).length + 1) = ((steps[i].back.take (t + 1)).map (pickI ids)).length from e3.symm]
            have hppn2 : (∀ y, OwnB pp2 y → N ≤ y) := fun x hx => (hB26 x hx).elim (fun h => hppn x h) fun h => Nat.le_trans hR1 h
            have ne18b : ∀ x, OwnB pp2 x → ¬ x = b15 := fun x hx => hpp2.neTy hx hb15 (by decide)
            refine wl_p I_ok rfl ?_
            have hb15o := hb15
            refine wl (st_set I_ok hb15 rfl rfl (by rw [objC_len hct]; decide) fun w27 hb15 hE27 hs27 => ?_)
            have hb4 := hb4.ext1 hE27 ne4_15
            have hb6 := hb6.ext1 hE27 ne6_15
            have hb18 := hb18.ext1 hE27 ne15_18.symm
            have hR := hR.one hE27 fN15
            have hlf := hlf.extTy hE27 hb15o (by decide)
            have h9 := h9.ext hE27 (fun x hx => nq9_15 x hx)
            have hpp2 := hpp2.extTy hE27 hb15o (by decide)
            have hX := hX.thenNew hE27 fr15
            have hb15 : Blk w27 b15 48 (objC { (comT (toHp m) ids steps[i].d t) with parents := ((steps[i].back.take (t + 1)).map (pickI ids)) } (parP pp2 pc2)) := (by have e : (objC (comT (toHp m) ids steps[i].d t) (parP pp pc)).set (68 + 0) (.slice pp2 ((steps[i].back.take (t + 1)).map (pickI ids)).length pc2) = objC { (comT (toHp m) ids steps[i].d t) with parents := ((steps[i].back.take (t + 1)).map (pickI ids)) } (parP pp2 pc2) := objC_par hct; rw [← e]; exact hb15)
            refine wl_nil (f_then (c_seq (c_region (wl (st_ldB I_ok hb6 rfl rfl (wl (st_ldB I_ok hb18 rfl hpi.len (wl (st_call Tryz.call31 rfl rfl rfl rfl rfl rfl (commit8_calls w27 hR.hp.now hpi) fun v28 w28 hr28 => ?_)))))))))
            obtain ⟨rfl, hE28⟩ := hr28
            have hb4 := hb4.extNo hE28
            have hb6 := hb6.extNo hE28
            have hb15 := hb15.extNo hE28
            have hR := hR.no hE28
            have hlf := hlf.ext hE28 fun _ _ => id
            have h9 := h9.ext hE28 fun _ _ => id
            have hpp2 := hpp2.ext hE28 fun _ _ => id
            have hX := hX.thenNo hE28
            refine wl_p I_ok rfl ?_
            have hR0 := hR.n
            have h90 := h9
            refine wl (st_al I_ok rfl fun b19 w29 hn19 hb19 hE29 => ?_)
            have ne4_19 : b4 ≠ b19 := Nat.ne_of_lt (Nat.lt_of_lt_of_le hb4.lt hn19)
            have ne6_19 : b6 ≠ b19 := Nat.ne_of_lt (Nat.lt_of_lt_of_le hb6.lt hn19)
            have ne15_19 : b15 ≠ b19 := Nat.ne_of_lt (Nat.lt_of_lt_of_le hb15.lt hn19)
            have fr19 := Nat.le_trans hX.size hn19
            have hb4 := hb4.extNo hE29
            have hb6 := hb6.extNo hE29
            have hb15 := hb15.extNo hE29
            have hR := hR.no hE29
            have hlf := hlf.ext hE29 fun _ _ => id
            have h9 := h9.ext hE29 fun _ _ => id
            have hpp2 := hpp2.ext hE29 fun _ _ => id
            have hX := hX.thenNo hE29
            have fN19 := Nat.le_trans hR0 hn19
            have nq9_19 : ∀ x, OwnB q9 x → x ≠ b19 := fun x hx => Nat.ne_of_lt (Nat.lt_of_lt_of_le (h90.lt hx) hn19)
            have hki := hR.hp.now.kIn (pickI ids steps[i].back[t]) 3
            have hb19o := hb19
            refine wl (st_stW (l' := objC ((toHp m).kObj (pickI ids steps[i].back[t]) 3) (kObjP m (pickI ids steps[i].back[t]) 3)) I_ok hb19 rfl rfl (objC_len hki) (by rw [objC_len hki]; rfl) OneC.h fun w30 hb19 hE30 hs30 => ?_)
            have hb4 := hb4.ext1 hE30 ne4_19
            have hb6 := hb6.ext1 hE30 ne6_19
            have hb15 := hb15.ext1 hE30 ne15_19
            have hR := hR.one hE30 fN19
            have hlf := hlf.extTy hE30 hb19o (by decide)
            have h9 := h9.ext hE30 (fun x hx => nq9_19 x hx)
            have hpp2 := hpp2.extTy hE30 hb19o (by decide)
            have hX := hX.thenNew hE30 fr19
            refine wl_p I_ok rfl (wl_nil (f_then (c_drawX rfl 12 12 [12] (One b15) (by kernel_rfl) fun w31 hE31 hs31 => ?_)))
            have hd19 := hb19
            have hb4 := hb4.extNo hE31
            have hb6 := hb6.extNo hE31
            have hb15 := hb15.extNo hE31
            have hR := hR.no hE31
            have hlf := hlf.ext hE31 fun _ _ => id
            have h9 := h9.ext hE31 fun _ _ => id
            have hpp2 := hpp2.ext hE31 fun _ _ => id
            have hX := hX.thenNo hE31
            have hC : Ext (One b15) _ w31 := hE31.no
            have hct1 := comT_in (s := steps[i].d) (ids := ids) (t := t + 1) hMS.ids (.inr (by omega)) hnu
            have hcm : ObjIn { comT (toHp m) ids steps[i].d t with parents := (steps[i].back.take (t + 1)).map (pickI ids) } := ⟨hct.tree, hct.base, hct1.parents, hct.leaves, hct.rows, hct.number, hct.author⟩
            have hcm2 : ObjIn { comT (toHp m) ids steps[i].d t with parents := (steps[i].back.take (t + 1)).map (pickI ids), style := 1 + ((t + 1 : Nat) : Int) } := ⟨hct.tree, hct.base, hct1.parents, hct.leaves, hct.rows, hct.number, hct.author⟩
            have ht6 : ∀ a b, (steps[i].back.take (t + 1)).map (pickI ids) = [a, b] → b ≠ a := fun a b e he => by
             have hl : ((steps[i].back.take (t + 1)).map (pickI ids)).length = t + 1 := by rw [List.length_map, List.length_take]; omega
             rw [e] at hl
             have h1 : t = 1 := by have : 2 = t + 1 := hl; omega
             rw [back_snoc htl] at e
             have h2 := List.append_inj' e rfl (s₂ := [a]) (t₂ := [b])
             exact hc ⟨h1, by rw [h2.1, ← he, (List.cons.inj h2.2).1]⟩
            refine wx_plan [(0, true), (3, true), (5, true), (6, true), (7, true)] 7 rfl (by kernel_rfl) (wd_k I_ok 3 rfl (wd_ld I_ok rfl rfl (fun w' hw' => ((hd19.ext1 hw' ne15_19.symm).seg.obj hki).number) ?_))
            refine wd_k I_ok 1 rfl (wd_tail rfl (wx_alt [1, 4] rfl (by kernel_rfl) ⟨⟨_, rfl, ?_⟩, ⟨_, rfl, ?_⟩, trivial⟩))
            ·refine st_ld I_ok rfl (hb15.cell (show _ = some (Value.int .i64 (1 + (t : Int))) from rfl)) ⟨hC, ?_⟩
             refine wx_plan [(2, true), (4, false), (8, true), (9, true), (10, false), (11, true)] 0 rfl (by kernel_rfl) (wd_k I_ok 1 rfl ?_)
             rw [IntWalk.i64_in _ (by omega)]
             rw [show (1 + (t : Int)) + 1 = 1 + ((t + 1 : Nat) : Int) from by omega]
             refine wd_l rfl (st_ld I_ok rfl (hb15.seg.obj hcm).number ⟨hC, ?_⟩)
             refine wd_k I_ok 1 rfl ?_
             rw [max_u32 (m := 1000) (hnu _) (by decide)]
             refine wd_k I_ok 1 rfl ?_
             have hb15o := hb15
             refine wd_l rfl (st_st I_ok hb15 rfl rfl rfl fun w32 hb15 hE32 hs32 => ⟨hC.then hE32, ?_⟩)
             have hb4 := hb4.ext1 hE32 ne4_15
             have hb6 := hb6.ext1 hE32 ne6_15
             have hR := hR.one hE32 fN15
             have hlf := hlf.extTy hE32 hb15o (by decide)
             have h9 := h9.ext hE32 (fun x hx => nq9_15 x hx)
             have hpp2 := hpp2.extTy hE32 hb15o (by decide)
             have hX := hX.thenNew hE32 fr15
             have hb15 : Blk w32 b15 48 (objC { comT (toHp m) ids steps[i].d t with parents := (steps[i].back.take (t + 1)).map (pickI ids), style := 1 + ((t + 1 : Nat) : Int) } (parP pp2 pc2)) := hb15
             refine wd_k I_ok 1 rfl (wd_sw ?_)
             have hb15o := hb15
             refine wb rfl (st_set I_ok hb15 rfl rfl (by rw [objC_len hcm2]; decide) fun w33 hb15 hE33 hs33 => ?_)
             have hb4 := hb4.ext1 hE33 ne4_15
             have hb6 := hb6.ext1 hE33 ne6_15
             have hR := hR.one hE33 fN15
             have hlf := hlf.extTy hE33 hb15o (by decide)
             have h9 := h9.ext hE33 (fun x hx => nq9_15 x hx)
             have hpp2 := hpp2.extTy hE33 hb15o (by decide)
             have hX := hX.thenNew hE33 fr15
             have hb15 : Blk w33 b15 48 (objC (comT (toHp m) ids steps[i].d (t + 1)) (parP pp2 pc2)) := (by rw [comT_step htl]; have e := objC_nu (a := parP pp2 pc2) hcm2 (n := max (comT (toHp m) ids steps[i].d t).number (((toHp m).kObj (pickI ids steps[i].d.back[t]) 3).number + 1)); rw [← e]; exact hb15)
             refine wb_nil (f_blockN (f_then (c_region (wl_p I_ok rfl ?_))))
             rw [IntWalk.i64_in _ (by omega)]
             refine wl_nil (fin_put 7 rfl (v' := .slice qi ids.length ki) (by rw [hqi]) (fin_put 69 rfl (v' := .slice steps[i].bp steps[i].back.length steps[i].bc) (by rw [hbp]) ?_))
             exact f_round (t + 1, pp2, pc2) rfl ⟨⟨⟨htl, by omega, .inr (by omega), ht6⟩, hpp2, hppn2, h9, hlf, hR⟩, hb4, hb6, hb15, hX⟩ (by first | omega | (dsimp only; omega))
            ·refine st_ld I_ok rfl (hb15.seg.obj hcm).number ⟨hC, ?_⟩
             refine wx_plan [(8, true), (1, false), (2, true), (9, true), (10, false), (11, true)] 0 rfl (by kernel_rfl) (wd_k I_ok 1 rfl ?_)
             rw [max_u32 (m := 1000) (hnu _) (by decide)]
             refine wd_l rfl (st_ld I_ok rfl (hb15.cell (show _ = some (Value.int .i64 (1 + (t : Int))) from rfl)) ⟨hC, ?_⟩)
             refine wd_k I_ok 1 rfl ?_
             rw [IntWalk.i64_in _ (by omega)]
             rw [show (1 + (t : Int)) + 1 = 1 + ((t + 1 : Nat) : Int) from by omega]
             refine wd_k I_ok 1 rfl ?_
             have hb15o := hb15
             refine wd_l rfl (st_st I_ok hb15 rfl rfl rfl fun w34 hb15 hE34 hs34 => ⟨hC.then hE34, ?_⟩)
             have hb4 := hb4.ext1 hE34 ne4_15
             have hb6 := hb6.ext1 hE34 ne6_15
             have hR := hR.one hE34 fN15
             have hlf := hlf.extTy hE34 hb15o (by decide)
             have h9 := h9.ext hE34 (fun x hx => nq9_15 x hx)
             have hpp2 := hpp2.extTy hE34 hb15o (by decide)
             have hX := hX.thenNew hE34 fr15
             have hb15 : Blk w34 b15 48 (objC { comT (toHp m) ids steps[i].d t with parents := (steps[i].back.take (t + 1)).map (pickI ids), style := 1 + ((t + 1 : Nat) : Int) } (parP pp2 pc2)) := hb15
             refine wd_k I_ok 1 rfl (wd_sw ?_)
             have hb15o := hb15
             refine wb rfl (st_set I_ok hb15 rfl rfl (by rw [objC_len hcm2]; decide) fun w35 hb15 hE35 hs35 => ?_)
             have hb4 := hb4.ext1 hE35 ne4_15
             have hb6 := hb6.ext1 hE35 ne6_15
             have hR := hR.one hE35 fN15
             have hlf := hlf.extTy hE35 hb15o (by decide)
             have h9 := h9.ext hE35 (fun x hx => nq9_15 x hx)
             have hpp2 := hpp2.extTy hE35 hb15o (by decide)
             have hX := hX.thenNew hE35 fr15
             have hb15 : Blk w35 b15 48 (objC (comT (toHp m) ids steps[i].d (t + 1)) (parP pp2 pc2)) := (by rw [comT_step htl]; have e := objC_nu (a := parP pp2 pc2) hcm2 (n := max (comT (toHp m) ids steps[i].d t).number (((toHp m).kObj (pickI ids steps[i].d.back[t]) 3).number + 1)); rw [← e]; exact hb15)
             refine wb_nil (f_blockN (f_then (c_region (wl_p I_ok rfl ?_))))
             rw [IntWalk.i64_in _ (by omega)]
             refine wl_nil (fin_put 7 rfl (v' := .slice qi ids.length ki) (by rw [hqi]) (fin_put 69 rfl (v' := .slice steps[i].bp steps[i].back.length steps[i].bc) (by rw [hbp]) ?_))
             exact f_round (t + 1, pp2, pc2) rfl ⟨⟨⟨htl, by omega, .inr (by omega), ht6⟩, hpp2, hppn2, h9, hlf, hR⟩, hb4, hb6, hb15, hX⟩ (by first | omega | (dsimp only; omega))
         ·have htz : t = steps[i].back.length := by omega
          have hpd : parD ids steps[i].back = ((steps[i].back.take t).map (pickI ids)) := by
           by_cases h0 : ids.length = 0
           ·rw [parD_none h0]
            rcases ht3 with k | k
            ·rw [k]; rfl
            ·exact absurd h0 k
           ·exact parD_all h0 (.inr ⟨htz, ht2⟩) ht4
          have hcd : (comT (toHp m) ids steps[i].d t) = (comD (toHp m) ids steps[i].d) := comT_done ht1 hpd
          rw [← hpd] at hpp
          rw [hcd] at hb15
          refine c_exit ?_
          exact f_thenE (f_thenE (f_blockE (f_cut (pp, pc) rfl ⟨⟨hpp, hppn, h9, hlf, hR⟩, hb4, hb6, hb15, hX⟩)))
        rintro ⟨pp, pc⟩ w36 ⟨⟨hpp, hppn, h9, hlf, hR⟩, hb4, hb6, hb15, hX⟩
        try dsimp only
        dsimp only at hpp hppn
        have hcdi : ObjIn (comD (toHp m) ids steps[i].d) := comD_in hMS.ids (by have : (toHp m).top (parD ids steps[i].back) ≤ 1000 := top_le fun p _ => hnu p; show (toHp m).top (parD ids steps[i].back) < 2 ^ 32; omega)
        refine c_seq (c_draw rfl 6 [(0, true), (1, true), (2, true), (3, false), (4, false), (5, false)] [6] (OwnB q9) (by kernel_rfl) fun w37 hE37 hs37 => ?_)
        have hd6 := hb6
        have hd15 := hb15
        have h9d := h9
        have hb4 := hb4.extNo hE37
        have hb6 := hb6.extNo hE37
        have hb15 := hb15.extNo hE37
        have hR := hR.no hE37
        have hlf := hlf.ext hE37 fun _ _ => id
        have h9 := h9.ext hE37 fun _ _ => id
        have hpp := hpp.ext hE37 fun _ _ => id
        have hX := hX.thenNo hE37
        have hC : Ext (OwnB q9) _ w37 := hE37.no
        refine wd_ldN I_ok rfl rfl (fun w' hw' => ((hd6.ext (show Ext (OwnB q9) _ w' from hw') (fun e => h9d.neTy e hd6 (by decide) rfl)).seg)) rfl ?_
        refine wd_k I_ok 1 rfl (wd_ldN I_ok rfl rfl (fun w' hw' => ((hd15.ext (show Ext (OwnB q9) _ w' from hw') (fun e => nq9_15 _ e rfl)).seg)) (objC_len hcdi) ?_)
        refine wd_l rfl (st_bs I_ok rfl 73 rfl objZ_c.symm (by rw [objC_len objZ_in]) (by decide) (by decide) ⟨⟨by rw [cellsOf_agg]; exact objC_len hcdi, by decide⟩, trivial⟩ (l' := objC (comD (toHp m) ids steps[i].d) (parP pp pc)) (one_obj hcdi) fun b130 w38 hn130 hb130 hE38 hs38 => ⟨hC.thenNo hE38, ?_⟩)
        have hb4 := hb4.extNo hE38
        have hb6 := hb6.extNo hE38
        have hb15 := hb15.extNo hE38
        have hR := hR.no hE38
        have hlf := hlf.ext hE38 fun _ _ => id
        have h9 := h9.ext hE38 fun _ _ => id
        have hpp := hpp.ext hE38 fun _ _ => id
        have hX := hX.thenNo hE38
        have hC := hC.thenNo hE38
        have hX1 := hX
        have hR1 := hR.n
        have hol : (objs (refP (tex8 steps[i].rows) (lfP lp lc))).length = (refP (tex8 steps[i].rows) (lfP lp lc)).length := List.length_map ..
        have hs130 : Sl w38 (some ⟨b130, 0, none⟩) 1 73 (objC (comD (toHp m) ids steps[i].d) (parP pp pc)) := ⟨objC_len hcdi, .inr ⟨b130, 0, rfl, hb130.seg⟩⟩
        refine wd_l rfl (st_app I_ok rfl 73 192 rfl rfl rfl (by decide) h9 (Src.slice (m := 1) hs130 OneC.h) (by dsimp only; rw [hol]; dsimp only [maxLen]; omega) (by dsimp only; rw [hol]; omega) fun p39 c39 w39 ho39 hE39 hB39 => ⟨hC.then hE39, ?_⟩)
        have hC := hC.then hE39
        dsimp only at ho39 hE39 hB39 ⊢
        have hX := hX1.trans hE39 fun y hy hF => by have := h9n y hF; omega
        have hb4 := hb4.extOwn h9 hE39 (by decide)
        have hb6 := hb6.extOwn h9 hE39 (by decide)
        have hb15 := hb15.ext hE39 (fun h => nq9_15 _ h rfl)
        have hR := hR.app hE39 h9n
        have hlf := hlf.ext hE39 (fun x hx hx2 => by obtain ⟨L1, h1⟩ := hlf.blkAt hx; obtain ⟨L2, h2⟩ := h9.blkAt hx2; exact absurd (h1.uniq h2).2 (by decide))
        have hpp := hpp.ext hE39 (fun x hx hx2 => by obtain ⟨L1, h1⟩ := hpp.blkAt hx; obtain ⟨L2, h2⟩ := h9.blkAt hx2; exact absurd (h1.uniq h2).2 (by decide))
        obtain ⟨XS, hXS⟩ : ∃ XS, XS = objs (refP (tex8 steps[i].rows) (lfP lp lc)) ++ [((comD (toHp m) ids steps[i].d), parP pp pc)] := ⟨_, rfl⟩
        obtain ⟨q92, k92, e1, e2, h92⟩ : ∃ q2 k2, q2 = p39 ∧ k2 = c39 ∧ Own w39 q2 XS.length k2 48 73 (XS.flatMap objX) := ⟨_, _, rfl, rfl, by
         rw [hXS, List.flatMap_append, List.length_append, List.flatMap_singleton]
         exact ho39⟩
        rw [← e1, ← e2, show (objs (refP (tex8 steps[i].rows) (lfP lp lc))).length + 1 = XS.length from by rw [hXS, List.length_append]; rfl]
        have hXl : XS.length = (refP (tex8 steps[i].rows) (lfP lp lc)).length + 1 := by rw [hXS, List.length_append, hol]; rfl
        have hwl := putW_len XS m
        have hml := hMS.len
        dsimp only at hml
        have hcl : ∀ u, Sl u pp (parD ids steps[i].back).length 32 ((parD ids steps[i].back).flatMap bytesU) → ObjL u (comD (toHp m) ids steps[i].d) (parP pp pc) := fun u h => ⟨Sl.nil _ _ _, h, Sl.nil _ _ _⟩
        have htl2 : ∀ u, Own u lp (leavesOf (tex8 steps[i].rows)).length lc 50 33 ((leavesOf (tex8 steps[i].rows)).flatMap LeafD.cells) → ObjL u (treeOf (tex8 steps[i].rows)) (lfP lp lc) := fun u h => ⟨h.sl, Sl.nil _ _ _, Sl.nil _ _ _⟩
        have hXall : ∀ {P : ObjX → Prop}, (∀ t ∈ refT (tex8 steps[i].rows), P ((heldB t).o, (heldB t).a)) → P (treeOf (tex8 steps[i].rows), lfP lp lc) → P ((comD (toHp m) ids steps[i].d), parP pp pc) → ∀ x ∈ XS, P x := fun {P} h1 h2 h3 x hx => by
         rw [hXS] at hx
         rcases List.mem_append.1 hx with hx | hx
         ·obtain ⟨y, hy, rfl⟩ := List.mem_map.1 hx
          exact refP_all (P := fun y => P (y.o, y.a)) h1 h2 y hy
         ·rw [List.mem_singleton.1 hx]; exact h3
        have hcsh : Short (comD (toHp m) ids steps[i].d) := ⟨by show 0 < 1000000000; decide, by show (parD ids steps[i].back).length < _; have := parD_len ids steps[i].back; omega, by show 0 < 1000000000; decide, fun _ h => (by cases h), fun _ h => (by cases h)⟩
        have hoIn : ∀ x ∈ XS, ObjIn x.1 := hXall (fun t _ => blobO_in t) htin hcdi
        have hXin : ObjsIn w39 q92 XS := ⟨h92.sl, hoIn, hXall (fun t _ => blob_sh t) htsh hcsh, hXall (fun t _ => blob_l _ _) (htl2 _ hlf) (hcl _ hpp.sl), hXall (fun t ht => (held_okB w39 ht).2.1) (bytes_of hok.1) (comD_bytes _ _ _)⟩
        have hXlk : ∀ x ∈ XS, (linksOf x.1).length ≤ 40 := hXall (fun t _ => Nat.zero_le _) (tree_few _) (com_few _ _ _)
        have hpk : ∀ y ∈ putW m XS, (linksOf y.o).length ≤ 40 := putW_mem XS hMS.few.lk fun x hx => hXlk x hx
        have hpk2 := lk_few (l := putW m XS) (by omega) hpk
        have hRc := hR
        have hlkk : (m.flatMap fun e => linksOf e.o).length + (XS.flatMap fun x => linksOf x.1).length < 100000 := by
         have h1 := flat_few (f := fun e : HeldT => linksOf e.o) (n := 40) hMS.few.lk
         have h2 := flat_few (f := fun e : ObjX => linksOf e.1) (n := 40) hXlk
         dsimp only at h1
         have h3 := Nat.mul_le_mul_right 40 (show m.length ≤ 100 by omega)
         have h4 := Nat.mul_le_mul_right 40 (show XS.length ≤ 100 by omega)
         omega
        refine wd_l rfl (st_call Tryz.call32 rfl rfl rfl rfl rfl rfl (put8_calls w39 (l := m) hR.hp.now hXin (by omega) hlkk) fun v40 w40 hr40 => ⟨(by obtain ⟨q5, k5, rfl, h5o, h5n, h5h, hE40⟩ := hr40; exact hC.thenNo hE40), ?_⟩)
        obtain ⟨q5, k5, rfl, h5o, h5n, h5h, hE40⟩ := hr40
        have hb4 := hb4.extNo hE40
        have hb6 := hb6.extNo hE40
        have hb15 := hb15.extNo hE40
        have hR := hR.no hE40
        have hlf := hlf.ext hE40 fun _ _ => id
        have hpp := hpp.ext hE40 fun _ _ => id
        have hX := hX.thenNo hE40
        have hid := hR.own.now
        dsimp only at hid
        have hst := stb_put (q := q) (m := m) (xs := XS) (S := fun x => x = b4 ∨ x = b6 ∨ OwnB qi x) hRc.hp hE40 (fun _ _ k => .inl k) h5o (fun x hx k => by
          rcases k with k | k | k
          ·exact h5o.neTy hx hb4 (by decide) k
          ·exact h5o.neTy hx hb6 (by decide) k
          ·obtain ⟨L1, h1⟩ := h5o.blkAt hx; obtain ⟨L2, h2⟩ := hid.blkAt k; exact absurd (h1.uniq h2).2 (by decide))
         (hXall (fun t ht u hu => (held_okB u ht).1) (fun u hu => HeldIn.objO htin htsh (htl2 u (hlf.ext hu fun x hx k => by
          rcases k with k | k | k
          ·exact hlf.neTy hx hb4 (by decide) k
          ·exact hlf.neTy hx hb6 (by decide) k
          ·obtain ⟨L1, h1⟩ := hlf.blkAt hx; obtain ⟨L2, h2⟩ := hid.blkAt k; exact absurd (h1.uniq h2).2 (by decide))))
          (fun u hu => HeldIn.objO hcdi hcsh (hcl u (hpp.ext hu fun x hx k => by
          rcases k with k | k | k
          ·exact hpp.neTy hx hb4 (by decide) k
          ·exact hpp.neTy hx hb6 (by decide) k
          ·have := hqiL x k; have := hppn x hx; omega).sl))) (by omega) hpk2
        refine wd_sw ?_
        have hb6o := hb6
        refine wb rfl (st_stW (l' := [.slice q5 (putW m XS).length k5]) I_ok hb6 rfl rfl rfl rfl OneC.h fun w41 hb6 hE41 hs41 => ?_)
        have hb4 := hb4.ext1 hE41 ne4_6
        have hb15 := hb15.ext1 hE41 ne6_15.symm
        have hpp := hpp.extTy hE41 hb6o (by decide)
        have hid := hid.extTy hE41 hb6o (by decide)
        have hst := hst.one hE41 (.inr (.inl rfl))
        have hX := hX.thenNew hE41 fr6
        refine wb_nil (f_then (c_region (wl_p I_ok rfl (wl (st_ldB I_ok hb15 rfl (objC_len hcdi) (wl (st_call Tryz.call33 rfl rfl rfl rfl rfl rfl (id6_calls w41 hcdi (hcl _ hpp.sl) (comD_bytes _ _ _)) fun v42 w42 hr42 => ?_)))))))
        obtain ⟨rfl, hE42⟩ := hr42
        have hb4 := hb4.extNo hE42
        have hb6 := hb6.extNo hE42
        have hid := hid.ext hE42 fun _ _ => id
        have hst := hst.no hE42
        have hX := hX.thenNo hE42
        refine wl (st_bs I_ok rfl 32 rfl idZ_c.symm (by rw [bytesU_len]; rfl) (by decide) (by decide) ⟨⟨by rw [cellsOf_agg]; exact (IdIn.len (idOf_len _)), by decide⟩, trivial⟩ (l' := bytesU (idOf (comD (toHp m) ids steps[i].d))) (one_id (idOf_len _)) fun b136 w43 hn136 hb136 hE43 hs43 => ?_)
        have hb4 := hb4.extNo hE43
        have hb6 := hb6.extNo hE43
        have hid := hid.ext hE43 fun _ _ => id
        have hst := hst.no hE43
        have hX := hX.thenNo hE43
        have hX1 := hX
        refine wl (st_app I_ok rfl 32 32 rfl rfl rfl (by decide) hid (Src.slice (m := 1) (one_idS (idOf_len _) hb136) OneC.h) (by have := hMS.il; dsimp only at this; dsimp only [maxLen]; omega) (by have := hMS.il; dsimp only at this; dsimp only; omega) fun p44 c44 w44 ho44 hE44 hB44 => ?_)
        dsimp only at ho44 hE44 hB44 ⊢
        have hX := hX1.trans hE44 fun y hy hF => by have := hMS.new y hF; omega
        have hb4 := hb4.extOwn hid hE44 (by decide)
        have hb6 := hb6.extOwn hid hE44 (by decide)
        obtain ⟨qi2, ki2, e1, e2, hid2⟩ : ∃ q2 k2, q2 = p44 ∧ k2 = c44 ∧ Own w44 q2 (ids ++ [idOf (comD (toHp m) ids steps[i].d)]).length k2 31 32 ((ids ++ [idOf (comD (toHp m) ids steps[i].d)]).flatMap bytesU) := ⟨_, _, rfl, rfl, by
         rw [List.flatMap_append, List.length_append, List.flatMap_singleton]
         exact ho44⟩
        rw [← e1] at hB44
        have hst := hst.step (S' := fun x => x = b4 ∨ x = b6 ∨ OwnB qi2 x) hE44 (fun x _ e => .inr (.inr e)) (fun x hx k => k.elim .inl fun k => k.elim (fun k => .inr (.inl k)) fun k => (hB44 x k).elim (fun k => .inr (.inr k)) fun k => absurd hx (by omega))
        have hin2 := newW hX1 hMS.new hB44
        rw [← e1, ← e2, show ids.length + 1 = (ids ++ [idOf (comD (toHp m) ids steps[i].d)]).length from by rw [List.length_append]; rfl]
        refine wl_p I_ok rfl (wl_nil ?_)
        have eD : comD (toHp m) ids (steps.map StepT.d)[i] = (comD (toHp m) ids steps[i].d) := by rw [eiD]
        exact f_blockN (f_cut (⟨putW m XS, q5, k5, ids ++ [idOf (comD (toHp m) ids steps[i].d)], qi2, ki2⟩) rfl ⟨⟨h8, eD ▸ hMS.go (xs := XS) (q := q5) (k := k5) (ki := ki2) hiD (by rw [eiD]; exact ⟨hro, hok⟩) (by rw [hXS, List.map_append, refP_objs, eiD]; rfl) hin2 h5o.cap, ⟨hst, hid2⟩⟩, hb4, hb6, hX⟩)
   rintro ⟨m2, q2, k2, ids2, qi2, ki2⟩ w45 ⟨⟨h8, hMS, hMY⟩, hb4, hb6, hX⟩
   try dsimp only
   try dsimp only at hMS hMY
   refine c_region (wl_p I_ok rfl ?_)
   rw [IntWalk.i64_in _ (by omega)]
   refine wl_nil (fin_put 21 rfl (v' := .slice ps steps.length cs) (by rw [hp1]) ?_)
   exact f_round (i + 1, ⟨m2, q2, k2, ids2, qi2, ki2⟩) rfl ⟨⟨hi2, h8, hMS, hMY⟩, hb4, hb6, hX⟩ (by first | omega | (dsimp only; omega))
  ·refine c_exit ?_
   exact f_thenE (f_thenE (f_blockE (f_cut (⟨m, q, k, ids, qi, ki⟩) rfl ⟨⟨hMS.done (.inr ⟨by rw [List.length_map]; omega, hi8⟩), hMY⟩, hb4, hb6, hX⟩)))
 rintro ⟨m, q, k, ids, qi, ki⟩ w46 ⟨⟨hMS, hMY⟩, hb4, hb6, hX⟩
 try dsimp only
 try dsimp only at hMS hMY
 refine c_cutK (α := List HeldT × Option Addr × Nat) [4, 6, 7] rfl (fun z => []) (fun z u => ((toHp z.1 = goneD gone (toHp m) ∧ z.1.length ≤ 48 ∧ ∀ x ∈ z.1, (linksOf x.o).length ≤ 40) ∧ MadeY b4 b6 ⟨z.1, z.2.1, z.2.2, ids, qi, ki⟩ u) ∧ Blk u b4 26 ([.slice none 0 0]) ∧ Blk u b6 26 ([.slice z.2.1 z.1.length z.2.2]) ∧ Ext No w u) ?_ ?_
 ·refine c_cutK (α := Bool) [1, 4, 6, 7] rfl (fun z => [(147, .bool z)]) (fun z u => u = w46 ∧ z = decide (0 < gone ∧ gone ≤ (m.length : Int))) ?_ ?_
  ·refine c_region ?_
   refine wl_p I_ok rfl (wl_caseD 141 rfl (fun hg => ?_) (fun hg => ?_))
   ·have hg1 : 0 < gone := hg
    refine wl_pk I_ok 2 rfl (wl (st_ldb I_ok hb6 rfl rfl (wl_pk I_ok 3 rfl (wl_nil ?_))))
    exact f_cut (_) rfl ⟨rfl, by rw [decide_eq_decide]; exact ⟨fun k => ⟨hg1, k⟩, fun k => k.2⟩⟩
   ·have hg1 : ¬ 0 < gone := hg
    refine wl_pk I_ok 6 rfl (wl_nil ?_)
    exact f_cut (false) rfl ⟨rfl, (decide_eq_false fun k => hg1 k.1).symm⟩
  rintro z w47 ⟨hu, rfl⟩
  have hu := hu.symm
  subst hu
  refine c_if rfl (fun hc => ?_) (fun hc => ?_)
  ·obtain ⟨hgp, hgm⟩ := hc
   obtain ⟨g, hgq⟩ : ∃ g : Nat, gone = ((g + 1 : Nat) : Int) := ⟨gone.toNat - 1, by omega⟩
   have hgl : g < m.length := by omega
   have hmk := hMS.cap
   dsimp only at hmk
   have hml := hMS.len
   dsimp only at hml
   refine c_draw rfl 13 [(0, true), (1, true), (2, true), (3, true), (4, true), (5, true), (6, true), (7, true), (8, true), (9, true), (10, true), (11, false), (12, true)] [13] (No) (by kernel_rfl) fun w48 hE48 hs48 => ?_
   have hd4 := hb4
   have hd6 := hb6
   have hb4 := hb4.extNo hE48
   have hb6 := hb6.extNo hE48
   have hX := hX.thenNo hE48
   have hC : Ext (No) _ w48 := hE48.no
   refine wd_k I_ok 1 rfl (wd_ld I_ok rfl rfl (fun w' hw' => (hd6.extNo hw').cell rfl) ?_)
   refine wd_k I_ok 2 rfl ?_
   rw [show gone - 1 = (g : Int) from by omega, IntWalk.i64_in _ (by omega)]
   refine wd_k I_ok 2 rfl ?_
   rw [show gone - 1 = (g : Int) from by omega, IntWalk.i64_in _ (by omega)]
   refine wd_sl I_ok rfl rfl 0 g g 105 rfl (.inl ⟨rfl, rfl⟩) (.inl rfl) (.inr ⟨rfl, rfl⟩) (Nat.zero_le _) (Nat.le_refl _) (by dsimp only; omega) ?_
   dsimp only
   rw [slBase_zero, Nat.sub_zero]
   refine wd_k I_ok 1 rfl (wd_ld I_ok rfl rfl (fun w' hw' => (hd6.extNo hw').cell rfl) ?_)
   refine wd_k I_ok 1 rfl (wd_sl I_ok rfl rfl (g + 1) m.length k 105 rfl (.inr ⟨rfl, rfl⟩) (.inr ⟨rfl, rfl⟩) (.inl (congrArg some hgq)) hgl hmk (Nat.le_refl _) ?_)
   dsimp only
   have hsl0 := hMY.hp.now
   have hhd := (hsl0.sl.cut hsl0.c g).extNo hC.no
   rw [List.length_take, Nat.min_eq_left (Nat.le_of_lt hgl)] at hhd
   have htl := (held_tail hsl0.sl hsl0.c (i := g + 1) (k := k) hgl hmk).extNo hC.no
   have hXp := hX
   refine wd_l rfl (st_appS I_ok rfl 105 224 rfl rfl rfl (by decide) hhd rfl (Src.slice htl OneC.h) (by dsimp only [maxLen]; omega) (by dsimp only; omega) fun q5 c5 w49 hs5 hE49 hn5 hc5 => ⟨hC.thenNo hE49, ?_⟩)
   have hC0 := hC.size
   have hC := hC.thenNo hE49
   have hX := hX.thenNo hE49
   have hb4 := hb4.extNo hE49
   have hb6 := hb6.extNo hE49
   dsimp only at hs5 hn5 hc5 ⊢
   have eL : g + (m.length - (g + 1)) = (m.take g ++ m.drop (g + 1)).length := by rw [List.length_append, List.length_take, List.length_drop, Nat.min_eq_left (Nat.le_of_lt hgl)]
   rw [← List.flatMap_append, eL] at hs5
   rw [eL]
   have hstg := stb_gone (S := fun x => x = b4 ∨ x = b6 ∨ OwnB qi x) hMY.hp hC (fun x k => by
     rcases k with k | k | k
     ·have := hd4.lt; omega
     ·have := hd6.lt; omega
     ·exact hMY.own.lt k) hgl hs5 (hn5.imp id fun h b off e => Nat.le_trans hC0 (h b off e))
   have hidg := hMY.own.ext hC fun _ _ => id
   refine wd_k I_ok 1 rfl (wd_sw ?_)
   have hb6o := hb6
   refine wb rfl (st_st I_ok hb6 rfl rfl rfl fun w50 hb6 hE50 hs50 => ?_)
   have hb4 := hb4.ext1 hE50 ne4_6
   have hX := hX.thenNew hE50 fr6
   have hb6 : Blk w50 b6 26 ([.slice q5 (m.take g ++ m.drop (g + 1)).length c5]) := hb6
   have hMYg : MadeY b4 b6 ⟨m.take g ++ m.drop (g + 1), q5, c5, ids, qi, ki⟩ w50 := ⟨hstg.one hE50 (.inr (.inl rfl)), hidg.extTy hE50 hb6o (by decide)⟩
   refine wb_nil ?_
   exact f_cut (m.take g ++ m.drop (g + 1), q5, c5) rfl ⟨⟨⟨(by rw [hgq, goneD_on hgl]), Nat.le_trans (take_drop_sub m g).length_le (by omega), fun x hx => hMS.few.lk x ((take_drop_sub m g).subset hx)⟩, hMYg⟩, hb4, hb6, hX⟩
  ·refine c_skip ?_
   exact f_cut (m, q, k) rfl ⟨⟨⟨(goneD_no hc).symm, by have := hMS.len; dsimp only at this ⊢; omega, hMS.few.lk⟩, hMY⟩, hb4, hb6, hX⟩
 rintro ⟨m3, q3, k3⟩ w51 ⟨⟨⟨hgo, hgl, hgk⟩, hMY⟩, hb4, hb6, hX⟩
 try dsimp only
 try dsimp only at hgo hgl hgk hMY
 refine c_seq (c_region (wl (st_ldB I_ok hb6 rfl rfl (wl_p I_ok rfl ?_))))
 have hb4o := hb4
 have hMY0 := hMY
 refine wl (st_stW (l' := [.slice q3 m3.length k3]) I_ok hb4 rfl rfl rfl rfl OneC.h fun w52 hb4 hE52 hs52 => ?_)
 have hX := hX.thenNew hE52 fr4
 refine wl_p I_ok rfl (wl_nil (f_then (c_ret (f_ret [_, _] ⟨⟨b4, 0, rfl, ld_all I_ok rfl rfl hb4.seg rfl⟩, rfl, trivial⟩ ?_))))
 refine ⟨q3, k3, m3, qi, ki, ids, rfl, ⟨hMY0.hp.step hE52 (fun x _ e => .inl e) (fun x _ k => .inr (.inr k)), hMY0.own.extTy hE52 hb4o (by decide), hMS.new, hMS.ids, by have := hMS.il; dsimp only at this; omega, by omega, hgk⟩, ?_, hX⟩
 rw [hgo]
 have := hMS.e
 dsimp only at this
 rw [← this]
end Go.Proofs.YtpcdihkcenfgkaaGreat
