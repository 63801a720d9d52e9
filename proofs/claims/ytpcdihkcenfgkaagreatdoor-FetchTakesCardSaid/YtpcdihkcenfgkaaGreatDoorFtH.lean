/-
  FetchTakesCardSaid , walked
-/
import Derived.ChangeSame
import Derived.ReadAgain
import Derived.RowKit
import Derived.ChangeBears
import Derived.OpenShut
import Derived.Test.YtpcdihkcenfgkaaGreatDoorRows
import Derived.ProofKit
import Derived.LaidMore
import Derived.Lib.LaidTab
import Derived.Test.YtpcdihkcenfgkaaGreatDoorTie
import Derived.Test.YtpcdihkcenfgkaaGreatDoorCards
import Derived.SevenTiedAt
import Derived.Test.YtpcdihkcenfgkaaGreatDoorFtG
namespace Go.Proofs.YtpcdihkcenfgkaaGreatDoor
open Go.Vc
def putE (xs : List ObjX) : Int := if ∀ x ∈ xs, ObjOk x.1 then 0 else 160
theorem HeldNew.extMap {W0 w w' : World} {h : zz4} (k : HeldNew W0 w h) {β : Type} {r : Nat} {enc : β → Value} {g : List UInt8 → Option β} (hm : MapB w r enc g) (hE : Ext (One r) w w') : HeldNew W0 w' h :=
 ⟨k.id, k.o, k.sh, ⟨k.l.ol.extMap hm hE, k.l.op.extMap hm hE, k.l.or.extMap hm hE, k.l.nl, k.l.np, k.l.nr⟩⟩
theorem HeldNew.extNew {W0 w w1 w2 : World} {h : zz4} {b : Nat} (k : HeldNew W0 w h) (hE0 : Ext No w w1) (hE : Ext (One b) w1 w2) (hb : w.heap.size ≤ b) : HeldNew W0 w2 h :=
 have hX : Ext No w w2 := (hE0.trans hE (fun y hy e => by have e : y = b := e; omega))
 k.zq2 hX
theorem ObjNew.lt {W0 w : World} {o : ObjD} {a : ObjP} (h : ObjNew W0 w o a) : ∀ x, ObjF a x → x < w.heap.size := fun x hx => by
 rcases hx with k | k | k
 ·exact h.ol.lt k
 ·exact h.op.lt k
 ·exact h.or.lt k
theorem ObjNew.ge {W0 w : World} {o : ObjD} {a : ObjP} (h : ObjNew W0 w o a) : ∀ x, ObjF a x → W0.heap.size ≤ x := fun x hx => by
 rcases hx with k | k | k
 ·exact h.nl x k
 ·exact h.np x k
 ·exact h.nr x k
def Apart (L : List zz4) : Prop := L.Pairwise fun x y => ∀ b c, ObjF x.a b → ObjF y.a c → b < c
theorem Apart.snoc {L : List zz4} {x : zz4} {n : Nat} (h : Apart L) (h1 : ∀ y ∈ L, ∀ b, ObjF y.a b → b < n) (h2 : ∀ c, ObjF x.a c → n ≤ c) : Apart (L ++ [x]) :=
 List.pairwise_append.2 ⟨h, List.pairwise_singleton _ _, fun y hy z hz b c hb hc => by
  rw [List.mem_singleton.1 hz] at hc
  have := h1 y hy b hb
  have := h2 c hc
  omega⟩
def Dom (g : List UInt8 → Option (ObjD × ObjP)) (l : List zz4) : Prop := (∀ x, (g x).isSome = decide (x ∈ l.map zz4.id)) ∧ ∀ x b, g x = some b → ObjIn b.1
theorem dom_book {w : World} {p : Option Addr} {l m : List zz4} (h : HpIn w p l) (hm : toHp m = toHp l) : Dom (bookOf l) m := by
 refine ⟨fun x => ?_, fun x b hb => ?_⟩
 ·have e : m.map zz4.id = l.map zz4.id := by
   have := congrArg (List.map Prod.fst) hm
   unfold toHp at this
   rw [List.map_map, List.map_map] at this
   exact this
  rw [e, Bool.eq_iff_iff, decide_eq_true_eq, bookOf, Option.isSome_map, List.find?_isSome]
  simp [List.mem_map]
 ·unfold bookOf at hb
  obtain ⟨y, hy, rfl⟩ := Option.map_eq_some_iff.1 hb
  exact (h.ins y (List.mem_of_find?_eq_some hy)).o
theorem dom_set {g : List UInt8 → Option (ObjD × ObjP)} {l : List zz4} (h : Dom g l) {x : ObjX} (hx : ObjIn x.1) {y : zz4} (hy : y.id = idOf x.1) : Dom (setM g (idOf x.1) x) (l ++ [y]) := by
 refine ⟨fun z => ?_, fun z b hb => ?_⟩
 ·unfold setM
  rw [List.map_append]
  by_cases e : z = idOf x.1
  ·subst e; simp [hy]
  ·rw [if_neg e, h.1]
   have e2 : ¬ z = y.id := fun k => e (k.trans hy)
   simp [e2]
 ·unfold setM at hb
  split at hb
  ·cases hb; exact hx
  ·exact h.2 z b hb
theorem tell_obj {g : List UInt8 → Option (ObjD × ObjP)} {l : List zz4} (h : Dom g l) (x : IdB) : ∃ o a, ObjIn o ∧ tell objV (.agg (objC objZ noP).toArray) (g x) = .agg (objC o a).toArray := by
 cases hg : g x with
 | none => exact ⟨objZ, noP, objZ_in, rfl⟩
 | some b => exact ⟨b.1, b.2, h.2 x b hg, rfl⟩
theorem putD_take {h : Hp} {xs : List ObjX} {i : Nat} (hi : i < xs.length) : putD h ((xs.take (i + 1)).map Prod.fst) = putO (putD h ((xs.take i).map Prod.fst)) xs[i].1 := by
 rw [List.take_succ_eq_append_getElem hi, List.map_append, putD, List.foldl_append]; rfl
theorem putO_in {h : Hp} {l : List zz4} (e : toHp l = h) {o : ObjD} (hm : idOf o ∈ l.map zz4.id) : putO h o = h := by
 subst e
 unfold putO
 rw [if_pos]
 unfold toHp
 rw [List.map_map]; exact hm
theorem putO_new {h : Hp} {l : List zz4} (e : toHp l = h) {o : ObjD} (hm : ¬ idOf o ∈ l.map zz4.id) (a : ObjP) : toHp (l ++ [⟨idOf o, o, a⟩]) = putO h o := by
 subst e
 unfold putO
 rw [if_neg]
 ·unfold toHp; rw [List.map_append]; rfl
 ·unfold toHp
  rw [List.map_map]; exact hm
theorem putE_ok {xs : List ObjX} (h : ∀ x ∈ xs, ObjOk x.1) : putE xs = 0 := if_pos h
theorem putE_bad {xs : List ObjX} {i : Nat} (hi : i < xs.length) (h : ¬ ObjOk xs[i].1) : putE xs = 160 := if_neg fun k => h (k _ (List.getElem_mem hi))
theorem links_hp (l : List zz4) : (l.flatMap fun e => zj3 e.o) = (toHp l).flatMap fun e => zj3 e.2 := by rw [toHp, List.flatMap_map]
theorem putD_lk : ∀ (xs : List ObjD) (h : Hp), ((putD h xs).flatMap fun e => zj3 e.2).length ≤ (h.flatMap fun e => zj3 e.2).length + (xs.flatMap zj3).length
 | [], h => Nat.le_refl _
 | x :: xs, h => by
  have h1 := putD_lk xs (putO h x)
  have h2 : ((putO h x).flatMap fun e => zj3 e.2).length ≤ (h.flatMap fun e => zj3 e.2).length + (zj3 x).length := by
   unfold putO
   split
   ·omega
   ·rw [List.flatMap_append, List.length_append, List.flatMap_singleton]; exact Nat.le_refl _
  rw [List.flatMap_cons, List.length_append]
  show ((putD (putO h x) xs).flatMap fun e => zj3 e.2).length ≤ _
  omega
theorem hp_links_le {l L : List zz4} {xs : List ObjX} (hp : toHp L = putD (toHp l) (xs.map Prod.fst)) (hlk : (l.flatMap fun e => zj3 e.o).length + (xs.flatMap fun x => zj3 x.1).length < 100000) : (L.flatMap fun e => zj3 e.o).length < 100000 := by
 have h1 := putD_lk (xs.map Prod.fst) (toHp l)
 rw [← hp, ← links_hp, ← links_hp, List.flatMap_map] at h1
 exact Nat.lt_of_le_of_lt h1 hlk
theorem heapZ_c : cellsOf ti29.zero = [.slice none 0 0] := by kernel_rfl
theorem putDag_calls (w : World) {p px : Option Addr} {c cx : Nat} {l : List zz4} {xs : List ObjX} (h : HpIn w p l) (hxs : Sl w px xs.length 73 (xs.flatMap objX)) (hxo : ∀ x ∈ xs, ObjIn x.1) (hxs2 : ∀ x ∈ xs, Short x.1) (hxl : ∀ x ∈ xs, ObjL w x.1 x.2) (hn : l.length + xs.length < 1000000) (hlk : (l.flatMap fun e => zj3 e.o).length + (xs.flatMap fun x => zj3 x.1).length < 100000) (hr : Seg w 0 0 (wordsV rootsW)) :
  zz1 Tryz.prog 45 [.agg #[.slice p l.length c], .slice px xs.length cx] w fun v w' => ∃ q k m, v = .tuple #[.agg #[.slice q m.length k], .int .i64 (putE xs)] ∧ (putE xs = 0 → toHp m = putD (toHp l) (xs.map Prod.fst)) ∧ (putE xs ≠ 0 → m = []) ∧ HpIn w' q m ∧ (∀ x ∈ m, HeldNew w w' x) ∧ (∀ x off, q = some ⟨x, off, none⟩ → w.heap.size ≤ x) ∧ Apart m ∧ Own w' q m.length k 48 105 (m.flatMap heldC) ∧ Ext No w w' := by
 have hlen := h.len
 refine zq9 Tryz.func45 rfl rfl rfl rfl ?_
 have hX := Ext.refl No w
 refine zq5 (zq0 (wl (zz9 I_ok rfl fun b2 w1 hn2 hb2 hE1 => ?_)))
 have hX := hX.zq4 hE1
 have hb2 : Blk w1 b2 29 ([.slice p l.length c]) := hb2
 refine wl (zz9 I_ok rfl fun b4 w2 hn4 hb4 hE2 => ?_)
 have fr4 := Nat.le_trans hX.size hn4
 have hb2 := hb2.zq2 hE2
 have hX := hX.zq4 hE2
 have hb4 : Blk w2 b4 29 ([.slice none 0 0]) := hb4
 refine wl_p I_ok rfl (zq3 (zq1 (zq5 (zq0 (wl (zj2 I_ok hb2 rfl rfl ?_))))))
 have hXr := hX.size
 refine wl (zx2 Tryz.call70 rfl rfl rfl rfl rfl rfl (readBk_calls w2 (h.zq2 hX)) fun v3 w3 hr3 => ?_)
 obtain ⟨r, rfl, hrn, hM, hE3⟩ := hr3
 have hb2 := hb2.zq2 hE3
 have hb4 := hb4.zq2 hE3
 have hX := hX.zq4 hE3
 have hrw : w.heap.size ≤ r := Nat.le_trans hXr hrn
 refine wl_p I_ok rfl (zq3 (zq1 (zq5 (zq0 (wl (zz9 I_ok rfl fun b7 w4 hn7 hb7 hE4 => ?_))))))
 have ne4_7 : b4 ≠ b7 := Nat.ne_of_lt (Nat.lt_of_lt_of_le hb4.lt hn7)
 have fr7 := Nat.le_trans hX.size hn7
 have hb2 := hb2.zq2 hE4
 have hb4 := hb4.zq2 hE4
 have hM := hM.zq2 hE4
 have hX := hX.zq4 hE4
 have hb7 : Blk w4 b7 29 ([.slice none 0 0]) := hb7
 refine zq3 (zq1 (zq5 (zq5 (zq0 (wl_p I_ok rfl (wl (st_ldb I_ok hb2 rfl rfl (wl_p I_ok rfl (zq3 (zq1 (zx4 ?_)))))))))))
 refine zv3 (α := Nat × List zz4 × Option Addr × Nat) [1, 4, 6, 7, 19, 20] rfl (fun z => [(21, .int .i64 (z.1 : Int))]) (fun z u => (((z.1 ≤ l.length ∧ z.2.1.length = z.1 ∧ toHp z.2.1 = toHp (l.take z.1) ∧ Apart z.2.1) ∧ Own u z.2.2.1 z.2.1.length z.2.2.2 48 105 (z.2.1.flatMap heldC) ∧ (∀ y, OwnB z.2.2.1 y → w.heap.size ≤ y) ∧ ∀ h ∈ z.2.1, HeldNew w u h) ∧ MapB u r objV (bookOf l)) ∧ Blk u b4 29 ([.slice none 0 0]) ∧ Blk u b7 29 ([.slice z.2.2.1 z.2.1.length z.2.2.2]) ∧ Ext No w u) (fun z u => l.length - z.1) (0, [], none, 0) rfl ⟨⟨⟨⟨Nat.zero_le _, rfl, rfl, .nil⟩, Own.nil _ _ _, noOwn, fun _ h => by cases h⟩, hM⟩, hb4, hb7, hX⟩ ?_
 rintro ⟨i, L, q, k⟩ w5 ⟨⟨⟨⟨hi, hLl, hsm, hap⟩, hq, hqn, hns⟩, hM⟩, hb4, hb7, hX⟩
 try dsimp only
 dsimp only at hi hLl hsm hap hq hqn hns
 refine zq5 (zq0 (wl_p I_ok rfl (zq3 (zq1 (zq5 (c_if rfl (fun hc => ?_) (fun hc => ?_)))))))
 ·have hi2 : i < l.length := by omega
  obtain ⟨lb, lo, hp1, hs1⟩ := h.sl.rowAll h.c (by omega)
  have hni := h.ins _ (List.getElem_mem hi2)
  have hnsh := hni.sh
  refine wc_put 19 rfl (v' := .slice (some ⟨lb, lo, none⟩) l.length c) (by rw [hp1]) (zx7 (zq1 (zq5 (zx4 (zq5 (zq0 (wl (st_ix I_ok rfl 105 rfl i rfl (by omega) (lo + i * 105) rfl ?_))))))))
  refine wl (st_ldN I_ok rfl ((hs1 i hi2).zq2 hX) hni.c ?_)
  have hq0 := hq
  have nq7 : ¬ OwnB q b7 := fun e => hq0.neTy e hb7 (by decide) rfl
  refine wl (zz9 I_ok rfl fun b9 w6 hn9 hb9 hE6 => ?_)
  have ne4_9 : b4 ≠ b9 := Nat.ne_of_lt (Nat.lt_of_lt_of_le hb4.lt hn9)
  have ne7_9 : b7 ≠ b9 := Nat.ne_of_lt (Nat.lt_of_lt_of_le hb7.lt hn9)
  have fr9 := Nat.le_trans hX.size hn9
  have hb4 := hb4.zq2 hE6
  have hb7 := hb7.zq2 hE6
  have hM := hM.zq2 hE6
  have hq := hq.ext hE6 fun _ _ => id
  have hns := fun h hh => (hns h hh).zq2 hE6
  have hX := hX.zq4 hE6
  have hb9o := hb9
  have ne9 : ∀ y, OwnB q y → y ≠ b9 := fun y hy => Nat.ne_of_lt (Nat.lt_of_lt_of_le (hq0.lt hy) hn9)
  refine wl (zj1 (l' := heldC l[i]) I_ok hb9 rfl rfl hni.c (by rw [hni.c]; rfl) OneC.h fun w7 hb9 hE7 hs7 => ?_)
  have hb4 := hb4.ext1 hE7 ne4_9
  have hb7 := hb7.ext1 hE7 ne7_9
  have hM := hM.ext1 hE7 hb9o
  have hq := hq.ext hE7 (fun y hy => ne9 y hy)
  have hns := fun h hh => (hns h hh).ext1 hE7 hb9o (by decide) (by decide) (by decide)
  have hX := hX.zx1 hE7 fr9
  refine zq3 (zq1 (c_draw rfl 11 [(0, true), (1, true), (2, true), (3, true), (4, true), (5, true), (6, false), (7, true), (8, false), (9, false), (10, true)] [11] (OwnB q) (by kernel_rfl) fun w8 hE8 hs8 => ?_))
  have hd7 := hb7
  have hd9 := hb9
  have hb4 := hb4.zq2 hE8
  have hb7 := hb7.zq2 hE8
  have hM := hM.zq2 hE8
  have hq := hq.ext hE8 fun _ _ => id
  have hns := fun h hh => (hns h hh).zq2 hE8
  have hX := hX.zq4 hE8
  have hC : Ext (OwnB q) _ w8 := hE8.no
  refine wd_k I_ok 1 rfl (wd_ld I_ok rfl rfl (fun w' hw' => ((hd7.ext hw' nq7).cell rfl)) ?_)
  refine wd_k I_ok 1 rfl (wd_ldN I_ok rfl rfl (fun w' hw' => (held_id (hd9.ext hw' fun e => ne9 _ e rfl).seg)) (IdIn.len hni.id) ?_)
  refine wd_k I_ok 1 rfl (wd_ldN I_ok rfl rfl (fun w' hw' => (held_obj (hd9.ext hw' fun e => ne9 _ e rfl).seg hni.id)) (zq7 hni.o) ?_)
  have hXc := hX.size
  have hltL : ∀ h ∈ L, ∀ b, ObjF h.a b → b < w8.heap.size := fun h hh => (hns h hh).l.lt
  refine wd_l rfl (zx2 Tryz.call72 rfl rfl rfl rfl rfl rfl (owned_calls w8 hni.o (hni.l.zq2 hX) hni.sh) fun v9 w9 hr9 => ⟨(by obtain ⟨a2, rfl, hN, hE9⟩ := hr9; exact hC.zq4 hE9), ?_⟩)
  obtain ⟨a2, rfl, hN, hE9⟩ := hr9
  have hb4 := hb4.zq2 hE9
  have hb7 := hb7.zq2 hE9
  have hM := hM.zq2 hE9
  have hq := hq.ext hE9 fun _ _ => id
  have hns := fun h hh => (hns h hh).zq2 hE9
  have hX := hX.zq4 hE9
  have hC := hC.zq4 hE9
  have hap2 : Apart (L ++ [(⟨l[i].id, l[i].o, a2⟩ : zz4)]) := hap.snoc hltL hN.ge
  refine wd_bd I_ok rfl rfl ⟨⟨by rw [zj9, zx0, hni.id], by decide⟩, ⟨by rw [zj9]; exact zq7 hni.o, by decide⟩, trivial⟩ (l' := heldC ⟨l[i].id, l[i].o, a2⟩) (by rw [heldZ_c]; exact held_build (hni.id) hni.o) ?_
  refine wd_l rfl (st_bs I_ok rfl 105 rfl heldZ_c (by rw [List.length_append, zx0, zq7 objZ_in]; rfl) (by decide) (by decide) ⟨⟨by rw [zj9]; exact heldC_len (h := ⟨l[i].id, l[i].o, a2⟩) (hni.id) hni.o, by decide⟩, trivial⟩ (l' := heldC ⟨l[i].id, l[i].o, a2⟩) (one_held (h := ⟨l[i].id, l[i].o, a2⟩) (heldC_len (hni.id) hni.o)) fun b33 w10 hn33 hb33 hE10 hs10 => ⟨hC.zq4 hE10, ?_⟩)
  have hb4 := hb4.zq2 hE10
  have hb7 := hb7.zq2 hE10
  have hM := hM.zq2 hE10
  have hq := hq.ext hE10 fun _ _ => id
  have hns := fun h hh => (hns h hh).zq2 hE10
  have hN := hN.zq2 hE10
  have hX := hX.zq4 hE10
  have hC := hC.zq4 hE10
  have hX1 := hX
  have hs33 : Sl w10 (some ⟨b33, 0, none⟩) 1 105 (heldC ⟨l[i].id, l[i].o, a2⟩) := ⟨heldC_len (h := ⟨l[i].id, l[i].o, a2⟩) (hni.id) hni.o, .inr ⟨b33, 0, rfl, hb33.seg⟩⟩
  have hr1 : L.length + 1 ≤ maxLen := room_ml (by omega)
  have hr2 : (L.length + 1) * 224 ≤ 140737488355328 := by omega
  refine wd_l rfl (zv2 I_ok rfl 105 224 rfl rfl rfl (by decide) hq (Src.slice (m := 1) hs33 OneC.h) hr1 hr2 fun p11 c11 w11 ho11 hE11 hB11 => ⟨hC.then hE11, ?_⟩)
  dsimp only at ho11 hE11 hB11 ⊢
  have hX := hX1.trans hE11 fun y hy hF => by have := hqn y hF; omega
  have hb4 := hb4.zq8 hq hE11 (by decide)
  have hb7 := hb7.zq8 hq hE11 (by decide)
  have hM := hM.zq8 hq hE11
  have hsz1 := hX1.size
  have hN := (HeldNew.mk (W0 := _) (h := ⟨l[i].id, l[i].o, a2⟩) (hni.id) hni.o hnsh hN).zq8 hq hE11 (by decide) (by decide) (by decide)
  have hns := fun h hh => (hns h hh).zq8 hq hE11 (by decide) (by decide) (by decide)
  have hns2 : ∀ h ∈ L ++ [(⟨l[i].id, l[i].o, a2⟩ : zz4)], HeldNew w w11 h := fun h hh => by
   rcases List.mem_append.1 hh with hh | hh
   ·exact hns h hh
   ·rw [List.mem_singleton.1 hh]; exact hN.older (by omega)
  obtain ⟨q2, k2, e1, e2, hq2⟩ : ∃ q2 k2, q2 = p11 ∧ k2 = c11 ∧ Own w11 q2 (L ++ [(⟨l[i].id, l[i].o, a2⟩ : zz4)]).length k2 48 105 ((L ++ [(⟨l[i].id, l[i].o, a2⟩ : zz4)]).flatMap heldC) := ⟨_, _, rfl, rfl, by
   rw [List.flatMap_append, List.length_append, List.flatMap_singleton]
   exact ho11⟩
  rw [← e1] at hB11
  rw [← e1, ← e2]
  have hqn2 : (∀ y, OwnB q2 y → w.heap.size ≤ y) := fun x hx => (hB11 x hx).elim (fun h => hqn x h) fun h => by omega
  refine wd_k I_ok 1 rfl (wd_sw ?_)
  have hb7o := hb7
  refine wb rfl (st_st I_ok hb7 rfl rfl rfl fun w12 hb7 hE12 hs12 => ?_)
  have hb4 := hb4.ext1 hE12 ne4_7
  have hM := hM.ext1 hE12 hb7o
  have hq2 := hq2.zx9 hE12 hb7o (by decide)
  have hns2 := fun h hh => (hns2 h hh).ext1 hE12 hb7o (by decide) (by decide) (by decide)
  have hX := hX.zx1 hE12 fr7
  have hb7 : Blk w12 b7 29 ([.slice q2 (L ++ [(⟨l[i].id, l[i].o, a2⟩ : zz4)]).length k2]) := (by
   rw [List.length_append]
   exact hb7)
  refine zv0 (zx6 (zq1 (zq0 (wl_p I_ok rfl ?_))))
  rw [IntWalk.i64_in _ (by omega)]
  refine zq3 (fin_put 19 rfl (v' := .slice p l.length c) (by rw [hp1]) ?_)
  exact zv1 (i + 1, L ++ [⟨l[i].id, l[i].o, a2⟩], q2, k2) rfl ⟨⟨⟨⟨hi2, by rw [List.length_append, hLl]; rfl, hp_take hi2 hsm a2, hap2⟩, hq2, hqn2, hns2⟩, hM⟩, hb4, hb7, hX⟩ (by first | omega | (dsimp only; omega))
 ·have h0 : i = l.length := by omega
  subst h0
  rw [List.take_length] at hsm
  refine c_exit (zx3 (zx3 (zz0 (zq1 (zq5 (zq5 (zq0 (wl_p I_ok rfl (zq3 (zq1 (zx4 ?_)))))))))))
  refine zv3 (α := (Nat × List zz4 × Option Addr × Nat) × (List UInt8 → Option (ObjD × ObjP))) [4, 6, 7, 37, 38] rfl (fun z => [(39, .int .i64 (z.1.1 : Int))]) (fun z u => (((z.1.1 ≤ xs.length ∧ (∀ x ∈ xs.take z.1.1, ObjOk x.1) ∧ toHp z.1.2.1 = putD (toHp l) ((xs.take z.1.1).map Prod.fst) ∧ z.1.2.1.length ≤ l.length + z.1.1 ∧ Dom z.2 z.1.2.1 ∧ Apart z.1.2.1) ∧ Own u z.1.2.2.1 z.1.2.1.length z.1.2.2.2 48 105 (z.1.2.1.flatMap heldC) ∧ (∀ y, OwnB z.1.2.2.1 y → w.heap.size ≤ y) ∧ ∀ h ∈ z.1.2.1, HeldNew w u h) ∧ MapB u r objV z.2) ∧ Blk u b4 29 ([.slice none 0 0]) ∧ Blk u b7 29 ([.slice z.1.2.2.1 z.1.2.1.length z.1.2.2.2]) ∧ Ext No w u) (fun z u => xs.length - z.1.1) (⟨⟨0, L, q, k⟩, bookOf l⟩) rfl ⟨⟨⟨⟨Nat.zero_le _, fun _ hx => (by cases hx), hsm, by dsimp only; omega, dom_book h hsm, hap⟩, hq, hqn, hns⟩, hM⟩, hb4, hb7, hX⟩ ?_
  rintro ⟨⟨j, L, q, k⟩, g⟩ w13 ⟨⟨⟨⟨hj, hok, hpd, hLl2, hdm, hap⟩, hq, hqn, hns⟩, hM⟩, hb4, hb7, hX⟩
  try dsimp only
  dsimp only at hj hok hpd hLl2 hdm hap hq hqn hns hM
  refine zq5 (zq0 (wl_p I_ok rfl (zq3 (zq1 (zq5 (c_if rfl (fun hc => ?_) (fun hc => ?_)))))))
  ·have hj2 : j < xs.length := by omega
   obtain ⟨xb, xo, hp2, hs2⟩ := hxs.rowAll (objX_len hxo) (by omega)
   have hxoi := hxo _ (List.getElem_mem hj2)
   have hnsh := hxs2 _ (List.getElem_mem hj2)
   have hxli := hxl _ (List.getElem_mem hj2)
   refine wc_put 37 rfl (v' := .slice (some ⟨xb, xo, none⟩) xs.length cx) (by rw [hp2]) (zx7 (zq1 ?_))
   refine c_cutK (α := List zz4 × Option Addr × Nat × (List UInt8 → Option (ObjD × ObjP))) [4, 6, 7, 37, 38, 39] rfl (fun z => []) (fun z u => ((((∀ x ∈ xs.take (j + 1), ObjOk x.1) ∧ toHp z.1 = putD (toHp l) ((xs.take (j + 1)).map Prod.fst) ∧ z.1.length ≤ l.length + (j + 1) ∧ Dom z.2.2.2 z.1 ∧ Apart z.1) ∧ Own u z.2.1 z.1.length z.2.2.1 48 105 (z.1.flatMap heldC) ∧ (∀ y, OwnB z.2.1 y → w.heap.size ≤ y) ∧ ∀ h ∈ z.1, HeldNew w u h) ∧ MapB u r objV z.2.2.2) ∧ Blk u b4 29 ([.slice none 0 0]) ∧ Blk u b7 29 ([.slice z.2.1 z.1.length z.2.2.1]) ∧ Ext No w u) ?_ ?_
   ·refine zx4 ?_
    refine zq5 (zq0 (wl (st_ix I_ok rfl 73 rfl j rfl (by omega) (xo + j * 73) rfl (wl (st_ldN I_ok rfl ((hs2 j hj2).zq2 hX) (zq7 hxoi) (wl (zz9 I_ok rfl fun b11 w14 hn11 hb11 hE14 => ?_)))))))
    have ne4_11 : b4 ≠ b11 := Nat.ne_of_lt (Nat.lt_of_lt_of_le hb4.lt hn11)
    have ne7_11 : b7 ≠ b11 := Nat.ne_of_lt (Nat.lt_of_lt_of_le hb7.lt hn11)
    have fr11 := Nat.le_trans hX.size hn11
    have hb4 := hb4.zq2 hE14
    have hb7 := hb7.zq2 hE14
    have hM := hM.zq2 hE14
    have hq := hq.ext hE14 fun _ _ => id
    have hns := fun h hh => (hns h hh).zq2 hE14
    have hX := hX.zq4 hE14
    have hb11o := hb11
    refine wl (zj1 (l' := objX xs[j]) I_ok hb11 rfl rfl (zq7 hxoi) (by rw [zq7 hxoi]; rfl) OneC.h fun w15 hb11 hE15 hs15 => ?_)
    have hb4 := hb4.ext1 hE15 ne4_11
    have hb7 := hb7.ext1 hE15 ne7_11
    have hM := hM.ext1 hE15 hb11o
    have hq := hq.zx9 hE15 hb11o (by decide)
    have hns := fun h hh => (hns h hh).ext1 hE15 hb11o (by decide) (by decide) (by decide)
    have hX := hX.zx1 hE15 fr11
    refine zq3 (zq1 (zq5 (zq0 (wl (zj2 I_ok hb11 rfl (zq7 hxoi) (wl (zx2 Tryz.call28 rfl rfl rfl rfl rfl rfl (idObj_calls w15 hxoi (hxli.zq2 hX) hnsh (hr.zq2 hX)) fun v16 w16 hr16 => ?_)))))))
    obtain ⟨rfl, hE16⟩ := hr16
    have hb4 := hb4.zq2 hE16
    have hb7 := hb7.zq2 hE16
    have hb11 := hb11.zq2 hE16
    have hM := hM.zq2 hE16
    have hq := hq.ext hE16 fun _ _ => id
    have hns := fun h hh => (hns h hh).zq2 hE16
    have hX := hX.zq4 hE16
    have hidb : IdIn (idB xs[j].1) := by unfold idB; split; exact zj6 _; rfl
    refine wl_p I_ok rfl ?_
    have hns0 := hns
    refine wl (zz9 I_ok rfl fun b12 w17 hn12 hb12 hE17 => ?_)
    have ne4_12 : b4 ≠ b12 := Nat.ne_of_lt (Nat.lt_of_lt_of_le hb4.lt hn12)
    have ne7_12 : b7 ≠ b12 := Nat.ne_of_lt (Nat.lt_of_lt_of_le hb7.lt hn12)
    have ne11_12 : b11 ≠ b12 := Nat.ne_of_lt (Nat.lt_of_lt_of_le hb11.lt hn12)
    have fr12 := Nat.le_trans hX.size hn12
    have hb4 := hb4.zq2 hE17
    have hb7 := hb7.zq2 hE17
    have hb11 := hb11.zq2 hE17
    have hM := hM.zq2 hE17
    have hq := hq.ext hE17 fun _ _ => id
    have hns := fun h hh => (hns h hh).zq2 hE17
    have hX := hX.zq4 hE17
    have hb12o := hb12
    have hE0 := hE17
    have hn0 := hn12
    refine wl (zj1 (l' := zq6 (idB xs[j].1)) I_ok hb12 rfl rfl hidb.len (by rw [zx0, hidb]; rfl) OneC.h fun w18 hb12 hE18 hs18 => ?_)
    have hb4 := hb4.ext1 hE18 ne4_12
    have hb7 := hb7.ext1 hE18 ne7_12
    have hb11 := hb11.ext1 hE18 ne11_12
    have hM := hM.ext1 hE18 hb12o
    have hq := hq.zx9 hE18 hb12o (by decide)
    have hns := fun h hh => (hns0 h hh).extNew hE0 hE18 hn0
    have hX := hX.zx1 hE18 fr12
    refine wl_p I_ok rfl (zq3 (zq1 (zq5 (zq5 (zq0 (wl_p I_ok rfl (zq3 (zq1 (c_if rfl (fun hc => ?_) (fun hc => ?_))))))))))
    ·have hk : ¬ ObjOk xs[j].1 := fun k => hc (if_pos k)
     have hEb := putE_bad hj2 hk
     have eo : objE xs[j].1 = 160 := if_neg hk
     rw [eo]
     refine zq5 (zq0 (wl (st_bd I_ok rfl trivial (l' := [.slice none 0 0]) heapZ_c (wl_p I_ok rfl ?_))))
     have hb4o := hb4
     refine wl (zj1 (l' := [.slice none 0 0]) I_ok hb4 rfl rfl rfl rfl OneC.h fun w19 hb4 hE19 hs19 => ?_)
     have hns := fun h hh => (hns h hh).ext1 hE19 hb4o (by decide) (by decide) (by decide)
     have hX := hX.zx1 hE19 fr4
     refine wl_p I_ok rfl (zq3 (zq1 (zj0 (zx5 (zz3 (zx5 (zx5 (zz3 (zx5 (f_ret [_, _] ⟨⟨b4, 0, rfl, ld_all I_ok rfl rfl hb4.seg rfl⟩, rfl, trivial⟩ ?_))))))))))
     exact ⟨none, 0, [], by rw [hEb]; rfl, fun k => (by rw [hEb] at k; cases k), fun _ => rfl, ⟨Sl.nil _ _ _, fun _ hx => (by cases hx), by show 0 < 1000000; decide, by show 0 < 100000; decide⟩, fun _ hx => (by cases hx), fun x off e => (by cases e), .nil, Own.nil _ _ _, hX⟩
    ·have hk : ObjOk xs[j].1 := (if_zero (by decide)).1 (Decidable.not_not.1 hc)
     have hie : idB xs[j].1 = idOf xs[j].1 := if_pos hk
     rw [hie] at hb12
     have hok2 : ∀ x ∈ xs.take (j + 1), ObjOk x.1 := fun x hx => by
      rw [List.take_succ_eq_append_getElem hj2] at hx
      rcases List.mem_append.1 hx with hx | hx
      ·exact hok x hx
      ·rw [List.mem_singleton.1 hx]; exact hk
     refine zx7 (zq1 (zq5 (zq0 (wl_p I_ok rfl (wl (zj2 I_ok hb12 rfl (by rw [zx0, zj6]) (wl (st_lu I_ok rfl idK (zj6 _) rfl hM ?_))))))))
     simp only [if_true]
     obtain ⟨o3, a3, ho3, ht3⟩ := tell_obj hdm (idOf xs[j].1)
     rw [show tell objV ti46.zero (g (idOf xs[j].1)) = .agg (objC o3 a3).toArray from by rw [← ht3]; rfl]
     rw [hdm.1]
     refine wl_p I_ok rfl (wl (zz9 I_ok rfl fun b14 w20 hn14 hb14 hE20 => ?_))
     have ne4_14 : b4 ≠ b14 := Nat.ne_of_lt (Nat.lt_of_lt_of_le hb4.lt hn14)
     have ne7_14 : b7 ≠ b14 := Nat.ne_of_lt (Nat.lt_of_lt_of_le hb7.lt hn14)
     have ne11_14 : b11 ≠ b14 := Nat.ne_of_lt (Nat.lt_of_lt_of_le hb11.lt hn14)
     have ne12_14 : b12 ≠ b14 := Nat.ne_of_lt (Nat.lt_of_lt_of_le hb12.lt hn14)
     have fr14 := Nat.le_trans hX.size hn14
     have hb4 := hb4.zq2 hE20
     have hb7 := hb7.zq2 hE20
     have hb11 := hb11.zq2 hE20
     have hb12 := hb12.zq2 hE20
     have hM := hM.zq2 hE20
     have hq := hq.ext hE20 fun _ _ => id
     have hns := fun h hh => (hns h hh).zq2 hE20
     have hX := hX.zq4 hE20
     have hb14o := hb14
     refine wl (zj1 (l' := objC o3 a3) I_ok hb14 rfl rfl (zq7 ho3) (by rw [zq7 ho3]; rfl) OneC.h fun w21 hb14 hE21 hs21 => ?_)
     have hb4 := hb4.ext1 hE21 ne4_14
     have hb7 := hb7.ext1 hE21 ne7_14
     have hb11 := hb11.ext1 hE21 ne11_14
     have hb12 := hb12.ext1 hE21 ne12_14
     have hM := hM.ext1 hE21 hb14o
     have hq := hq.zx9 hE21 hb14o (by decide)
     have hns := fun h hh => (hns h hh).ext1 hE21 hb14o (by decide) (by decide) (by decide)
     have hX := hX.zx1 hE21 fr14
     refine wl_p I_ok rfl (zq3 (zq1 (zq5 (zq0 (wl_p I_ok rfl (zq3 (zq1 (c_cond rfl (fun hc => ?_) (fun hc => ?_)))))))))
     ·have hnm : ¬ idOf xs[j].1 ∈ L.map zz4.id := by simpa using hc
      refine zq5 (zq0 (wl_p I_ok rfl (wl (zj2 I_ok hb12 rfl (by rw [zx0, zj6]) (wl (zj2 I_ok hb11 rfl (zq7 hxoi) ?_))))))
      refine wl (st_mu I_ok rfl idK (zj6 _) rfl hM (b := (xs[j] : ObjD × ObjP)) rfl fun w22 hM2 hE22 hs22 => ?_)
      have hb4 := hb4.extMap hM hE22
      have hb7 := hb7.extMap hM hE22
      have hb11 := hb11.extMap hM hE22
      have hb12 := hb12.extMap hM hE22
      have hq := hq.extMap hM hE22
      have hns := fun h hh => (hns h hh).extMap hM hE22
      have hX := hX.zx1 hE22 hrw
      have hM := hM2
      have nq7 : ¬ OwnB q b7 := fun e => hq.neTy e hb7 (by decide) rfl
      have nq11 : ¬ OwnB q b11 := fun e => hq.neTy e hb11 (by decide) rfl
      have nq12 : ¬ OwnB q b12 := fun e => hq.neTy e hb12 (by decide) rfl
      refine zq3 (zq1 (c_draw rfl 9 [(0, true), (1, true), (2, true), (3, true), (4, false), (5, true), (6, false), (7, false), (8, true)] [9] (OwnB q) (by kernel_rfl) fun w23 hE23 hs23 => ?_))
      have hd7 := hb7
      have hd11 := hb11
      have hd12 := hb12
      have hb4 := hb4.zq2 hE23
      have hb7 := hb7.zq2 hE23
      have hM := hM.zq2 hE23
      have hq := hq.ext hE23 fun _ _ => id
      have hns := fun h hh => (hns h hh).zq2 hE23
      have hX := hX.zq4 hE23
      have hC : Ext (OwnB q) _ w23 := hE23.no
      refine wd_k I_ok 1 rfl (wd_ld I_ok rfl rfl (fun w' hw' => ((hd7.ext hw' nq7).cell rfl)) ?_)
      refine wd_ldN I_ok rfl rfl (fun w' hw' => ((hd12.ext hw' nq12).seg)) (by rw [zx0, zj6]) ?_
      refine wd_ldN I_ok rfl rfl (fun w' hw' => ((hd11.ext hw' nq11).seg)) (zq7 hxoi) ?_
      have hXc := hX.size
      have hltL : ∀ h ∈ L, ∀ b, ObjF h.a b → b < w23.heap.size := fun h hh => (hns h hh).l.lt
      refine wd_l rfl (zx2 Tryz.call72 rfl rfl rfl rfl rfl rfl (owned_calls w23 hxoi (hxli.zq2 hX) hnsh) fun v24 w24 hr24 => ⟨(by obtain ⟨a2, rfl, hN, hE24⟩ := hr24; exact hC.zq4 hE24), ?_⟩)
      obtain ⟨a2, rfl, hN, hE24⟩ := hr24
      have hb4 := hb4.zq2 hE24
      have hb7 := hb7.zq2 hE24
      have hM := hM.zq2 hE24
      have hq := hq.ext hE24 fun _ _ => id
      have hns := fun h hh => (hns h hh).zq2 hE24
      have hX := hX.zq4 hE24
      have hC := hC.zq4 hE24
      have hap2 : Apart (L ++ [(⟨idOf xs[j].1, xs[j].1, a2⟩ : zz4)]) := hap.snoc hltL hN.ge
      refine wd_bd I_ok rfl rfl ⟨⟨by rw [zj9, zx0, zj6 _], by decide⟩, ⟨by rw [zj9]; exact zq7 hxoi, by decide⟩, trivial⟩ (l' := heldC ⟨idOf xs[j].1, xs[j].1, a2⟩) (by rw [heldZ_c]; exact held_build (zj6 _) hxoi) ?_
      refine wd_l rfl (st_bs I_ok rfl 105 rfl heldZ_c (by rw [List.length_append, zx0, zq7 objZ_in]; rfl) (by decide) (by decide) ⟨⟨by rw [zj9]; exact heldC_len (h := ⟨idOf xs[j].1, xs[j].1, a2⟩) (zj6 _) hxoi, by decide⟩, trivial⟩ (l' := heldC ⟨idOf xs[j].1, xs[j].1, a2⟩) (one_held (h := ⟨idOf xs[j].1, xs[j].1, a2⟩) (heldC_len (zj6 _) hxoi)) fun b69 w25 hn69 hb69 hE25 hs25 => ⟨hC.zq4 hE25, ?_⟩)
      have hb4 := hb4.zq2 hE25
      have hb7 := hb7.zq2 hE25
      have hM := hM.zq2 hE25
      have hq := hq.ext hE25 fun _ _ => id
      have hns := fun h hh => (hns h hh).zq2 hE25
      have hN := hN.zq2 hE25
      have hX := hX.zq4 hE25
      have hC := hC.zq4 hE25
      have hX1 := hX
      have hs69 : Sl w25 (some ⟨b69, 0, none⟩) 1 105 (heldC ⟨idOf xs[j].1, xs[j].1, a2⟩) := ⟨heldC_len (h := ⟨idOf xs[j].1, xs[j].1, a2⟩) (zj6 _) hxoi, .inr ⟨b69, 0, rfl, hb69.seg⟩⟩
      have hr1 : L.length + 1 ≤ maxLen := room_ml (by omega)
      have hr2 : (L.length + 1) * 224 ≤ 140737488355328 := by omega
      refine wd_l rfl (zv2 I_ok rfl 105 224 rfl rfl rfl (by decide) hq (Src.slice (m := 1) hs69 OneC.h) hr1 hr2 fun p26 c26 w26 ho26 hE26 hB26 => ⟨hC.then hE26, ?_⟩)
      dsimp only at ho26 hE26 hB26 ⊢
      have hX := hX1.trans hE26 fun y hy hF => by have := hqn y hF; omega
      have hb4 := hb4.zq8 hq hE26 (by decide)
      have hb7 := hb7.zq8 hq hE26 (by decide)
      have hM := hM.zq8 hq hE26
      have hsz1 := hX1.size
      have hN := (HeldNew.mk (W0 := _) (h := ⟨idOf xs[j].1, xs[j].1, a2⟩) (zj6 _) hxoi hnsh hN).zq8 hq hE26 (by decide) (by decide) (by decide)
      have hns := fun h hh => (hns h hh).zq8 hq hE26 (by decide) (by decide) (by decide)
      have hns2 : ∀ h ∈ L ++ [(⟨idOf xs[j].1, xs[j].1, a2⟩ : zz4)], HeldNew w w26 h := fun h hh => by
       rcases List.mem_append.1 hh with hh | hh
       ·exact hns h hh
       ·rw [List.mem_singleton.1 hh]; exact hN.older (by omega)
      obtain ⟨q2, k2, e1, e2, hq2⟩ : ∃ q2 k2, q2 = p26 ∧ k2 = c26 ∧ Own w26 q2 (L ++ [(⟨idOf xs[j].1, xs[j].1, a2⟩ : zz4)]).length k2 48 105 ((L ++ [(⟨idOf xs[j].1, xs[j].1, a2⟩ : zz4)]).flatMap heldC) := ⟨_, _, rfl, rfl, by
       rw [List.flatMap_append, List.length_append, List.flatMap_singleton]
       exact ho26⟩
      rw [← e1] at hB26
      rw [← e1, ← e2]
      have hqn2 : (∀ y, OwnB q2 y → w.heap.size ≤ y) := fun x hx => (hB26 x hx).elim (fun h => hqn x h) fun h => by omega
      refine wd_k I_ok 1 rfl (wd_sw ?_)
      have hb7o := hb7
      refine wb rfl (st_st I_ok hb7 rfl rfl rfl fun w27 hb7 hE27 hs27 => ?_)
      have hb4 := hb4.ext1 hE27 ne4_7
      have hM := hM.ext1 hE27 hb7o
      have hq2 := hq2.zx9 hE27 hb7o (by decide)
      have hns2 := fun h hh => (hns2 h hh).ext1 hE27 hb7o (by decide) (by decide) (by decide)
      have hX := hX.zx1 hE27 fr7
      have hb7 : Blk w27 b7 29 ([.slice q2 (L ++ [(⟨idOf xs[j].1, xs[j].1, a2⟩ : zz4)]).length k2]) := (by
       rw [List.length_append]
       exact hb7)
      refine zv0 ?_
      exact zx6 (zz7 (L ++ [⟨idOf xs[j].1, xs[j].1, a2⟩], q2, k2, setM g (idOf xs[j].1) xs[j]) rfl ⟨⟨⟨⟨hok2, by rw [putD_take hj2, putO_new hpd hnm], by dsimp only; rw [List.length_append]; show L.length + 1 ≤ _; omega, dom_set hdm hxoi rfl, hap2⟩, hq2, hqn2, hns2⟩, hM⟩, hb4, hb7, hX⟩)
     ·have hnm : idOf xs[j].1 ∈ L.map zz4.id := by simpa using hc
      have hpd2 : toHp L = putD (toHp l) ((xs.take (j + 1)).map Prod.fst) := by rw [putD_take hj2, putO_in hpd hnm, hpd]
      refine zx7 ?_
      exact zx6 (zz7 (L, q, k, g) rfl ⟨⟨⟨⟨hok2, hpd2, by dsimp only; omega, hdm, hap⟩, hq, hqn, hns⟩, hM⟩, hb4, hb7, hX⟩)
   rintro ⟨L2, q2, k2, g2⟩ w28 ⟨⟨⟨⟨hok2, hpd2, hLl3, hdm2, hap3⟩, hq2, hqn2, hns2⟩, hM2⟩, hb4, hb7, hX⟩
   try dsimp only
   dsimp only at hok2 hpd2 hLl3 hdm2 hap3 hq2 hqn2 hns2 hM2
   refine zq0 (wl_p I_ok rfl ?_)
   rw [IntWalk.i64_in _ (by omega)]
   refine zq3 (fin_put 37 rfl (v' := .slice px xs.length cx) (by rw [hp2]) ?_)
   exact zv1 (⟨⟨j + 1, L2, q2, k2⟩, g2⟩) rfl ⟨⟨⟨⟨hj2, hok2, hpd2, hLl3, hdm2, hap3⟩, hq2, hqn2, hns2⟩, hM2⟩, hb4, hb7, hX⟩ (by first | omega | (dsimp only; omega))
  ·have h0 : j = xs.length := by omega
   subst h0
   rw [List.take_length] at hok hpd
   have hE0 := putE_ok hok
   have hLlk := hp_links_le hpd hlk
   refine c_exit (zx3 (zx3 (zz0 (zq1 (zq5 (zq0 (wl (zj2 I_ok hb7 rfl rfl ?_))))))))
   have hb4o := hb4
   refine wl (zj1 (l' := [.slice q L.length k]) I_ok hb4 rfl rfl rfl rfl OneC.h fun w29 hb4 hE29 hs29 => ?_)
   have hq := hq.zx9 hE29 hb4o (by decide)
   have hns := fun h hh => (hns h hh).ext1 hE29 hb4o (by decide) (by decide) (by decide)
   have hX := hX.zx1 hE29 fr4
   refine wl_p I_ok rfl (zq3 (zq1 (zj0 (f_ret [_, _] ⟨⟨b4, 0, rfl, ld_all I_ok rfl rfl hb4.seg rfl⟩, rfl, trivial⟩ ?_))))
   exact ⟨q, k, L, by rw [hE0]; rfl, fun _ => hpd, fun k => absurd hE0 k, ⟨hq.sl, fun x hx => (hns x hx).held, by omega, hLlk⟩, hns, own_newS hq hqn, hap, hq, hX⟩
def takeE (A : List IdB) (xs : List ObjX) : Int := if ∀ x ∈ xs, ObjOk x.1 then (if ∀ x ∈ xs, idOf x.1 ∈ A then 0 else 300) else 160
theorem takeE_bad {A : List IdB} {xs : List ObjX} {x : ObjX} (hx : x ∈ xs) (h : ¬ ObjOk x.1) : takeE A xs = 160 := if_neg fun k => h (k x hx)
theorem takeE_out {A : List IdB} {xs : List ObjX} (h : ∀ x ∈ xs, ObjOk x.1) (h2 : ¬ ∀ x ∈ xs, idOf x.1 ∈ A) : takeE A xs = 300 := by rw [takeE, if_pos h, if_neg h2]
theorem takeE_ok {A : List IdB} {xs : List ObjX} (h : ∀ x ∈ xs, ObjOk x.1) (h2 : ∀ x ∈ xs, idOf x.1 ∈ A) : takeE A xs = 0 := by rw [takeE, if_pos h, if_pos h2]
abbrev idsX (xs : List ObjX) : List IdB := xs.map fun x => idOf x.1
theorem idsX_in (xs : List ObjX) : ∀ y ∈ idsX xs, IdIn y := fun y hy => by
 obtain ⟨x, _, rfl⟩ := List.mem_map.1 hy
 exact zj6 _
theorem ex_ids {xs : List ObjX} {A : List IdB} : (∃ r ∈ idsX xs, ¬ r ∈ A) ↔ ¬ ∀ x ∈ xs, idOf x.1 ∈ A := by
 constructor
 ·rintro ⟨r, hr, hn⟩ h
  obtain ⟨x, hx, rfl⟩ := List.mem_map.1 hr
  exact hn (h x hx)
 ·intro h
  refine Decidable.byContradiction fun k => h fun x hx => Decidable.byContradiction fun hn => k ⟨_, List.mem_map_of_mem hx, hn⟩
theorem indexFuncId_calls (w : World) {p : Option Addr} {c G : Nat} {cv : Value} {l : List IdB} (h : Sl w p l.length 32 (l.flatMap zq6)) (hl : l.length < 1000000000) (h1 : ∀ r ∈ l, IdIn r) (Q : IdB → Prop) [DecidablePred Q]
  (hcf : ∀ args w, (callFunc G args).run Tryz.prog w = .ok (.enter G args) w) (hQ : ∀ u (r : IdB), Ext No w u → IdIn r → zz1 Tryz.prog G [.agg (zq6 r).toArray, cv] u fun v u' => v = .bool (decide (Q r)) ∧ Ext No u u') :
  zz1 Tryz.prog 69 [.slice p l.length c, .func (.func G) #[] #[cv]] w fun v w' => ∃ n : Int, v = .int .i64 n ∧ (0 ≤ n ↔ ∃ r ∈ l, Q r) ∧ Ext No w w' := by
 refine zq9 Tryz.func69 rfl rfl rfl rfl ?_
 have hX := Ext.refl No w
 refine zq5 (zq0 (wl_p I_ok rfl (zq3 (zq1 (zq5 (zq5 (zq0 (wl_p I_ok rfl (zq3 (zq1 (zx4 ?_)))))))))))
 refine zv3 (α := Nat) [0, 1, 7] rfl (fun z => [(8, .int .i64 (z : Int))]) (fun z u => (z ≤ l.length ∧ ∀ k (hk : k < l.length), k < z → ¬ Q l[k]) ∧ Ext No w u) (fun z u => l.length - z) (0) rfl ⟨⟨Nat.zero_le _, fun k _ h => absurd h (Nat.not_lt_zero _)⟩, hX⟩ ?_
 rintro i w1 ⟨⟨hi, hno⟩, hX⟩
 refine zq5 (zq0 (wl_p I_ok rfl (zq3 (zq1 (zq5 (c_if rfl (fun hc => ?_) (fun hc => ?_)))))))
 ·have hi : i < l.length := by omega
  obtain ⟨b, off, rfl, hseg⟩ := (h.zq2 hX).rowAt (fun r hr => (h1 r hr).len) hi
  refine zx7 (zq1 (zq5 (zx4 (zq5 (zq0 (wl_p I_ok rfl (zq3 (zq1 (zq5 (zq0 (wl_p I_ok rfl (wl (st_ix I_ok rfl 32 rfl i rfl (by omega) (off + i * 32) rfl ?_)))))))))))))
  refine wl (st_ldN I_ok rfl hseg (h1 _ (List.getElem_mem hi)).len (wl (zx2 hcf rfl rfl rfl rfl rfl rfl (hQ w1 l[i] hX (h1 _ (List.getElem_mem hi))) fun v2 w2 hr2 => ?_)))
  obtain ⟨rfl, hE2⟩ := hr2
  have hX := hX.zq4 hE2
  refine zq3 (zq1 (c_if rfl (fun hc => ?_) (fun hc => ?_)))
  ·refine zq5 ?_
   refine zq0 (wl_p I_ok rfl (zq3 (zq1 (zj0 (zz3 (zx5 (zx5 (zz3 (zx5 (zz2 rfl rfl ?_))))))))))
   exact ⟨_, rfl, ⟨fun _ => ⟨_, List.getElem_mem hi, hc⟩, fun _ => Int.natCast_nonneg _⟩, hX⟩
  ·refine zx7 ?_
   refine zx6 (zq1 (zq0 (wl_p I_ok rfl ?_)))
   rw [IntWalk.i64_in _ (by omega)]
   refine zq3 ?_
   exact zv1 (i + 1) rfl ⟨⟨by omega, allStep (p := fun x => ¬ Q x) hno hi hc⟩, hX⟩ (by first | omega | (dsimp only; omega))
 ·have hall : ¬ ∃ r ∈ l, Q r := fun ⟨r, hr, hq⟩ => by
   obtain ⟨k, hk, rfl⟩ := List.mem_iff_getElem.1 hr
   exact hno k hk (by omega) hq
  refine c_exit (zx3 (zx3 (zz0 (zq1 (zq5 (zq0 (wl_p I_ok rfl (zq3 (zq1 (zj0 (zz2 rfl rfl ?_)))))))))))
  exact ⟨_, rfl, ⟨fun h => absurd h (by decide), fun h => absurd h hall⟩, hX⟩
theorem containsFuncId_calls (w : World) {p : Option Addr} {c G : Nat} {cv : Value} {l : List IdB} (h : Sl w p l.length 32 (l.flatMap zq6)) (hl : l.length < 1000000000) (h1 : ∀ r ∈ l, IdIn r) (Q : IdB → Prop) [DecidablePred Q]
  (hcf : ∀ args w, (callFunc G args).run Tryz.prog w = .ok (.enter G args) w) (hQ : ∀ u (r : IdB), Ext No w u → IdIn r → zz1 Tryz.prog G [.agg (zq6 r).toArray, cv] u fun v u' => v = .bool (decide (Q r)) ∧ Ext No u u') :
  zz1 Tryz.prog 33 [.slice p l.length c, .func (.func G) #[] #[cv]] w fun v w' => v = .bool (decide (∃ r ∈ l, Q r)) ∧ Ext No w w' := by
 refine zq9 Tryz.func33 rfl rfl rfl rfl ?_
 have hX := Ext.refl No w
 refine zq5 (zq0 (wl_p I_ok rfl (zq3 (zq1 (zq5 (zq0 (wl_p I_ok rfl ?_)))))))
 refine wl (zx2 Tryz.call69 rfl rfl rfl rfl rfl rfl (indexFuncId_calls w (h.zq2 hX) hl h1 Q hcf (fun u r hE hr => hQ u r (hX.zq4 hE) hr)) fun v1 w1 hr1 => ?_)
 obtain ⟨n, rfl, hn1, hE1⟩ := hr1
 have hX := hX.zq4 hE1
 refine wl_p I_ok rfl (zq3 (zq1 (zj0 (zz2 rfl rfl ?_))))
 exact ⟨congrArg Value.bool (decide_eq_decide.2 hn1), hX⟩
theorem take1_calls (w : World) {b ca : Nat} {pa : Option Addr} {A : List IdB} {x : IdB} (hb : Blk w b 34 [.slice pa A.length ca]) (ha : Sl w pa A.length 32 (A.flatMap zq6)) (hal : A.length < 1000000000) (hai : ∀ r ∈ A, IdIn r) (hx : IdIn x) :
  zz1 Tryz.prog 57 [.agg (zq6 x).toArray, .pointer (some ⟨b, 0, none⟩)] w fun v w' => v = .bool (decide (¬ x ∈ A)) ∧ Ext No w w' := by
 refine zq9 Tryz.func57 rfl rfl rfl rfl ?_
 have hX := Ext.refl No w
 refine zq5 (zq0 (wl (zz9 I_ok rfl fun b2 w1 hn2 hb2 hE1 => ?_)))
 have hX := hX.zq4 hE1
 have hb2 : Blk w1 b2 31 (zq6 x) := hb2
 refine wl_p I_ok rfl (zq3 (zq1 (zq5 (zq0 (wl (st_ld I_ok rfl ((hb.zq2 hX).cell rfl) (wl (zj2 I_ok hb2 rfl hx.len ?_))))))))
 refine wl (zx2 Tryz.call29 rfl rfl rfl rfl rfl rfl (containsId_calls w1 (ha.zq2 hX) hal hai hx) fun v2 w2 hr2 => ?_)
 obtain ⟨rfl, hE2⟩ := hr2
 have hX := hX.zq4 hE2
 refine wl_p I_ok rfl (zq3 (zq1 (zj0 (zz2 rfl rfl ?_))))
 exact ⟨congrArg Value.bool (by simp), hX⟩
theorem take_calls (w : World) {p pa px : Option Addr} {c ca cx : Nat} {l : List zz4} {A : List IdB} {xs : List ObjX} (h : HpIn w p l) (ha : Sl w pa A.length 32 (A.flatMap zq6)) (hal : A.length < 1000000000) (hai : ∀ r ∈ A, IdIn r) (hxs : Sl w px xs.length 73 (xs.flatMap objX)) (hxo : ∀ x ∈ xs, ObjIn x.1) (hxs2 : ∀ x ∈ xs, Short x.1) (hxl : ∀ x ∈ xs, ObjL w x.1 x.2) (hn : l.length + xs.length < 1000000) (hlk : (l.flatMap fun e => zj3 e.o).length + (xs.flatMap fun x => zj3 x.1).length < 100000) (hr : Seg w 0 0 (wordsV rootsW)) :
  zz1 Tryz.prog 22 [.agg #[.slice p l.length c], .slice pa A.length ca, .slice px xs.length cx] w fun v w' => ∃ q k m, v = .tuple #[.agg #[.slice q m.length k], .int .i64 (takeE A xs)] ∧ (takeE A xs = 0 → toHp m = putD (toHp l) (xs.map Prod.fst)) ∧ (takeE A xs ≠ 0 → m = []) ∧ HpIn w' q m ∧ (∀ x ∈ m, HeldNew w w' x) ∧ (∀ x off, q = some ⟨x, off, none⟩ → w.heap.size ≤ x) ∧ Apart m ∧ Own w' q m.length k 48 105 (m.flatMap heldC) ∧ Ext No w w' := by
 refine zq9 Tryz.func22 rfl rfl rfl rfl ?_
 have hX := Ext.refl No w
 refine zq5 (zq0 (wl (zz9 I_ok rfl fun b3 w1 hn3 hb3 hE1 => ?_)))
 have hX := hX.zq4 hE1
 have hb3 : Blk w1 b3 29 ([.slice p l.length c]) := hb3
 refine wl (zz9 I_ok rfl fun b4 w2 hn4 hb4 hE2 => ?_)
 have hb3 := hb3.zq2 hE2
 have hX := hX.zq4 hE2
 have hb4 : Blk w2 b4 34 ([.slice pa A.length ca]) := hb4
 refine wl (zz9 I_ok rfl fun b6 w3 hn6 hb6 hE3 => ?_)
 have fr6 := Nat.le_trans hX.size hn6
 have hb3 := hb3.zq2 hE3
 have hb4 := hb4.zq2 hE3
 have hX := hX.zq4 hE3
 have hb6 : Blk w3 b6 29 ([.slice none 0 0]) := hb6
 refine wl_p I_ok rfl (zq3 (zq1 (zq5 (zq0 (wl_p I_ok rfl (zq3 (zq1 (zq5 (zq5 (zq0 (wl_p I_ok rfl (zq3 (zq1 (zx4 ?_))))))))))))))
 refine zv3 (α := Nat × Option Addr × Nat) [2, 3, 4, 6, 13, 14] rfl (fun z => [(8, .slice z.2.1 (idsX (xs.take z.1)).length z.2.2), (15, .int .i64 (z.1 : Int))]) (fun z u => ((z.1 ≤ xs.length ∧ ∀ x ∈ xs.take z.1, ObjOk x.1) ∧ Own u z.2.1 (idsX (xs.take z.1)).length z.2.2 31 32 ((idsX (xs.take z.1)).flatMap zq6) ∧ (∀ y, OwnB z.2.1 y → w.heap.size ≤ y)) ∧ Blk u b3 29 ([.slice p l.length c]) ∧ Blk u b4 34 ([.slice pa A.length ca]) ∧ Blk u b6 29 ([.slice none 0 0]) ∧ Ext No w u) (fun z u => xs.length - z.1) (0, none, 0) rfl ⟨⟨⟨Nat.zero_le _, fun _ hx => (by simp at hx)⟩, Own.nil _ _ _, noOwn⟩, hb3, hb4, hb6, hX⟩ ?_
 rintro ⟨i, q, k⟩ w4 ⟨⟨⟨hi, hok⟩, hq, hqn⟩, hb3, hb4, hb6, hX⟩
 try dsimp only
 dsimp only at hi hok hq hqn
 refine zq5 (zq0 (wl_p I_ok rfl (zq3 (zq1 (zq5 (c_if rfl (fun hc => ?_) (fun hc => ?_)))))))
 ·have hi2 : i < xs.length := by omega
  obtain ⟨xb, xo, hpe, hxr⟩ := (hxs.zq2 hX).rowAll (objX_len hxo) (by omega)
  have hoi := hxo _ (List.getElem_mem hi2)
  have hos := hxs2 _ (List.getElem_mem hi2)
  have hol := hxl _ (List.getElem_mem hi2)
  refine wc_put 13 rfl (v' := .slice (some ⟨xb, xo, none⟩) xs.length cx) (by rw [hpe]) (zx7 (zq1 (zq5 (zx4 (zq5 (zq0 (wl (st_ix I_ok rfl 73 rfl i rfl hi2 (xo + i * 73) rfl ?_))))))))
  refine wl (st_ldN I_ok rfl (hxr i hi2) (zq7 hoi) (wl (zz9 I_ok rfl fun b10 w5 hn10 hb10 hE5 => ?_)))
  have ne3_10 : b3 ≠ b10 := Nat.ne_of_lt (Nat.lt_of_lt_of_le hb3.lt hn10)
  have ne4_10 : b4 ≠ b10 := Nat.ne_of_lt (Nat.lt_of_lt_of_le hb4.lt hn10)
  have ne6_10 : b6 ≠ b10 := Nat.ne_of_lt (Nat.lt_of_lt_of_le hb6.lt hn10)
  have fr10 := Nat.le_trans hX.size hn10
  have hb3 := hb3.zq2 hE5
  have hb4 := hb4.zq2 hE5
  have hb6 := hb6.zq2 hE5
  have hq := hq.ext hE5 fun _ _ => id
  have hX := hX.zq4 hE5
  have hb10o := hb10
  refine wl (zj1 (l' := objX xs[i]) I_ok hb10 rfl rfl (zq7 hoi) (by rw [zq7 hoi]; rfl) OneC.h fun w6 hb10 hE6 hs6 => ?_)
  have hb3 := hb3.ext1 hE6 ne3_10
  have hb4 := hb4.ext1 hE6 ne4_10
  have hb6 := hb6.ext1 hE6 ne6_10
  have hq := hq.zx9 hE6 hb10o (by decide)
  have hX := hX.zx1 hE6 fr10
  refine zq3 (zq1 (zq5 (zq0 (wl (zj2 I_ok hb10 rfl (zq7 hoi) (wl (zx2 Tryz.call28 rfl rfl rfl rfl rfl rfl (idObj_calls w6 hoi (hol.zq2 hX) hos (hr.zq2 hX)) fun v7 w7 hr7 => ?_)))))))
  obtain ⟨rfl, hE7⟩ := hr7
  have hb3 := hb3.zq2 hE7
  have hb4 := hb4.zq2 hE7
  have hb6 := hb6.zq2 hE7
  have hq := hq.ext hE7 fun _ _ => id
  have hX := hX.zq4 hE7
  refine wl_p I_ok rfl ?_
  have hq0 := hq
  refine wl (zz9 I_ok rfl fun b11 w8 hn11 hb11 hE8 => ?_)
  have ne3_11 : b3 ≠ b11 := Nat.ne_of_lt (Nat.lt_of_lt_of_le hb3.lt hn11)
  have ne4_11 : b4 ≠ b11 := Nat.ne_of_lt (Nat.lt_of_lt_of_le hb4.lt hn11)
  have ne6_11 : b6 ≠ b11 := Nat.ne_of_lt (Nat.lt_of_lt_of_le hb6.lt hn11)
  have fr11 := Nat.le_trans hX.size hn11
  have hb3 := hb3.zq2 hE8
  have hb4 := hb4.zq2 hE8
  have hb6 := hb6.zq2 hE8
  have hq := hq.ext hE8 fun _ _ => id
  have hX := hX.zq4 hE8
  have ne11 : ∀ z, OwnB q z → z ≠ b11 := fun z hz => Nat.ne_of_lt (Nat.lt_of_lt_of_le (hq0.lt hz) hn11)
  refine wl (zj1 (l' := zq6 (idB xs[i].1)) I_ok hb11 rfl rfl (by rw [zx0]; exact idB_len _) (by rw [zx0, idB_len]; rfl) OneC.h fun w9 hb11 hE9 hs9 => ?_)
  have hb3 := hb3.ext1 hE9 ne3_11
  have hb4 := hb4.ext1 hE9 ne4_11
  have hb6 := hb6.ext1 hE9 ne6_11
  have hq := hq.ext hE9 (fun z hz => ne11 z hz)
  have hX := hX.zx1 hE9 fr11
  refine wl_p I_ok rfl (zq3 (zq1 (zq5 (zq5 (zq0 (wl_p I_ok rfl (zq3 (zq1 (c_if rfl (fun hc => ?_) (fun hc => ?_))))))))))
  ·have hno : ¬ ObjOk xs[i].1 := fun e => hc (if_pos e)
   have hE := takeE_bad (A := A) (List.getElem_mem hi2) hno
   rw [show objE xs[i].1 = 160 from if_neg hno]
   refine zq5 (zq0 (wl (st_bd I_ok rfl trivial (l' := [.slice none 0 0]) heapZ_c (wl_p I_ok rfl ?_))))
   refine wl (zj1 (l' := [.slice none 0 0]) I_ok hb6 rfl rfl rfl rfl OneC.h fun w10 hb6 hE10 hs10 => ?_)
   have hX := hX.zx1 hE10 fr6
   refine wl_p I_ok rfl (zq3 (zq1 (zj0 (zx5 (zz3 (zx5 (zx5 (zz3 (zx5 (f_ret [_, _] ⟨⟨b6, 0, rfl, ld_all I_ok rfl rfl hb6.seg rfl⟩, rfl, trivial⟩ ?_))))))))))
   exact ⟨none, 0, [], by rw [hE]; rfl, fun k => (by rw [hE] at k; cases k), fun _ => rfl, ⟨Sl.nil _ _ _, fun _ hx => (by cases hx), by show 0 < 1000000; decide, by show 0 < 100000; decide⟩, fun _ hx => (by cases hx), fun x off e => (by cases e), .nil, Own.nil _ _ _, hX⟩
  ·have hok1 : ObjOk xs[i].1 := (if_zero (by decide)).1 (Decidable.not_not.1 hc)
   have eid : idB xs[i].1 = idOf xs[i].1 := if_pos hok1
   rw [eid] at hb11
   refine zx7 (zq1 (zq0 (wl_p I_ok rfl (wl (zj2 I_ok hb11 rfl (IdIn.len (zj6 _)) ?_)))))
   refine wl (st_bs I_ok rfl 32 rfl idZ_c.symm (by rw [zx0]; rfl) (by decide) (by decide) ⟨⟨by rw [zj9]; exact (IdIn.len (zj6 _)), by decide⟩, trivial⟩ (l' := zq6 (idOf xs[i].1)) (one_id (zj6 _)) fun b30 w11 hn30 hb30 hE11 hs11 => ?_)
   have hb3 := hb3.zq2 hE11
   have hb4 := hb4.zq2 hE11
   have hb6 := hb6.zq2 hE11
   have hq := hq.ext hE11 fun _ _ => id
   have hX := hX.zq4 hE11
   have hX1 := hX
   refine wl (zv2 I_ok rfl 32 32 rfl rfl rfl (by decide) hq (Src.slice (m := 1) (one_idS (zj6 _) hb30) OneC.h) (by dsimp only; rw [List.length_map, List.length_take]; dsimp only [maxLen]; omega) (by dsimp only; rw [List.length_map, List.length_take]; omega) fun p12 c12 w12 ho12 hE12 hB12 => ?_)
   dsimp only at ho12 hE12 hB12 ⊢
   have hX := hX1.trans hE12 fun y hy hF => by have := hqn y hF; omega
   have hb3 := hb3.zq8 hq hE12 (by decide)
   have hb4 := hb4.zq8 hq hE12 (by decide)
   have hb6 := hb6.zq8 hq hE12 (by decide)
   have hqn2 := newW hX1 hqn hB12
   have eI : (idsX (xs.take (i + 1))) = (idsX (xs.take i)) ++ [idOf xs[i].1] := by rw [idsX, List.take_succ_eq_append_getElem hi2, List.map_append]; rfl
   obtain ⟨qn, kn, e1, e2, hoo⟩ : ∃ q2 k2, q2 = p12 ∧ k2 = c12 ∧ Own w12 q2 (idsX (xs.take (i + 1))).length k2 31 32 ((idsX (xs.take (i + 1))).flatMap zq6) := ⟨_, _, rfl, rfl, by rw [eI, List.length_append, List.flatMap_append, List.flatMap_singleton]; exact ho12⟩
   rw [← e1] at hqn2
   rw [← e1, ← e2, show (idsX (xs.take i)).length + 1 = (idsX (xs.take (i + 1))).length from by rw [eI, List.length_append]; rfl]
   refine wl_p I_ok rfl (zq3 (zx6 (zq1 (zq0 (wl_p I_ok rfl ?_)))))
   rw [IntWalk.i64_in _ (by omega)]
   refine zq3 (fin_put 13 rfl (v' := .slice px xs.length cx) (by rw [hpe]) ?_)
   exact zv1 (i + 1, qn, kn) rfl ⟨⟨⟨hi2, fun x hx => by rw [List.take_succ_eq_append_getElem hi2] at hx; rcases List.mem_append.1 hx with hx | hx; exact hok x hx; rw [List.mem_singleton.1 hx]; exact hok1⟩, hoo, hqn2⟩, hb3, hb4, hb6, hX⟩ (by first | omega | (dsimp only; omega))
 ·have h0 : i = xs.length := by omega
  subst h0
  rw [List.take_length] at hok hq
  rw [List.take_length]
  refine c_exit (zx3 (zx3 (zz0 (zq1 (zq5 (zq5 (zq0 (wl_p I_ok rfl ?_))))))))
  refine wl (zx2 Tryz.call33 rfl rfl rfl rfl rfl rfl (containsFuncId_calls w4 (l := idsX xs) (cv := .pointer (some ⟨b4, 0, none⟩)) hq.sl (by rw [List.length_map]; omega) (idsX_in xs) (fun y => ¬ y ∈ A) Tryz.call57 (fun u r hE hr1 => take1_calls u (hb4.zq2 hE) ((ha.zq2 hX).zq2 hE) hal hai hr1)) fun v13 w13 hr13 => ?_)
  obtain ⟨rfl, hE13⟩ := hr13
  have hb3 := hb3.zq2 hE13
  have hb6 := hb6.zq2 hE13
  have hX := hX.zq4 hE13
  refine zq3 (zq1 (c_if rfl (fun hc => ?_) (fun hc => ?_)))
  ·have hE := takeE_out hok (ex_ids.1 hc)
   refine zq5 (zq0 (wl (st_bd I_ok rfl trivial (l' := [.slice none 0 0]) heapZ_c ?_)))
   refine wl (zj1 (l' := [.slice none 0 0]) I_ok hb6 rfl rfl rfl rfl OneC.h fun w14 hb6 hE14 hs14 => ?_)
   have hX := hX.zx1 hE14 fr6
   refine wl_p I_ok rfl (zq3 (zq1 (zj0 (zx5 (f_ret [_, _] ⟨⟨b6, 0, rfl, ld_all I_ok rfl rfl hb6.seg rfl⟩, rfl, trivial⟩ ?_)))))
   exact ⟨none, 0, [], by rw [hE]; rfl, fun k => (by rw [hE] at k; cases k), fun _ => rfl, ⟨Sl.nil _ _ _, fun _ hx => (by cases hx), by show 0 < 1000000; decide, by show 0 < 100000; decide⟩, fun _ hx => (by cases hx), fun x off e => (by cases e), .nil, Own.nil _ _ _, hX⟩
  ·have hE := takeE_ok (A := A) hok (Decidable.not_not.1 fun k => hc (ex_ids.2 k))
   refine zx7 (zq1 (zq5 (zq0 (wl (zj2 I_ok hb3 rfl rfl (wl_p I_ok rfl ?_))))))
   have hXp := hX.size
   refine wl (zx2 Tryz.call45 rfl rfl rfl rfl rfl rfl (putDag_calls w13 (h.zq2 hX) (hxs.zq2 hX) hxo hxs2 (fun x hx => (hxl x hx).zq2 hX) hn hlk (hr.zq2 hX)) fun v15 w15 hr15 => ?_)
   obtain ⟨q5, k5, m, rfl, hm1, hm2, hm3, hmn, hmq, hap, hmo, hE15⟩ := hr15
   have hb6 := hb6.zq2 hE15
   have hX := hX.zq4 hE15
   have hpE : putE xs = 0 := if_pos hok
   rw [hpE]
   have hmn := fun x hx => (hmn x hx).older hXp
   have hmq := fun x off e => Nat.le_trans hXp (hmq x off e)
   refine wl_p I_ok rfl ?_
   have hb6o := hb6
   refine wl (zj1 (l' := [.slice q5 m.length k5]) I_ok hb6 rfl rfl rfl rfl OneC.h fun w16 hb6 hE16 hs16 => ?_)
   have hmo := hmo.zx9 hE16 hb6o (by decide)
   have hmn := fun x hx => (hmn x hx).ext1 hE16 hb6o (by decide) (by decide) (by decide)
   have hX := hX.zx1 hE16 fr6
   refine wl_p I_ok rfl (zq3 (zq1 (zj0 (f_ret [_, _] ⟨⟨b6, 0, rfl, ld_all I_ok rfl rfl hb6.seg rfl⟩, rfl, trivial⟩ ?_))))
   exact ⟨q5, k5, m, by rw [hE]; rfl, fun _ => hm1 hpE, fun k => absurd hE k, ⟨hmo.sl, fun x hx => (hmn x hx).held, hm3.len, hm3.lk⟩, hmn, hmq, hap, hmo, hX⟩
theorem take20_calls (w : World) {p pa px : Option Addr} {c ca cx : Nat} {l : List zz4} {A : List IdB} {xs : List ObjX} (h : HpIn w p l) (ha : Sl w pa A.length 32 (A.flatMap zq6)) (hal : A.length < 1000000000) (hai : ∀ r ∈ A, IdIn r) (hxs : Sl w px xs.length 73 (xs.flatMap objX)) (hxo : ∀ x ∈ xs, ObjIn x.1) (hxs2 : ∀ x ∈ xs, Short x.1) (hxl : ∀ x ∈ xs, ObjL w x.1 x.2) (hn : l.length + xs.length < 1000000) (hlk : (l.flatMap fun e => zj3 e.o).length + (xs.flatMap fun x => zj3 x.1).length < 100000) :
  zz1 Tryz.prog 23 [.agg #[.slice p l.length c], .slice pa A.length ca, .slice px xs.length cx] w fun v w' => ∃ q k m, v = .tuple #[.agg #[.slice q m.length k], .int .i64 (takeE A xs)] ∧ (takeE A xs = 0 → m = putW l xs) ∧ (takeE A xs ≠ 0 → m = []) ∧ HpIn w' q m ∧ Own w' q m.length k 48 105 (m.flatMap heldC) ∧ (∀ y, OwnB q y → w.heap.size ≤ y) ∧ Ext No w w' := by
 refine zq9 Tryz.func23 rfl rfl rfl rfl ?_
 have hX := Ext.refl No w
 refine zq5 (zq0 (wl (zz9 I_ok rfl fun b3 w1 hn3 hb3 hE1 => ?_)))
 have hX := hX.zq4 hE1
 have hb3 : Blk w1 b3 29 ([.slice p l.length c]) := hb3
 refine wl (zz9 I_ok rfl fun b6 w2 hn6 hb6 hE2 => ?_)
 have fr6 := Nat.le_trans hX.size hn6
 have hb3 := hb3.zq2 hE2
 have hX := hX.zq4 hE2
 have hb6 : Blk w2 b6 29 ([.slice none 0 0]) := hb6
 refine wl_p I_ok rfl (zq3 (zq1 (zq5 (zq5 (zq0 (wl_p I_ok rfl (zq3 (zq1 (zx4 ?_)))))))))
 refine zv3 (α := Nat) [1, 2, 3, 6, 12, 13] rfl (fun z => [(14, .int .i64 (z : Int))]) (fun z u => (z ≤ xs.length ∧ ∀ x ∈ xs.take z, ObjOk x.1) ∧ Blk u b3 29 ([.slice p l.length c]) ∧ Blk u b6 29 ([.slice none 0 0]) ∧ Ext No w u) (fun z u => xs.length - z) (0) rfl ⟨⟨Nat.zero_le _, fun _ hx => (by simp at hx)⟩, hb3, hb6, hX⟩ ?_
 rintro i w3 ⟨⟨hi, hok⟩, hb3, hb6, hX⟩
 refine zq5 (zq0 (wl_p I_ok rfl (zq3 (zq1 (zq5 (c_if rfl (fun hc => ?_) (fun hc => ?_)))))))
 ·have hi2 : i < xs.length := by omega
  obtain ⟨xb, xo, hpe, hxr⟩ := (hxs.zq2 hX).rowAll (objX_len hxo) (by omega)
  have hoi := hxo _ (List.getElem_mem hi2)
  have hos := hxs2 _ (List.getElem_mem hi2)
  have hol := hxl _ (List.getElem_mem hi2)
  refine wc_put 12 rfl (v' := .slice (some ⟨xb, xo, none⟩) xs.length cx) (by rw [hpe]) (zx7 (zq1 (zq5 (zx4 (zq5 (zq0 (wl (st_ix I_ok rfl 73 rfl i rfl hi2 (xo + i * 73) rfl ?_))))))))
  refine wl (st_ldN I_ok rfl (hxr i hi2) (zq7 hoi) (wl (zz9 I_ok rfl fun b9 w4 hn9 hb9 hE4 => ?_)))
  have ne3_9 : b3 ≠ b9 := Nat.ne_of_lt (Nat.lt_of_lt_of_le hb3.lt hn9)
  have ne6_9 : b6 ≠ b9 := Nat.ne_of_lt (Nat.lt_of_lt_of_le hb6.lt hn9)
  have fr9 := Nat.le_trans hX.size hn9
  have hb3 := hb3.zq2 hE4
  have hb6 := hb6.zq2 hE4
  have hX := hX.zq4 hE4
  refine wl (zj1 (l' := objX xs[i]) I_ok hb9 rfl rfl (zq7 hoi) (by rw [zq7 hoi]; rfl) OneC.h fun w5 hb9 hE5 hs5 => ?_)
  have hb3 := hb3.ext1 hE5 ne3_9
  have hb6 := hb6.ext1 hE5 ne6_9
  have hX := hX.zx1 hE5 fr9
  refine zq3 (zq1 (zq5 (zq0 (wl (zj2 I_ok hb9 rfl (zq7 hoi) (wl (zx2 Tryz.call20 rfl rfl rfl rfl rfl rfl (right6_calls w5 hoi (hol.zq2 hX) hos) fun v6 w6 hr6 => ?_)))))))
  obtain ⟨rfl, hE6⟩ := hr6
  have hb3 := hb3.zq2 hE6
  have hb6 := hb6.zq2 hE6
  have hX := hX.zq4 hE6
  refine wl_p I_ok rfl (zq3 (zq1 (c_cond rfl (fun hc => ?_) (fun hc => ?_))))
  ·have hno : ¬ ObjOk xs[i].1 := by simpa using hc
   have hE := takeE_bad (A := A) (List.getElem_mem hi2) hno
   refine zq5 (zq0 (wl (st_bd I_ok rfl trivial (l' := [.slice none 0 0]) heapZ_c (wl (zj1 (l' := [.slice none 0 0]) I_ok hb6 rfl rfl rfl rfl OneC.h fun w7 hb6 hE7 hs7 => ?_)))))
   have hX := hX.zx1 hE7 fr6
   refine wl_p I_ok rfl (zq3 (zq1 (zj0 (zz3 (zx5 (zx5 (zz3 (zx5 (f_ret [_, _] ⟨⟨b6, 0, rfl, ld_all I_ok rfl rfl hb6.seg rfl⟩, rfl, trivial⟩ ?_)))))))))
   exact ⟨none, 0, [], by rw [hE]; rfl, fun k => (by rw [hE] at k; cases k), fun _ => rfl, ⟨Sl.nil _ _ _, fun _ hx => (by cases hx), by show 0 < 1000000; decide, by show 0 < 100000; decide⟩, Own.nil _ _ _, noOwn, hX⟩
  ·have hok1 : ObjOk xs[i].1 := by simpa using hc
   refine zx7 (zx6 (zq1 (zq0 (wl_p I_ok rfl ?_))))
   rw [IntWalk.i64_in _ (by omega)]
   refine zq3 (fin_put 12 rfl (v' := .slice px xs.length cx) (by rw [hpe]) ?_)
   exact zv1 (i + 1) rfl ⟨⟨hi2, fun x hx => by rw [List.take_succ_eq_append_getElem hi2] at hx; rcases List.mem_append.1 hx with hx | hx; exact hok x hx; rw [List.mem_singleton.1 hx]; exact hok1⟩, hb3, hb6, hX⟩ (by first | omega | (dsimp only; omega))
 ·have h0 : i = xs.length := by omega
  subst h0
  rw [List.take_length] at hok
  refine c_exit (zx3 (zx3 (zz0 (zq1 (zq5 (zq5 (zq0 (wl_p I_ok rfl (zq3 (zq1 (zx4 ?_)))))))))))
  refine zv3 (α := Nat) [1, 2, 3, 6, 23, 24] rfl (fun z => [(25, .int .i64 (z : Int))]) (fun z u => (z ≤ xs.length ∧ ∀ x ∈ xs.take z, idOf x.1 ∈ A) ∧ Blk u b3 29 ([.slice p l.length c]) ∧ Blk u b6 29 ([.slice none 0 0]) ∧ Ext No w u) (fun z u => xs.length - z) (0) rfl ⟨⟨Nat.zero_le _, fun _ hx => (by simp at hx)⟩, hb3, hb6, hX⟩ ?_
  rintro i w8 ⟨⟨hi, hia⟩, hb3, hb6, hX⟩
  refine zq5 (zq0 (wl_p I_ok rfl (zq3 (zq1 (zq5 (c_if rfl (fun hc => ?_) (fun hc => ?_)))))))
  ·have hi2 : i < xs.length := by omega
   obtain ⟨xb, xo, hpe, hxr⟩ := (hxs.zq2 hX).rowAll (objX_len hxo) (by omega)
   have hoi := hxo _ (List.getElem_mem hi2)
   have hos := hxs2 _ (List.getElem_mem hi2)
   have hol := hxl _ (List.getElem_mem hi2)
   refine wc_put 23 rfl (v' := .slice (some ⟨xb, xo, none⟩) xs.length cx) (by rw [hpe]) (zx7 (zq1 (zq5 (zx4 (zq5 (zq0 (wl (st_ix I_ok rfl 73 rfl i rfl hi2 (xo + i * 73) rfl ?_))))))))
   refine wl (st_ldN I_ok rfl (hxr i hi2) (zq7 hoi) (wl (zz9 I_ok rfl fun b11 w9 hn11 hb11 hE9 => ?_)))
   have ne3_11 : b3 ≠ b11 := Nat.ne_of_lt (Nat.lt_of_lt_of_le hb3.lt hn11)
   have ne6_11 : b6 ≠ b11 := Nat.ne_of_lt (Nat.lt_of_lt_of_le hb6.lt hn11)
   have fr11 := Nat.le_trans hX.size hn11
   have hb3 := hb3.zq2 hE9
   have hb6 := hb6.zq2 hE9
   have hX := hX.zq4 hE9
   refine wl (zj1 (l' := objX xs[i]) I_ok hb11 rfl rfl (zq7 hoi) (by rw [zq7 hoi]; rfl) OneC.h fun w10 hb11 hE10 hs10 => ?_)
   have hb3 := hb3.ext1 hE10 ne3_11
   have hb6 := hb6.ext1 hE10 ne6_11
   have hX := hX.zx1 hE10 fr11
   refine zq3 (zq1 (zq5 (zq0 (wl_p I_ok rfl (wl (zj2 I_ok hb11 rfl (zq7 hoi) ?_))))))
   refine wl (zx2 Tryz.call21 rfl rfl rfl rfl rfl rfl (id6_calls w10 hoi (hol.zq2 hX) (bytes_of (hok _ (List.getElem_mem hi2)).1)) fun v11 w11 hr11 => ?_)
   obtain ⟨rfl, hE11⟩ := hr11
   have hb3 := hb3.zq2 hE11
   have hb6 := hb6.zq2 hE11
   have hX := hX.zq4 hE11
   refine wl (zx2 Tryz.call52 rfl rfl rfl rfl rfl rfl (has8_calls w11 (ha.zq2 hX) hal hai (zj6 _)) fun v12 w12 hr12 => ?_)
   obtain ⟨rfl, hE12⟩ := hr12
   have hb3 := hb3.zq2 hE12
   have hb6 := hb6.zq2 hE12
   have hX := hX.zq4 hE12
   refine wl_p I_ok rfl (zq3 (zq1 (c_cond rfl (fun hc => ?_) (fun hc => ?_))))
   ·have hna : ¬ idOf xs[i].1 ∈ A := by simpa using hc
    have hE := takeE_out hok (fun k => hna (k _ (List.getElem_mem hi2)))
    refine zq5 (zq0 (wl (st_bd I_ok rfl trivial (l' := [.slice none 0 0]) heapZ_c (wl (zj1 (l' := [.slice none 0 0]) I_ok hb6 rfl rfl rfl rfl OneC.h fun w13 hb6 hE13 hs13 => ?_)))))
    have hX := hX.zx1 hE13 fr6
    refine wl_p I_ok rfl (zq3 (zq1 (zj0 (zz3 (zx5 (zx5 (zz3 (zx5 (f_ret [_, _] ⟨⟨b6, 0, rfl, ld_all I_ok rfl rfl hb6.seg rfl⟩, rfl, trivial⟩ ?_)))))))))
    exact ⟨none, 0, [], by rw [hE]; rfl, fun k => (by rw [hE] at k; cases k), fun _ => rfl, ⟨Sl.nil _ _ _, fun _ hx => (by cases hx), by show 0 < 1000000; decide, by show 0 < 100000; decide⟩, Own.nil _ _ _, noOwn, hX⟩
   ·have hia1 : idOf xs[i].1 ∈ A := by simpa using hc
    refine zx7 (zx6 (zq1 (zq0 (wl_p I_ok rfl ?_))))
    rw [IntWalk.i64_in _ (by omega)]
    refine zq3 (fin_put 23 rfl (v' := .slice px xs.length cx) (by rw [hpe]) ?_)
    exact zv1 (i + 1) rfl ⟨⟨hi2, fun x hx => by rw [List.take_succ_eq_append_getElem hi2] at hx; rcases List.mem_append.1 hx with hx | hx; exact hia x hx; rw [List.mem_singleton.1 hx]; exact hia1⟩, hb3, hb6, hX⟩ (by first | omega | (dsimp only; omega))
  ·have h0 : i = xs.length := by omega
   rw [h0, List.take_length] at hia
   have hE := takeE_ok hok hia
   refine c_exit (zx3 (zx3 (zz0 (zq1 (zq5 (zq0 (wl (zj2 I_ok hb3 rfl rfl (wl_p I_ok rfl ?_)))))))))
   have hXp := hX.size
   refine wl (zx2 Tryz.call47 rfl rfl rfl rfl rfl rfl (put8_calls w8 (h.zq2 hX) ⟨hxs.zq2 hX, hxo, hxs2, fun x hx => (hxl x hx).zq2 hX, fun x hx => bytes_of (hok x hx).1⟩ hn hlk) fun v14 w14 hr14 => ?_)
   obtain ⟨q5, k5, rfl, hmo, hmn, hm3, hE14⟩ := hr14
   have hb6 := hb6.zq2 hE14
   have hX := hX.zq4 hE14
   have hmn := fun y hy => Nat.le_trans hXp (hmn y hy)
   have hb6o := hb6
   refine wl (zj1 (l' := [.slice q5 (putW l xs).length k5]) I_ok hb6 rfl rfl rfl rfl OneC.h fun w15 hb6 hE15 hs15 => ?_)
   have hmo := hmo.zx9 hE15 hb6o (by decide)
   have hX := hX.zx1 hE15 fr6
   refine wl_p I_ok rfl (zq3 (zq1 (zj0 (f_ret [_, _] ⟨⟨b6, 0, rfl, ld_all I_ok rfl rfl hb6.seg rfl⟩, rfl, trivial⟩ ?_))))
   exact ⟨q5, k5, _, by rw [hE]; rfl, fun _ => rfl, fun k => absurd hE k, ⟨hmo.sl, putW_mem xs (fun y hy => (h.ins y hy).zq2 hX) (fun x hx => HeldIn.objO (hxo x hx) (hxs2 x hx) ((hxl x hx).zq2 hX)), hm3.len, hm3.lk⟩, hmo, hmn, hX⟩
theorem askN_calls (w : World) {p : Option Addr} {c : Nat} {l : List zz4} {x : IdB} (h : HpIn w p l) (hx : IdIn x) (n : Nat) (hn : 0 < n) :
  zz1 Tryz.prog 12 [.agg #[.slice p l.length c], .agg (zq6 x).toArray, .int .i64 (n : Int)] w fun v w' => ∃ q k, v = .tuple #[.slice q (askD (toHp l) x n).length k, .int .i64 0] ∧ Sl w' q (askD (toHp l) x n).length 32 ((askD (toHp l) x n).flatMap zq6) ∧ Ext No w w' :=
 (ask_calls w h hx (n : Int)).mono fun v w' ⟨_, h2, h3⟩ => by
  obtain ⟨q, k, e, _, h4⟩ := h2 n rfl hn
  exact ⟨q, k, e, h4, h3⟩
theorem answerN_calls (w : World) {p pl : Option Addr} {c cl : Nat} {M : List zz4} {L : List IdB} (h : HpIn w p M) (hsl : Sl w pl L.length 32 (L.flatMap zq6)) (hLi : ∀ y ∈ L, IdIn y) (hLl : L.length < 100000000) (n : Nat) (hn : 800 ≤ n) (hnl : n < 9223372036854775808) :
  zz1 Tryz.prog 15 [.agg #[.slice p M.length c], .slice pl L.length cl, .int .i64 (n : Int)] w fun v w' => ∃ q k out, v = .tuple #[.slice q out.length k, .int .i64 0] ∧ out.map Prod.fst = ansGo (toHp M) szO L [] n ∧ OutN w w' q k out ∧ Ext No w w' :=
 (answer_calls w h hsl hLi hLl (n : Int) (by omega)).mono fun v w' ⟨_, h2, h3⟩ => by
  obtain ⟨q, k, out, e, h4, h5⟩ := h2 n rfl hn
  exact ⟨q, k, out, e, h4, h5, h3⟩
theorem ask_len (h : Hp) (x : IdB) (n : Nat) : (askD h x n).length ≤ n := by rw [askD, List.length_take]; omega
theorem ans_lenU (h : Hp) (L : List IdB) (n : Nat) : (ansGo h szO L [] n).length ≤ L.length := by
 rw [ansGo_fit]
 have key : ∀ (os : List ObjD) (left : Nat), (fitGo szO os left).length ≤ os.length := by
  intro os
  induction os with
  | nil => intro left; exact Nat.le_refl _
  | cons o r ih =>
   intro left
   rw [fitGo]
   split
   ·exact Nat.zero_le _
   ·have := ih (left - szO o); rw [List.length_cons, List.length_cons]; omega
 have := key ((ansU h L).map h.obj) n
 rw [List.length_map] at this
 exact Nat.le_trans this (ansU_len h L)
theorem round_calls (w : World) {p ps : Option Addr} {c cs : Nat} {l M : List zz4} {x : IdB} (h : HpIn w p l) (hs : HpIn w ps M) (hx : IdIn x) (hT : ∀ o ∈ (ansD (toHp l) (toHp M) szO x), ObjOk o ∧ idOf o ∈ (askD (toHp l) x 8)) (hn : l.length ≤ 1000) (hlk : (l.flatMap fun e => zj3 e.o).length ≤ 50000) (hD : ∀ o ∈ (ansD (toHp l) (toHp M) szO x), (zj3 o).length ≤ 40) (hr : Seg w 0 0 (wordsV rootsW)) :
  zz1 Tryz.prog 24 [.agg #[.slice p l.length c], .agg #[.slice ps M.length cs], .agg (zq6 x).toArray] w fun v w' => ∃ q k m, v = .tuple #[.agg #[.slice q m.length k], .int .i64 ((m.length : Int) - l.length), .int .i64 0] ∧ toHp m = roundD (toHp l) (toHp M) szO x ∧ HpIn w' q m ∧ (∀ x ∈ m, HeldNew w w' x) ∧ Own w' q m.length k 48 105 (m.flatMap heldC) ∧ (∀ x off, q = some ⟨x, off, none⟩ → w.heap.size ≤ x) ∧ Ext No w w' := by
 have hal := ask_len (toHp l) x 8
 have hai := askD_in h hx 8
 refine zq9 Tryz.func24 rfl rfl rfl rfl ?_
 have hX := Ext.refl No w
 refine zq5 (zq0 (wl (zz9 I_ok rfl fun b3 w1 hn3 hb3 hE1 => ?_)))
 have hX := hX.zq4 hE1
 have hb3 : Blk w1 b3 29 ([.slice p l.length c]) := hb3
 refine wl (zz9 I_ok rfl fun b4 w2 hn4 hb4 hE2 => ?_)
 have hb3 := hb3.zq2 hE2
 have hX := hX.zq4 hE2
 have hb4 : Blk w2 b4 29 ([.slice ps M.length cs]) := hb4
 refine wl (zz9 I_ok rfl fun b5 w3 hn5 hb5 hE3 => ?_)
 have hb3 := hb3.zq2 hE3
 have hb4 := hb4.zq2 hE3
 have hX := hX.zq4 hE3
 have hb5 : Blk w3 b5 31 (zq6 x) := hb5
 refine wl (zz9 I_ok rfl fun b6 w4 hn6 hb6 hE4 => ?_)
 have ne3_6 : b3 ≠ b6 := Nat.ne_of_lt (Nat.lt_of_lt_of_le hb3.lt hn6)
 have fr6 := Nat.le_trans hX.size hn6
 have hb3 := hb3.zq2 hE4
 have hb4 := hb4.zq2 hE4
 have hb5 := hb5.zq2 hE4
 have hX := hX.zq4 hE4
 have hb6 : Blk w4 b6 29 ([.slice none 0 0]) := hb6
 refine wl_p I_ok rfl (zq3 (zq1 (zq5 (zq0 (wl (zj2 I_ok hb3 rfl rfl (wl (zj2 I_ok hb5 rfl hx.len (wl (zx2 Tryz.call12 rfl rfl rfl rfl rfl rfl (askN_calls w4 (h.zq2 hX) hx 8 (by decide)) fun v5 w5 hr5 => ?_))))))))))
 obtain ⟨qa, ka, rfl, ha, hE5⟩ := hr5
 have hb3 := hb3.zq2 hE5
 have hb4 := hb4.zq2 hE5
 have hb6 := hb6.zq2 hE5
 have hX := hX.zq4 hE5
 refine wl_p I_ok rfl (zq3 (zq1 (zq5 (zq5 (zq0 (wl_p I_ok rfl (zq3 (zq1 (c_condF rfl (zx7 (zq1 (zq5 (zq0 (wl (zj2 I_ok hb4 rfl rfl (wl_p I_ok rfl ?_))))))))))))))))
 refine wl (zx2 Tryz.call15 rfl rfl rfl rfl rfl rfl (answerN_calls w5 (hs.zq2 hX) ha hai (by omega) 2000 (by decide) (by decide)) fun v6 w6 hr6 => ?_)
 obtain ⟨qo, ko, out, rfl, hoe, hO, hE6⟩ := hr6
 have hb3 := hb3.zq2 hE6
 have hb6 := hb6.zq2 hE6
 have ha := ha.zq2 hE6
 have hX := hX.zq4 hE6
 have hoe : out.map Prod.fst = (ansD (toHp l) (toHp M) szO x) := hoe
 have hol : out.length ≤ 8 := by
  have h1 := congrArg List.length hoe
  rw [List.length_map] at h1
  have h2 := ans_lenU (toHp M) (askD (toHp l) x 8) 2000
  have h3 : (ansD (toHp l) (toHp M) szO x).length = (ansGo (toHp M) szO (askD (toHp l) x 8) [] 2000).length := rfl
  omega
 have hTo : ∀ y ∈ out, ObjOk y.1 ∧ idOf y.1 ∈ (askD (toHp l) x 8) ∧ (zj3 y.1).length ≤ 40 := fun y hy => by
  have h1 : y.1 ∈ (ansD (toHp l) (toHp M) szO x) := by rw [← hoe]; exact List.mem_map_of_mem hy
  exact ⟨(hT _ h1).1, (hT _ h1).2, hD _ h1⟩
 have htk := takeE_ok (A := (askD (toHp l) x 8)) (fun y hy => (hTo y hy).1) (fun y hy => (hTo y hy).2.1)
 have hlo := flat_few (f := fun x : ObjX => zj3 x.1) (L := out) (n := 40) fun y hy => (hTo y hy).2.2
 have hlo2 : (out.flatMap fun x => zj3 x.1).length ≤ 400 := by
  have := Nat.mul_le_mul_right 40 hol
  omega
 refine wl_p I_ok rfl (zq3 (zq1 (zq5 (zq5 (zq0 (wl_p I_ok rfl (zq3 (zq1 (c_condF rfl (zx7 (zq1 (zq5 (zq0 (wl (zj2 I_ok hb3 rfl rfl (wl_p I_ok rfl ?_))))))))))))))))
 have hXp := hX.size
 refine wl (zx2 Tryz.call22 rfl rfl rfl rfl rfl rfl (take_calls w6 (h.zq2 hX) ha (by omega) hai hO.own.sl (fun y hy => (hO.ins y hy).1) (fun y hy => (hO.ins y hy).2) (fun y hy => (hO.new y hy).l) (by omega) (by omega) (hr.zq2 hX)) fun v7 w7 hr7 => ?_)
 obtain ⟨q5, k5, m, rfl, hm1, hm2, hm3, hmn, hmq, hap, hmo, hE7⟩ := hr7
 have hb3 := hb3.zq2 hE7
 have hb6 := hb6.zq2 hE7
 have hX := hX.zq4 hE7
 have hm1 := hm1 htk
 rw [hoe] at hm1
 rw [htk]
 have hmn := fun x hx => (hmn x hx).older hXp
 have hmq := fun x off e => Nat.le_trans hXp (hmq x off e)
 have hmlen := hm3.len
 refine wl_p I_ok rfl (wl (zz9 I_ok rfl fun b12 w8 hn12 hb12 hE8 => ?_))
 have ne3_12 : b3 ≠ b12 := Nat.ne_of_lt (Nat.lt_of_lt_of_le hb3.lt hn12)
 have ne6_12 : b6 ≠ b12 := Nat.ne_of_lt (Nat.lt_of_lt_of_le hb6.lt hn12)
 have fr12 := Nat.le_trans hX.size hn12
 have hb3 := hb3.zq2 hE8
 have hb6 := hb6.zq2 hE8
 have hmo := hmo.ext hE8 fun _ _ => id
 have hmn := fun x hx => (hmn x hx).zq2 hE8
 have hX := hX.zq4 hE8
 have hb12o := hb12
 refine wl (zj1 (l' := [.slice q5 m.length k5]) I_ok hb12 rfl rfl rfl rfl OneC.h fun w9 hb12 hE9 hs9 => ?_)
 have hb3 := hb3.ext1 hE9 ne3_12
 have hb6 := hb6.ext1 hE9 ne6_12
 have hmo := hmo.zx9 hE9 hb12o (by decide)
 have hmn := fun x hx => (hmn x hx).ext1 hE9 hb12o (by decide) (by decide) (by decide)
 have hX := hX.zx1 hE9 fr12
 refine wl_p I_ok rfl (zq3 (zq1 (zq5 (zq5 (zq0 (wl_p I_ok rfl (zq3 (zq1 (c_condF rfl (zx7 (zq1 (zq5 ?_))))))))))))
 refine c_draw rfl 9 [(0, true), (1, true), (2, true), (3, true), (4, true), (5, true), (6, true), (7, true), (8, false)] [9, 10] (One b6) (by kernel_rfl) fun w10 hE10 hs10 => ?_
 have hd3 := hb3
 have hd12 := hb12
 have hb6 := hb6.zq2 hE10
 have hmo := hmo.ext hE10 fun _ _ => id
 have hmn := fun x hx => (hmn x hx).zq2 hE10
 have hX := hX.zq4 hE10
 have hC : Ext (One b6) _ w10 := hE10.no
 refine wd_ldN I_ok rfl rfl (fun w' hw' => ((hd12.ext1 hw' ne6_12.symm).seg)) rfl ?_
 refine wd_k I_ok 1 rfl (wd_ld I_ok rfl rfl (fun w' hw' => ((hd12.ext1 hw' ne6_12.symm).cell rfl)) ?_)
 refine wd_k I_ok 2 rfl (wd_ld I_ok rfl rfl (fun w' hw' => ((hd3.ext1 hw' ne3_6).cell rfl)) ?_)
 refine wd_k I_ok 2 rfl ?_
 rw [IntWalk.i64_in _ (by omega)]
 have hb6o := hb6
 refine wd_l rfl (zj1 (l' := [.slice q5 m.length k5]) I_ok hb6 rfl rfl rfl rfl OneC.h fun w11 hb6 hE11 hs11 => ⟨hC.then hE11, ?_⟩)
 have hmo := hmo.zx9 hE11 hb6o (by decide)
 have hmn := fun x hx => (hmn x hx).ext1 hE11 hb6o (by decide) (by decide) (by decide)
 have hX := hX.zx1 hE11 fr6
 refine wd_sw (wb rfl (st_p I_ok rfl rfl rfl (wb rfl (st_p I_ok rfl rfl rfl (zv0 (zq1 (zj0 (f_ret [_, _, _] ⟨⟨b6, 0, rfl, ld_all I_ok rfl rfl hb6.seg rfl⟩, rfl, rfl, trivial⟩ ?_))))))))
 exact ⟨q5, k5, m, rfl, hm1, ⟨hmo.sl, fun x hx => (hmn x hx).held, hm3.len, hm3.lk⟩, hmn, hmo, hmq, hX⟩
theorem done_calls (w : World) {p : Option Addr} {c : Nat} {l : List zz4} {x : IdB} (h : HpIn w p l) (hx : IdIn x) :
  zz1 Tryz.prog 25 [.agg #[.slice p l.length c], .agg (zq6 x).toArray] w fun v w' => v = .bool (decide ((toHp l).closed x = 0)) ∧ Ext No w w' := by
 refine zq9 Tryz.func25 rfl rfl rfl rfl ?_
 have hX := Ext.refl No w
 refine zq5 (zq0 (wl (zz9 I_ok rfl fun b2 w1 hn2 hb2 hE1 => ?_)))
 have hX := hX.zq4 hE1
 have hb2 : Blk w1 b2 29 ([.slice p l.length c]) := hb2
 refine wl (zz9 I_ok rfl fun b3 w2 hn3 hb3 hE2 => ?_)
 have hb2 := hb2.zq2 hE2
 have hX := hX.zq4 hE2
 have hb3 : Blk w2 b3 31 (zq6 x) := hb3
 refine wl_p I_ok rfl (zq3 (zq1 (zq5 (zq0 (wl (zj2 I_ok hb2 rfl rfl (wl (zj2 I_ok hb3 rfl hx.len (wl (zx2 Tryz.call36 rfl rfl rfl rfl rfl rfl (closedD_calls w2 (h.zq2 hX) hx) fun v3 w3 hr3 => ?_))))))))))
 obtain ⟨rfl, hE3⟩ := hr3
 have hX := hX.zq4 hE3
 refine wl_p I_ok rfl (zq3 (zq1 (zj0 (zz2 rfl rfl ?_))))
 exact ⟨rfl, hX⟩
theorem partO_bytes (w0 : World) {rows : List RowD} (ht : ObjOk (treeOf (tex8 rows))) : ∀ o ∈ partO (tex8 rows), BytesIn o := fun o ho => by
 unfold partO at ho
 rcases List.mem_append.1 ho with ho | ho
 ·obtain ⟨t, h1, rfl⟩ := List.mem_map.1 ho
  exact (held_okB w0 h1).2.1
 ·rw [List.mem_singleton.1 ho]; exact bytes_of ht.1
theorem putD_bytes : ∀ (A : List ObjD) {h : Hp}, (∀ e ∈ h, BytesIn e.2) → (∀ o ∈ A, BytesIn o) → ∀ e ∈ putD h A, BytesIn e.2
 | [], _, k, _ => k
 | o :: A, h, k, hA => putD_bytes A (h := putO h o) (fun e he => by
   unfold putO at he
   split at he
   ·exact k e he
   ·rcases List.mem_append.1 he with he | he
    ·exact k e he
    ·rw [List.mem_singleton.1 he]; exact hA o List.mem_cons_self) fun y hy => hA y (List.mem_cons_of_mem _ hy)
theorem fold_bytes (w0 : World) : ∀ (L : List StepD) {x : Hp × List IdB}, (∀ e ∈ x.1, BytesIn e.2) → ∀ e ∈ (L.foldl stepD x).1, BytesIn e.2
 | [], _, k => k
 | s :: L, x, k => fold_bytes w0 L (x := stepD x s) (by
   unfold stepD
   split
   ·rename_i c
    refine putD_bytes _ k fun o ho => ?_
    rcases List.mem_append.1 ho with ho | ho
    ·exact partO_bytes w0 c.2 o ho
    ·rw [List.mem_singleton.1 ho]; exact comD_bytes _ _ _
   ·exact k)
theorem bytes_made (w0 : World) (L : List StepD) : ∀ e ∈ (madeD L).1, BytesIn e.2 := fold_bytes w0 _ fun _ h => by cases h
theorem bytes_held (w0 : World) {m : List zz4} {L : List StepD} (e : toHp m = (madeD L).1) : ∀ x ∈ m, BytesIn x.o := fun x hx => bytes_made w0 L (x.id, x.o) (by rw [← e]; exact List.mem_map_of_mem (f := fun x : zz4 => (x.id, x.o)) hx)
structure KO (n0 N : Nat) (w : World) (P : World → Prop) : Prop where
  n : N ≤ w.heap.size
  st : Stb (fun x => x < n0 ∨ N ≤ x) w P
theorem KO.now {n0 N : Nat} {w : World} {P : World → Prop} (h : KO n0 N w P) : P w := h.st.now
theorem KO.no {n0 N : Nat} {w w' : World} {P : World → Prop} (h : KO n0 N w P) (hE : Ext No w w') : KO n0 N w' P := ⟨Nat.le_trans h.n hE.size, h.st.step hE (fun _ _ k => k.elim) fun _ _ k => k⟩
theorem KO.one {n0 N b : Nat} {w w' : World} {P : World → Prop} (h : KO n0 N w P) (hE : Ext (One b) w w') (hb : b < n0 ∨ N ≤ b) : KO n0 N w' P := ⟨Nat.le_trans h.n hE.size, h.st.step hE (fun x _ e => by have e : x = b := e; rw [e]; exact hb) fun _ _ k => k⟩
theorem KO.ow {n0 N : Nat} {w w' : World} {P : World → Prop} (h : KO n0 N w P) {T : Nat → Prop} (hE : Ext T w w') (hT : ∀ x, x < w.heap.size → T x → x < n0 ∨ N ≤ x) : KO n0 N w' P := ⟨Nat.le_trans h.n hE.size, h.st.step hE hT fun _ _ k => k⟩
theorem MadeQ.ko {W w : World} {q : Option Addr} {m : List zz4} {qi : Option Addr} {ki : Nat} {ids : List IdB} (h : MadeQ W w q m qi ki ids) : KO W.heap.size w.heap.size w (fun u => HpIn u q m ∧ Sl u qi ids.length 32 (ids.flatMap zq6)) :=
 ⟨Nat.le_refl _, fun u hu => ⟨h.hp u (hu.mono fun x hx k => k.elim .inl fun k => by omega), (h.own.ext hu fun x hx k => k.elim (fun k => by have := h.new x hx; omega) fun k => by have := h.own.lt hx; omega).sl⟩⟩
theorem one_in {u : World} {b T : Nat} {x : ObjX} (hb : Blk u b T (objC x.1 x.2)) (hi : ObjIn x.1) (hs : Short x.1) (hl : ObjL u x.1 x.2) (hf : BytesIn x.1) : ObjsIn u (some ⟨b, 0, none⟩) [x] :=
 ⟨⟨by rw [List.flatMap_singleton]; exact zq7 hi, .inr ⟨b, 0, rfl, by rw [List.flatMap_singleton]; exact hb.seg⟩⟩, fun y hy => by rw [List.mem_singleton.1 hy]; exact hi, fun y hy => by rw [List.mem_singleton.1 hy]; exact hs, fun y hy => by rw [List.mem_singleton.1 hy]; exact hl, fun y hy => by rw [List.mem_singleton.1 hy]; exact hf⟩
theorem id_at {w : World} {q : Option Addr} {b o : Nat} {L : List IdB} (h : Sl w q L.length 32 (L.flatMap zq6)) (hq : q = some ⟨b, o, none⟩) (hL : ∀ y ∈ L, IdIn y) {i : Nat} (hi : i < L.length) : Seg w b (o + i * 32) (zq6 L[i]) := by
 obtain ⟨b2, o2, e, h2⟩ := h.rowAll (fun r hr => IdIn.len (hL r hr)) (by omega)
 rw [hq] at e
 cases e
 exact h2 i hi
def headX (ids : List IdB) (head : Int) : IdB := if head < 0 ∨ (ids.length : Int) ≤ head then id9U else ids.getD head.toNat []
theorem headX_in {ids : List IdB} (h : ∀ y ∈ ids, IdIn y) (head : Int) : IdIn (headX ids head) := by
 unfold headX
 split
 ·exact id9U_in
 ·rename_i c
  rw [List.getD_eq_getElem?_getD, List.getElem?_eq_getElem (by omega)]
  exact h _ (List.getElem_mem _)
abbrev hasC (has : List Int) : List Value := has.map fun z => Value.int .i64 z
def Part (m mc : List zz4) : Prop := ∀ y ∈ mc, ∃ x ∈ m, y = heldO (x.o, x.a)
theorem Part.hp {u : World} {q qc : Option Addr} {m mc : List zz4} (h : Part m mc) (hm : HpIn u q m) (hs : Sl u qc mc.length 105 (mc.flatMap heldC)) (hl : mc.length ≤ 1000) (hk : ∀ x ∈ m, (zj3 x.o).length ≤ 40) : HpIn u qc mc :=
 ⟨hs, fun y hy => by obtain ⟨x, hx, rfl⟩ := h y hy; exact HeldIn.objO (hm.ins x hx).o (hm.ins x hx).sh (hm.ins x hx).l, by omega, lk_few hl fun y hy => by obtain ⟨x, hx, rfl⟩ := h y hy; exact hk x hx⟩
theorem Part.put {m mc : List zz4} (h : Part m mc) {x : zz4} (hx : x ∈ m) : Part m (putW mc [(x.o, x.a)]) := fun y hy => putW_mem (P := fun y => ∃ x ∈ m, y = heldO (x.o, x.a)) [(x.o, x.a)] h (fun z hz => by rw [List.mem_singleton.1 hz]; exact ⟨x, hx, rfl⟩) y hy
theorem id9_buildU : putAll (zq6 idZ) [(0, 1, .int .u8 9)] = zq6 id9U := rfl
theorem heaps_calls (w : World) {ps ph : Option Addr} {ck ch : Nat} {steps : List StepT} {has : List Int} (hs : Sl w ps steps.length 3 (steps.flatMap stepC)) (hsi : ∀ s ∈ steps, StepIn w s) (hsl : steps.length < 9223372036854775808) (hh : Sl w ph has.length 1 (hasC has)) (_hhl : has.length < 9223372036854775808) (head : Int) :
  zz1 Tryz.prog 11 [.agg #[.slice ps steps.length ck, .slice ph has.length ch, .int .i64 head]] w fun v w' => ∃ qc kc mc q k m ids, v = .tuple #[.agg #[.slice qc mc.length kc], .agg #[.slice q m.length k], .agg (zq6 (headX ids head)).toArray] ∧ (toHp m, ids) = madeD (steps.map StepT.d) ∧ HpIn w' q m ∧ HpIn w' qc mc ∧ Own w' qc mc.length kc 48 105 (mc.flatMap heldC) ∧ IdIn (headX ids head) ∧ mc.length ≤ 30 ∧ mc.length ≤ has.length ∧ m.length ≤ 60 ∧ (∀ x ∈ mc, (zj3 x.o).length ≤ 40) ∧ (∀ x ∈ m, (zj3 x.o).length ≤ 40) ∧ Ext No w w' := by
 refine zq9 Tryz.func11 rfl rfl rfl rfl ?_
 have hX := Ext.refl No w
 refine zq5 (zq0 (wl (zz9 I_ok rfl fun b1 w1 hn1 hb1 hE1 => ?_)))
 have hX := hX.zq4 hE1
 have hb1 : Blk w1 b1 25 ([.slice ps steps.length ck, .slice ph has.length ch, .int .i64 head]) := hb1
 refine wl (zz9 I_ok rfl fun b2 w2 hn2 hb2 hE2 => ?_)
 have ne1_2 : b1 ≠ b2 := Nat.ne_of_lt (Nat.lt_of_lt_of_le hb1.lt hn2)
 have fr2 := Nat.le_trans hX.size hn2
 have hb1 := hb1.zq2 hE2
 have hX := hX.zq4 hE2
 have hb2 : Blk w2 b2 29 ([.slice none 0 0]) := hb2
 refine wl (zz9 I_ok rfl fun b3 w3 hn3 hb3 hE3 => ?_)
 have ne1_3 : b1 ≠ b3 := Nat.ne_of_lt (Nat.lt_of_lt_of_le hb1.lt hn3)
 have ne2_3 : b2 ≠ b3 := Nat.ne_of_lt (Nat.lt_of_lt_of_le hb2.lt hn3)
 have fr3 := Nat.le_trans hX.size hn3
 have hb1 := hb1.zq2 hE3
 have hb2 := hb2.zq2 hE3
 have hX := hX.zq4 hE3
 have hb3 : Blk w3 b3 29 ([.slice none 0 0]) := hb3
 refine wl (zz9 I_ok rfl fun b4 w4 hn4 hb4 hE4 => ?_)
 have ne2_4 : b2 ≠ b4 := Nat.ne_of_lt (Nat.lt_of_lt_of_le hb2.lt hn4)
 have ne3_4 : b3 ≠ b4 := Nat.ne_of_lt (Nat.lt_of_lt_of_le hb3.lt hn4)
 have fr4 := Nat.le_trans hX.size hn4
 have hb1 := hb1.zq2 hE4
 have hb2 := hb2.zq2 hE4
 have hb3 := hb3.zq2 hE4
 have hX := hX.zq4 hE4
 have hb4 : Blk w4 b4 31 (zq6 idZ) := (by have k := hb4; rw [← idZ_c] at k; exact k)
 refine zq3 (zq1 (zq5 (zq0 (wl_p I_ok rfl (wl (st_ldb I_ok hb1 rfl rfl ?_))))))
 have hl2 := hb2.lt
 have hl3 := hb3.lt
 have hl4 := hb4.lt
 obtain ⟨n4, hn4e⟩ : ∃ N, N = w4.heap.size := ⟨_, rfl⟩
 rw [← hn4e] at hl2 hl3 hl4
 refine wl (zx2 Tryz.call46 rfl rfl rfl rfl rfl rfl (made_calls w4 (hs.zq2 hX) (fun s h => (hsi s h).zq2 hX) hsl) fun v5 w5 hr5 => ?_)
 obtain ⟨q, k, m, qi, ki, ids, rfl, hMQ, hMD, hE5⟩ := hr5
 have hb1 := hb1.zq2 hE5
 have hb2 := hb2.zq2 hE5
 have hb3 := hb3.zq2 hE5
 have hb4 := hb4.zq2 hE5
 have hX := hX.zq4 hE5
 have hK := hMQ.ko
 rw [← hn4e] at hK
 have hml := hMQ.few
 have hil := hMQ.il
 have hiin := hMQ.iin
 have hlks := hMQ.lks
 have hbm := bytes_held w (Prod.mk.inj hMD).1
 have fK2 : b2 < n4 ∨ w5.heap.size ≤ b2 := .inl hl2
 have fK3 : b3 < n4 ∨ w5.heap.size ≤ b3 := .inl hl3
 have fK4 : b4 < n4 ∨ w5.heap.size ≤ b4 := .inl hl4
 obtain ⟨N, hN⟩ : ∃ N, N = w5.heap.size := ⟨_, rfl⟩
 rw [← hN] at hK fK2 fK3 fK4
 refine wl_p I_ok rfl ?_
 have hRK := hK.n
 refine wl (zz9 I_ok rfl fun b5 w6 hn5 hb5 hE6 => ?_)
 have ne1_5 : b1 ≠ b5 := Nat.ne_of_lt (Nat.lt_of_lt_of_le hb1.lt hn5)
 have ne2_5 : b2 ≠ b5 := Nat.ne_of_lt (Nat.lt_of_lt_of_le hb2.lt hn5)
 have ne3_5 : b3 ≠ b5 := Nat.ne_of_lt (Nat.lt_of_lt_of_le hb3.lt hn5)
 have ne4_5 : b4 ≠ b5 := Nat.ne_of_lt (Nat.lt_of_lt_of_le hb4.lt hn5)
 have fr5 := Nat.le_trans hX.size hn5
 have hb1 := hb1.zq2 hE6
 have hb2 := hb2.zq2 hE6
 have hb3 := hb3.zq2 hE6
 have hb4 := hb4.zq2 hE6
 have hK := hK.no hE6
 have hX := hX.zq4 hE6
 have fK5 : b5 < n4 ∨ N ≤ b5 := .inr (Nat.le_trans hRK hn5)
 refine wl (zj1 (l' := [.slice q m.length k]) I_ok hb5 rfl rfl rfl rfl OneC.h fun w7 hb5 hE7 hs7 => ?_)
 have hb1 := hb1.ext1 hE7 ne1_5
 have hb2 := hb2.ext1 hE7 ne2_5
 have hb3 := hb3.ext1 hE7 ne3_5
 have hb4 := hb4.ext1 hE7 ne4_5
 have hK := hK.one hE7 fK5
 have hX := hX.zx1 hE7 fr5
 refine wl_p I_ok rfl (zq3 (zq1 (zq5 (zq0 ?_))))
 have hRK := hK.n
 refine wl (zz9 I_ok rfl fun b7 w8 hn7 hb7 hE8 => ?_)
 have ne1_7 : b1 ≠ b7 := Nat.ne_of_lt (Nat.lt_of_lt_of_le hb1.lt hn7)
 have ne2_7 : b2 ≠ b7 := Nat.ne_of_lt (Nat.lt_of_lt_of_le hb2.lt hn7)
 have ne3_7 : b3 ≠ b7 := Nat.ne_of_lt (Nat.lt_of_lt_of_le hb3.lt hn7)
 have ne4_7 : b4 ≠ b7 := Nat.ne_of_lt (Nat.lt_of_lt_of_le hb4.lt hn7)
 have ne5_7 : b5 ≠ b7 := Nat.ne_of_lt (Nat.lt_of_lt_of_le hb5.lt hn7)
 have fr7 := Nat.le_trans hX.size hn7
 have hb1 := hb1.zq2 hE8
 have hb2 := hb2.zq2 hE8
 have hb3 := hb3.zq2 hE8
 have hb4 := hb4.zq2 hE8
 have hb5 := hb5.zq2 hE8
 have hK := hK.no hE8
 have hX := hX.zq4 hE8
 have fK7 : b7 < n4 ∨ N ≤ b7 := .inr (Nat.le_trans hRK hn7)
 have hb7o := hb7
 have hb7 : Blk w8 b7 29 [.slice none 0 0] := hb7
 refine zq3 (zq1 ?_)
 refine c_cutK (α := List zz4 × Option Addr × Nat) [1, 2, 3, 4, 5, 6, 7] rfl (fun z => []) (fun z u => ((z.1.length ≤ 30 ∧ z.1.length ≤ has.length ∧ Part m z.1) ∧ Own u z.2.1 z.1.length z.2.2 48 105 (z.1.flatMap heldC) ∧ (∀ y, OwnB z.2.1 y → N ≤ y) ∧ KO n4 N u (fun u => HpIn u q m ∧ Sl u qi ids.length 32 (ids.flatMap zq6))) ∧ Blk u b1 25 ([.slice ps steps.length ck, .slice ph has.length ch, .int .i64 head]) ∧ Blk u b2 29 ([.slice none 0 0]) ∧ Blk u b3 29 ([.slice none 0 0]) ∧ Blk u b4 31 (zq6 idZ) ∧ Blk u b5 29 ([.slice q m.length k]) ∧ Blk u b7 29 ([.slice z.2.1 z.1.length z.2.2]) ∧ Ext No w u) ?_ ?_
 ·refine zq5 ?_
  refine zq0 (wl_p I_ok rfl (wl (st_ldb I_ok hb1 rfl rfl (wl_p I_ok rfl (zq3 (zq1 (zx4 ?_)))))))
  refine zv3 (α := Nat × List zz4 × Option Addr × Nat) [1, 2, 3, 4, 5, 6, 7, 18, 19] rfl (fun z => [(20, .int .i64 (z.1 : Int))]) (fun z u => ((z.1 ≤ has.length ∧ z.2.1.length ≤ z.1 ∧ z.1 ≤ 30 ∧ Part m z.2.1) ∧ Own u z.2.2.1 z.2.1.length z.2.2.2 48 105 (z.2.1.flatMap heldC) ∧ (∀ y, OwnB z.2.2.1 y → N ≤ y) ∧ KO n4 N u (fun u => HpIn u q m ∧ Sl u qi ids.length 32 (ids.flatMap zq6))) ∧ Blk u b1 25 ([.slice ps steps.length ck, .slice ph has.length ch, .int .i64 head]) ∧ Blk u b2 29 ([.slice none 0 0]) ∧ Blk u b3 29 ([.slice none 0 0]) ∧ Blk u b4 31 (zq6 idZ) ∧ Blk u b5 29 ([.slice q m.length k]) ∧ Blk u b7 29 ([.slice z.2.2.1 z.2.1.length z.2.2.2]) ∧ Ext No w u) (fun z u => has.length - z.1) (0, [], none, 0) rfl ⟨⟨⟨Nat.zero_le _, Nat.zero_le _, Nat.zero_le _, fun _ hy => (by cases hy)⟩, Own.nil _ _ _, noOwn, hK⟩, hb1, hb2, hb3, hb4, hb5, hb7, hX⟩ ?_
  rintro ⟨i, mc, qc, kc⟩ w9 ⟨⟨⟨hi, hcl, hi30, hpt⟩, hcO, hcn, hK⟩, hb1, hb2, hb3, hb4, hb5, hb7, hX⟩
  try dsimp only
  dsimp only at hi hcl hi30 hpt hcO hcn hb7
  refine zq5 (zq0 (wl_p I_ok rfl (zq3 (zq1 (zq5 (c_if rfl (fun hc => ?_) (fun hc => ?_)))))))
  ·have hi2 : i < has.length := by omega
   obtain ⟨hb0, ho0, hpe, hhs⟩ : ∃ b o, ph = some ⟨b, o, none⟩ ∧ Seg w9 b o (hasC has) := by
    rcases (hh.zq2 hX).2 with h0 | ⟨b, o, e, h1⟩
    ·omega
    ·exact ⟨b, o, e, h1⟩
   have hhi : (hasC has)[i]? = some (.int .i64 has[i]) := by rw [List.getElem?_map, List.getElem?_eq_getElem hi2]; rfl
   refine wc_put 18 rfl (v' := .slice (some ⟨hb0, ho0, none⟩) has.length ch) (by rw [hpe]) (zx7 (zq1 (zq5 (zx4 (zq5 (zq0 (wl_p I_ok rfl (wl (st_ix I_ok rfl 1 rfl i rfl hi2 (ho0 + i * 1) rfl ?_)))))))))
   refine wl (st_ld I_ok rfl (by rw [Nat.mul_one]; exact hhs i _ hhi) (wl_p I_ok rfl (zq3 (zq1 (zq5 ?_)))))
   refine c_cutK (α := Bool) [1, 2, 3, 4, 5, 6, 7, 9, 18, 19, 20] rfl (fun z => [(32, .bool z)]) (fun z u => u = w9 ∧ z = decide (i = 30 ∨ m.length = 0)) ?_ ?_
   ·refine zq0 ?_
    refine wl_p I_ok rfl (zj4 27 rfl (fun hg => ?_) (fun hg => ?_))
    ·have hg1 : i = 30 := by omega
     refine zz5 I_ok 5 rfl (zq3 ?_)
     exact zz7 (true) rfl ⟨rfl, (decide_eq_true (.inl hg1)).symm⟩
    ·have hg1 : ¬ i = 30 := by omega
     refine zz5 I_ok 1 rfl (wl (st_ldb I_ok hb5 rfl rfl (zz5 I_ok 3 rfl (zq3 ?_))))
     exact zz7 (_) rfl ⟨rfl, by rw [decide_eq_decide]; exact ⟨fun k => .inr (by omega), fun k => k.elim (fun k => absurd k hg1) fun k => by omega⟩⟩
   rintro z w10 ⟨hu, rfl⟩
   have hu := hu.symm
   subst hu
   refine c_if rfl (fun hc => ?_) (fun hc => ?_)
   ·refine c_exit ?_
    exact zx3 (f_blockE' rfl (zx3 (zx3 (zz0 (zz7 (mc, qc, kc) rfl ⟨⟨⟨by dsimp only; omega, by dsimp only; omega, hpt⟩, hcO, hcn, hK⟩, hb1, hb2, hb3, hb4, hb5, hb7, hX⟩)))))
   ·have hlt : i < 30 := by omega
    have hl0 : 0 < m.length := by omega
    have hlen : m.length < 1000000 := by omega
    have hix := ix64_lt has[i] hl0
    obtain ⟨mb, mo, hqe, hqr⟩ := hK.now.1.sl.rowAll hK.now.1.c (by omega)
    rw [hqe] at hb5
    have hni := hK.now.1.ins _ (List.getElem_mem hix)
    refine zx7 (zq1 (zq5 (c_draw rfl 13 [(0, true), (1, true), (2, true), (3, true), (4, true), (5, true), (6, true), (7, true), (8, true), (9, true), (10, true), (11, true), (12, false)] [13] (No) (by kernel_rfl) fun w11 hE11 hs11 => ?_)))
    have hd5 := hb5
    have hb1 := hb1.zq2 hE11
    have hb2 := hb2.zq2 hE11
    have hb3 := hb3.zq2 hE11
    have hb4 := hb4.zq2 hE11
    have hb5 := hb5.zq2 hE11
    have hb7 := hb7.zq2 hE11
    have hK := hK.no hE11
    have hcO := hcO.ext hE11 fun _ _ => id
    have hX := hX.zq4 hE11
    have hC : Ext (No) _ w11 := hE11.no
    refine wd_k I_ok 1 rfl (wd_ld I_ok rfl rfl (fun w' hw' => (hd5.zq2 hw').cell rfl) ?_)
    refine wd_k I_ok 3 rfl (wd_ld I_ok rfl rfl (fun w' hw' => (hd5.zq2 hw').cell rfl) ?_)
    refine wd_k I_ok 2 rfl (wd_dv I_ok rfl rfl (u64_len hl0 hlen) ?_)
    rw [show dvV false IntKind.u64 (IntKind.u64.wrap has[i]) (IntKind.u64.wrap (m.length : Int)) = .int .u64 ((IntKind.u64.wrap has[i]).tmod (IntKind.u64.wrap (m.length : Int))) from rfl]
    refine wd_k I_ok 1 rfl ?_
    rw [ix64_eq _ hl0 hlen]
    refine wd_ix I_ok rfl rfl 105 rfl (ix64 has[i] m.length) rfl hix (mo + (ix64 has[i] m.length) * 105) rfl (wd_ldN I_ok rfl rfl (fun w' hw' => ((hqr _ hix).zq2 hw')) hni.c ?_)
    have hRK := hK.n
    have hcO0 := hcO
    refine wd_l rfl (zz9 I_ok rfl fun b10 w12 hn10 hb10 hE12 => ⟨hC.zq4 hE12, ?_⟩)
    have ne1_10 : b1 ≠ b10 := Nat.ne_of_lt (Nat.lt_of_lt_of_le hb1.lt hn10)
    have ne2_10 : b2 ≠ b10 := Nat.ne_of_lt (Nat.lt_of_lt_of_le hb2.lt hn10)
    have ne3_10 : b3 ≠ b10 := Nat.ne_of_lt (Nat.lt_of_lt_of_le hb3.lt hn10)
    have ne4_10 : b4 ≠ b10 := Nat.ne_of_lt (Nat.lt_of_lt_of_le hb4.lt hn10)
    have ne5_10 : b5 ≠ b10 := Nat.ne_of_lt (Nat.lt_of_lt_of_le hb5.lt hn10)
    have ne7_10 : b7 ≠ b10 := Nat.ne_of_lt (Nat.lt_of_lt_of_le hb7.lt hn10)
    have fr10 := Nat.le_trans hX.size hn10
    have hb1 := hb1.zq2 hE12
    have hb2 := hb2.zq2 hE12
    have hb3 := hb3.zq2 hE12
    have hb4 := hb4.zq2 hE12
    have hb5 := hb5.zq2 hE12
    have hb7 := hb7.zq2 hE12
    have hK := hK.no hE12
    have hcO := hcO.ext hE12 fun _ _ => id
    have hX := hX.zq4 hE12
    have fK10 : b10 < n4 ∨ N ≤ b10 := .inr (Nat.le_trans hRK hn10)
    have n10c : ∀ z, OwnB qc z → z ≠ b10 := fun z hz => Nat.ne_of_lt (Nat.lt_of_lt_of_le (hcO0.lt hz) hn10)
    refine wd_sw (wb rfl (zj1 (l' := heldC m[(ix64 has[i] m.length)]) I_ok hb10 rfl rfl hni.c (by rw [hni.c]; rfl) OneC.h fun w13 hb10 hE13 hs13 => ?_))
    have hb1 := hb1.ext1 hE13 ne1_10
    have hb2 := hb2.ext1 hE13 ne2_10
    have hb3 := hb3.ext1 hE13 ne3_10
    have hb4 := hb4.ext1 hE13 ne4_10
    have hb5 := hb5.ext1 hE13 ne5_10
    have hb7 := hb7.ext1 hE13 ne7_10
    have hK := hK.one hE13 fK10
    have hcO := hcO.ext hE13 (fun z hz => n10c z hz)
    have hX := hX.zx1 hE13 fr10
    refine zv0 (zq1 (zq0 (wl (zj2 I_ok hb7 rfl rfl (wl_p I_ok rfl (wl (st_ldN I_ok rfl (held_obj hb10.seg hni.id) (zq7 hni.o) ?_)))))))
    refine wl (st_bs I_ok rfl 73 rfl objZ_c.symm (by rw [zq7 objZ_in]) (by decide) (by decide) ⟨⟨by rw [zj9]; exact zq7 hni.o, by decide⟩, trivial⟩ (l' := objC m[(ix64 has[i] m.length)].o m[(ix64 has[i] m.length)].a) (one_obj hni.o) fun b48 w14 hn48 hb48 hE14 hs14 => ?_)
    have hb1 := hb1.zq2 hE14
    have hb2 := hb2.zq2 hE14
    have hb3 := hb3.zq2 hE14
    have hb4 := hb4.zq2 hE14
    have hb5 := hb5.zq2 hE14
    have hb7 := hb7.zq2 hE14
    have hK := hK.no hE14
    have hcO := hcO.ext hE14 fun _ _ => id
    have hX := hX.zq4 hE14
    have hmcl : (mc.flatMap fun e => zj3 e.o).length ≤ 1200 := by
     have h1 := flat_few (f := fun e : zz4 => zj3 e.o) (L := mc) (n := 40) (fun y hy => by obtain ⟨x, hx, rfl⟩ := hpt y hy; exact hlks x hx)
     have := Nat.mul_le_mul_right 40 (show mc.length ≤ 30 from by omega)
     omega
    have hxl := hlks _ (List.getElem_mem hix)
    have hRN := hK.n
    refine wl (zx2 Tryz.call47 rfl rfl rfl rfl rfl rfl (put8_calls w14 (l := mc) (xs := [(m[(ix64 has[i] m.length)].o, m[(ix64 has[i] m.length)].a)]) (hpt.hp hK.now.1 hcO.sl (by omega) hlks) (one_in (x := (m[(ix64 has[i] m.length)].o, m[(ix64 has[i] m.length)].a)) hb48 hni.o hni.sh (hK.now.1.ins _ (List.getElem_mem hix)).l (hbm _ (List.getElem_mem hix))) (by show mc.length + 1 < 1000000; omega) (by rw [List.flatMap_singleton]; dsimp only; omega)) fun v15 w15 hr15 => ?_)
    obtain ⟨q2, k2, rfl, hcO2, hcn2, _, hE15⟩ := hr15
    have hb1 := hb1.zq2 hE15
    have hb2 := hb2.zq2 hE15
    have hb3 := hb3.zq2 hE15
    have hb4 := hb4.zq2 hE15
    have hb5 := hb5.zq2 hE15
    have hb7 := hb7.zq2 hE15
    have hK := hK.no hE15
    have hX := hX.zq4 hE15
    have hcn2 := fun y hy => Nat.le_trans hRN (hcn2 y hy)
    have hpl := putW_len [(m[(ix64 has[i] m.length)].o, m[(ix64 has[i] m.length)].a)] mc
    have hb7o := hb7
    refine wl (zj1 (l' := [.slice q2 (putW mc [(m[(ix64 has[i] m.length)].o, m[(ix64 has[i] m.length)].a)]).length k2]) I_ok hb7 rfl rfl rfl rfl OneC.h fun w16 hb7 hE16 hs16 => ?_)
    have hb1 := hb1.ext1 hE16 ne1_7
    have hb2 := hb2.ext1 hE16 ne2_7
    have hb3 := hb3.ext1 hE16 ne3_7
    have hb4 := hb4.ext1 hE16 ne4_7
    have hb5 := hb5.ext1 hE16 ne5_7
    have hK := hK.one hE16 fK7
    have hcO2 := hcO2.zx9 hE16 hb7o (by decide)
    have hX := hX.zx1 hE16 fr7
    refine zq3 (zx6 (zq1 (zq0 (wl_p I_ok rfl ?_))))
    rw [IntWalk.i64_in _ (by omega)]
    refine zq3 ?_
    rw [← hqe] at hb5
    refine fin_put 18 rfl (v' := .slice ph has.length ch) (by rw [hpe]) ?_
    exact zv1 (i + 1, putW mc [(m[(ix64 has[i] m.length)].o, m[(ix64 has[i] m.length)].a)], q2, k2) rfl ⟨⟨⟨hi2, Nat.le_trans hpl (Nat.succ_le_succ hcl), hlt, hpt.put (List.getElem_mem hix)⟩, hcO2, hcn2, hK⟩, hb1, hb2, hb3, hb4, hb5, hb7, hX⟩ (by first | omega | (dsimp only; omega))
  ·have hend : has.length ≤ i := by omega
   refine c_exit ?_
   exact zx3 (zx3 (zz0 (zz7 (mc, qc, kc) rfl ⟨⟨⟨by dsimp only; omega, by dsimp only; omega, hpt⟩, hcO, hcn, hK⟩, hb1, hb2, hb3, hb4, hb5, hb7, hX⟩)))
 rintro ⟨mc, qc, kc⟩ w17 ⟨⟨⟨hc30, hch, hpt⟩, hcO, hcn, hK⟩, hb1, hb2, hb3, hb4, hb5, hb7, hX⟩
 try dsimp only
 dsimp only at hc30 hch hpt hcO hcn hb7
 refine zq5 (c_cutK (α := Bool) [1, 2, 3, 4, 5, 6, 7] rfl (fun z => [(60, .bool z)]) (fun z u => u = w17 ∧ z = decide (head < 0 ∨ (ids.length : Int) ≤ head)) ?_ ?_)
 ·refine zq0 ?_
  refine wl_p I_ok rfl (wl (st_ldb I_ok hb1 rfl rfl (wl_p I_ok rfl (zj4 54 rfl (fun hg => ?_) (fun hg => ?_)))))
  ·have hg1 : head < 0 := hg
   refine zz5 I_ok 6 rfl (zq3 ?_)
   exact zz7 (true) rfl ⟨rfl, (decide_eq_true (.inl hg1)).symm⟩
  ·have hg1 : ¬ head < 0 := hg
   refine zz5 I_ok 1 rfl (wl (st_ldb I_ok hb1 rfl rfl (zz5 I_ok 4 rfl (zq3 ?_))))
   exact zz7 (_) rfl ⟨rfl, by rw [decide_eq_decide]; exact ⟨.inr, fun k => k.elim (fun k => absurd k hg1) id⟩⟩
 rintro z w18 ⟨hu, rfl⟩
 have hu := hu.symm
 subst hu
 refine c_if rfl (fun hc => ?_) (fun hc => ?_)
 ·have hX0 : headX ids head = id9U := if_pos hc
  refine zq5 (c_draw rfl 5 [(0, true), (1, true), (2, true), (3, false), (4, false)] [5] (fun y => y = b2 ∨ y = b3) (by kernel_rfl) fun w19 hE19 hs19 => ?_)
  have hd5 := hb5
  have hd7 := hb7
  have hb2 := hb2.zq2 hE19
  have hb3 := hb3.zq2 hE19
  have hb4 := hb4.zq2 hE19
  have hK := hK.no hE19
  have hcO := hcO.ext hE19 fun _ _ => id
  have hX := hX.zq4 hE19
  have hC : Ext (fun y => y = b2 ∨ y = b3) _ w19 := hE19.no
  refine wd_ldN I_ok rfl rfl (fun w' hw' => ((hd7.ext hw' (fun e => e.elim (fun e => ne2_7 e.symm) fun e => ne3_7 e.symm)).seg)) rfl ?_
  refine wd_ldN I_ok rfl rfl (fun w' hw' => ((hd5.ext hw' (fun e => e.elim (fun e => ne2_5 e.symm) fun e => ne3_5 e.symm)).seg)) rfl ?_
  refine wd_bd I_ok rfl rfl ⟨⟨rfl, by decide⟩, trivial⟩ (l' := zq6 id9U) (by rw [← idZ_c]; exact id9_buildU) ?_
  have hb2o := hb2
  refine wd_l rfl (zj1 (l' := [.slice qc mc.length kc]) I_ok hb2 rfl rfl rfl rfl OneC.h fun w20 hb2 hE20 hs20 => ⟨hC.then (hE20.mono fun _ _ e => .inl e), ?_⟩)
  have hC := hC.then (hE20.mono fun _ _ e => .inl e)
  have hb3 := hb3.ext1 hE20 ne2_3.symm
  have hb4 := hb4.ext1 hE20 ne2_4.symm
  have hK := hK.one hE20 fK2
  have hcO := hcO.zx9 hE20 hb2o (by decide)
  have hX := hX.zx1 hE20 fr2
  have hb3o := hb3
  refine wd_l rfl (zj1 (l' := [.slice q m.length k]) I_ok hb3 rfl rfl rfl rfl OneC.h fun w21 hb3 hE21 hs21 => ⟨hC.then (hE21.mono fun _ _ e => .inr e), ?_⟩)
  have hb2 := hb2.ext1 hE21 ne2_3
  have hb4 := hb4.ext1 hE21 ne3_4.symm
  have hK := hK.one hE21 fK3
  have hcO := hcO.zx9 hE21 hb3o (by decide)
  have hX := hX.zx1 hE21 fr3
  refine wd_sw ?_
  have hb4o := hb4
  refine wb rfl (zj1 (l' := zq6 id9U) I_ok hb4 rfl rfl rfl rfl OneC.h fun w22 hb4 hE22 hs22 => ?_)
  have hb2 := hb2.ext1 hE22 ne2_4
  have hb3 := hb3.ext1 hE22 ne3_4
  have hK := hK.one hE22 fK4
  have hcO := hcO.zx9 hE22 hb4o (by decide)
  have hX := hX.zx1 hE22 fr4
  refine zv0 (zq1 (zj0 (zx5 (f_ret [_, _, _] ⟨⟨b2, 0, rfl, ld_all I_ok rfl rfl hb2.seg rfl⟩, ⟨b3, 0, rfl, ld_all I_ok rfl rfl hb3.seg rfl⟩, ⟨b4, 0, rfl, ld_all I_ok rfl rfl hb4.seg rfl⟩, trivial⟩ ?_))))
  refine ⟨qc, kc, mc, q, k, m, ids, by rw [hX0]; rfl, hMD, hK.now.1, hpt.hp hK.now.1 hcO.sl (by omega) hlks, hcO, headX_in hiin _, hc30, hch, hml, fun y hy => by obtain ⟨x, hx, rfl⟩ := hpt y hy; exact hlks x hx, hlks, hX⟩
 ·obtain ⟨j, rfl⟩ : ∃ j : Nat, head = (j : Int) := ⟨head.toNat, by omega⟩
  have hj : j < ids.length := by omega
  have hX0 : headX ids (j : Int) = ids[j] := by
   rw [headX, if_neg hc, List.getD_eq_getElem?_getD, List.getElem?_eq_getElem (show ((j : Int)).toNat < ids.length from hj)]; rfl
  have hji := hiin _ (List.getElem_mem hj)
  obtain ⟨ib, io, hqi, hir⟩ := hK.now.2.rowAll (fun r hr => IdIn.len (hiin r hr)) (by omega)
  refine wc_put 6 rfl (v' := .slice (some ⟨ib, io, none⟩) ids.length ki) (by rw [hqi]) (zx7 (zq1 (zq5 ?_)))
  refine c_draw rfl 9 [(0, true), (1, true), (2, true), (3, true), (4, true), (5, true), (6, true), (7, false), (8, false)] [9] (fun y => y = b2 ∨ y = b3) (by kernel_rfl) fun w23 hE23 hs23 => ?_
  have hd1 := hb1
  have hd5 := hb5
  have hd7 := hb7
  have hKd := hK
  have hb2 := hb2.zq2 hE23
  have hb3 := hb3.zq2 hE23
  have hb4 := hb4.zq2 hE23
  have hK := hK.no hE23
  have hcO := hcO.ext hE23 fun _ _ => id
  have hX := hX.zq4 hE23
  have hC : Ext (fun y => y = b2 ∨ y = b3) _ w23 := hE23.no
  refine wd_ldN I_ok rfl rfl (fun w' hw' => ((hd7.ext hw' (fun e => e.elim (fun e => ne2_7 e.symm) fun e => ne3_7 e.symm)).seg)) rfl ?_
  refine wd_ldN I_ok rfl rfl (fun w' hw' => ((hd5.ext hw' (fun e => e.elim (fun e => ne2_5 e.symm) fun e => ne3_5 e.symm)).seg)) rfl ?_
  refine wd_k I_ok 2 rfl (wd_ld I_ok rfl rfl (fun w' hw' => ((hd1.ext hw' (fun e => e.elim ne1_2 ne1_3)).cell rfl)) ?_)
  refine wd_ix I_ok rfl rfl 32 rfl j rfl hj (io + j * 32) rfl ?_
  refine wd_ldN I_ok rfl rfl (fun w' hw' => (id_at (hKd.ow (show Ext (fun y => y = b2 ∨ y = b3) _ w' from hw') (fun x _ e => e.elim (fun e => by rw [e]; exact fK2) fun e => by rw [e]; exact fK3)).now.2 hqi hiin hj)) hji.len ?_
  have hb2o := hb2
  refine wd_l rfl (zj1 (l' := [.slice qc mc.length kc]) I_ok hb2 rfl rfl rfl rfl OneC.h fun w24 hb2 hE24 hs24 => ⟨hC.then (hE24.mono fun _ _ e => .inl e), ?_⟩)
  have hC := hC.then (hE24.mono fun _ _ e => .inl e)
  have hb3 := hb3.ext1 hE24 ne2_3.symm
  have hb4 := hb4.ext1 hE24 ne2_4.symm
  have hK := hK.one hE24 fK2
  have hcO := hcO.zx9 hE24 hb2o (by decide)
  have hX := hX.zx1 hE24 fr2
  have hb3o := hb3
  refine wd_l rfl (zj1 (l' := [.slice q m.length k]) I_ok hb3 rfl rfl rfl rfl OneC.h fun w25 hb3 hE25 hs25 => ⟨hC.then (hE25.mono fun _ _ e => .inr e), ?_⟩)
  have hb2 := hb2.ext1 hE25 ne2_3
  have hb4 := hb4.ext1 hE25 ne3_4.symm
  have hK := hK.one hE25 fK3
  have hcO := hcO.zx9 hE25 hb3o (by decide)
  have hX := hX.zx1 hE25 fr3
  refine wd_sw ?_
  have hb4o := hb4
  refine wb rfl (zj1 (l' := zq6 ids[j]) I_ok hb4 rfl rfl hji.len (by rw [zx0, hji]; rfl) OneC.h fun w26 hb4 hE26 hs26 => ?_)
  have hb2 := hb2.ext1 hE26 ne2_4
  have hb3 := hb3.ext1 hE26 ne3_4
  have hK := hK.one hE26 fK4
  have hcO := hcO.zx9 hE26 hb4o (by decide)
  have hX := hX.zx1 hE26 fr4
  refine zv0 (zq1 (zj0 (f_ret [_, _, _] ⟨⟨b2, 0, rfl, ld_all I_ok rfl rfl hb2.seg rfl⟩, ⟨b3, 0, rfl, ld_all I_ok rfl rfl hb3.seg rfl⟩, ⟨b4, 0, rfl, ld_all I_ok rfl rfl hb4.seg hji.len⟩, trivial⟩ ?_)))
  refine ⟨qc, kc, mc, q, k, m, ids, by rw [hX0]; rfl, hMD, hK.now.1, hpt.hp hK.now.1 hcO.sl (by omega) hlks, hcO, headX_in hiin _, hc30, hch, hml, fun y hy => by obtain ⟨x, hx, rfl⟩ := hpt y hy; exact hlks x hx, hlks, hX⟩
def Hp.waveN (h : Hp) : Nat → List IdB → List IdB
  | 0, L => L
  | n + 1, L => Hp.waveN h n (h.waveGo L L)
theorem Hp.waveN_part (h : Hp) {x : IdB} : ∀ (n : Nat) {L : List IdB}, h.Part x L → h.Part x (Hp.waveN h n L)
 | 0, _, hp => hp
 | n + 1, _, hp => Hp.waveN_part h n hp.wave
theorem Hp.led_of {h : Hp} {x : IdB} {L : List IdB} (n : Nat) (hL : Hp.waveN h n [x] = L) (hw : (h.waveGo L L).length = L.length) : h.led x = L := by
 have hp : h.Part x L := by
  rw [← hL]
  exact Hp.waveN_part h n ⟨List.pairwise_singleton _ _, List.mem_singleton.2 rfl, fun y hy => by rw [List.mem_singleton.1 hy]; exact .here⟩
 exact (hp.done hw).symm
def wkR : List RowD := [⟨[97], [49]⟩]
def wkS : List StepD := [⟨wkR, [], []⟩]
@[irreducible] def wkH : Hp := (madeD wkS).1
@[irreducible] def wkI : List IdB := (madeD wkS).2
@[irreducible] def wkX : IdB := wkI.getD 0 []
@[irreducible] def wkLd (c : Hp) : List IdB := Hp.waveN c 3 [wkX]
@[irreducible] def wkAs (c : Hp) : List IdB := ((wkLd c).filter fun y => decide (c.err y ≠ 0)).take 8
@[irreducible] def wkAn (c : Hp) : List ObjD := ansGo wkH szO (wkAs c) [] 2000
@[irreducible] def wkSt (c : Hp) : Hp := putD c (wkAn c)
@[irreducible] def wkC (n : Nat) : Hp := Nat.repeat wkSt n []
def wkN (n : Nat) : Nat := if n < 3 then 1 else 0
def wkOk1 (c : Hp) (n : Nat) : Bool := decide ((c.waveGo (wkLd c) (wkLd c)).length = (wkLd c).length) && (wkAn c).all (fun o => decide (ObjOk o ∧ idOf o ∈ wkAs c ∧ (zj3 o).length ≤ 40)) && decide (List.length (wkSt c) = List.length c + n)
def wkOk : Bool := decide (wkI.length = 1) && wkOk1 (wkC 0) 1 && wkOk1 (wkC 1) 1 && wkOk1 (wkC 2) 1 && wkOk1 (wkC 3) 0 && decide ((wkC 3).kErr wkX 3 = 0) && (wkLd (wkC 3)).all (fun y => decide ((wkC 3).Good y)) && decide (wkSt (wkC 3) = wkC 3)
theorem wkH_eq : (madeD wkS).1 = wkH := by unfold wkH; rfl
theorem wkI_eq : (madeD wkS).2 = wkI := by unfold wkI; rfl
theorem wk_ok : wkOk = true := by decide +kernel
theorem wkC_succ (n : Nat) : wkC (n + 1) = wkSt (wkC n) := by unfold wkC; rfl
theorem wkC_zero : wkC 0 = [] := by unfold wkC; rfl
theorem wk_led {c : Hp} {n : Nat} (h : wkOk1 c n = true) : c.led wkX = wkLd c := by
 unfold wkOk1 at h
 simp only [Bool.and_eq_true, decide_eq_true_eq] at h
 exact Hp.led_of 3 (by unfold wkLd; rfl) h.1.1
theorem wk_ask {c : Hp} {n : Nat} (h : wkOk1 c n = true) : askD c wkX 8 = wkAs c := by
 unfold askD Hp.lacks wkAs
 rw [wk_led h]
theorem wk_ans {c : Hp} {n : Nat} (h : wkOk1 c n = true) : ansD c wkH szO wkX = wkAn c := by
 unfold ansD wkAn
 rw [wk_ask h]
theorem wk_go {c : Hp} {n : Nat} (h : wkOk1 c n = true) : roundD c wkH szO wkX = wkSt c ∧ (∀ o ∈ ansD c wkH szO wkX, ObjOk o ∧ idOf o ∈ askD c wkX 8) ∧ (∀ o ∈ ansD c wkH szO wkX, (zj3 o).length ≤ 40) ∧ List.length (wkSt c) = List.length c + n := by
 have h0 := h
 unfold wkOk1 at h0
 simp only [Bool.and_eq_true, decide_eq_true_eq, List.all_eq_true] at h0
 obtain ⟨⟨_, h2⟩, h3⟩ := h0
 rw [wk_ask h]
 refine ⟨?_, fun o ho => ?_, fun o ho => ?_, h3⟩
 ·unfold roundD wkSt
  rw [wk_ans h]
 ·rw [wk_ans h] at ho; exact ⟨(h2 o ho).1, (h2 o ho).2.1⟩
 ·rw [wk_ans h] at ho; exact (h2 o ho).2.2
theorem wk_all : wkI.length = 1 ∧ (∀ n, n < 4 → wkOk1 (wkC n) (wkN n) = true) ∧ (wkC 3).kErr wkX 3 = 0 ∧ (∀ y ∈ wkLd (wkC 3), (wkC 3).Good y) ∧ wkC 4 = wkC 3 := by
 have h := wk_ok
 unfold wkOk at h
 simp only [Bool.and_eq_true, decide_eq_true_eq, List.all_eq_true] at h
 obtain ⟨⟨⟨⟨⟨⟨⟨h1, h2⟩, h3⟩, h4⟩, h5⟩, h6⟩, h7⟩, h8⟩ := h
 refine ⟨h1, fun n hn => ?_, h6, h7, by rw [wkC_succ]; exact h8⟩
 rcases n with _ | _ | _ | _ | n
 ·exact h2
 ·exact h3
 ·exact h4
 ·exact h5
 ·omega
theorem wk_len : ∀ n, n < 4 → List.length (wkC (n + 1)) = List.length (wkC n) + wkN n := fun n hn => by rw [wkC_succ]; exact (wk_go (wk_all.2.1 n hn)).2.2.2
theorem wk_few : ∀ n, n ≤ 4 → List.length (wkC n) ≤ n := fun n hn => by
 induction n with
 | zero => rw [wkC_zero]; exact Nat.le_refl _
 | succ n ih =>
  have h1 := wk_len n (by omega)
  have h2 := ih (by omega)
  have h3 : wkN n ≤ 1 := by unfold wkN; split <;> omega
  omega
theorem wk_cl : (wkC 4).closed wkX = 0 := by
 rw [wk_all.2.2.2.2, Hp.closed, if_neg fun k => k wk_all.2.2.1, wk_led (wk_all.2.1 3 (by decide)), if_pos wk_all.2.2.2.1]
theorem wkX_head {ids : List IdB} (h : ids = wkI) : headX ids 0 = wkX := by
 subst h
 have h1 := wk_all.1
 unfold wkX headX
 rw [if_neg (by omega)]; rfl
theorem putD_all {P : ObjD → Prop} : ∀ (A : List ObjD) {h : Hp}, (∀ e ∈ h, P e.2) → (∀ o ∈ A, P o) → ∀ e ∈ putD h A, P e.2
 | [], _, k, _ => k
 | o :: A, h, k, hA => putD_all A (h := putO h o) (fun e he => by
   unfold putO at he
   split at he
   ·exact k e he
   ·rcases List.mem_append.1 he with he | he
    ·exact k e he
    ·rw [List.mem_singleton.1 he]; exact hA o List.mem_cons_self) fun y hy => hA y (List.mem_cons_of_mem _ hy)
theorem wk_lk : ∀ n, n ≤ 4 → ∀ e ∈ wkC n, (zj3 e.2).length ≤ 40 := fun n hn => by
 induction n with
 | zero => rw [wkC_zero]; exact fun _ h => by cases h
 | succ n ih =>
  have h1 := wk_go (wk_all.2.1 n (by omega))
  rw [wkC_succ, ← h1.1]
  exact putD_all (P := fun o => (zj3 o).length ≤ 40) _ (ih (by omega)) h1.2.2.1
theorem wkR_in : ∀ w : World, ∀ b : Nat, Blk w b 99 (wkR.flatMap RowD.cells) → Sl w (some ⟨b, 0, none⟩) wkR.length 2 (wkR.flatMap RowD.cells) := fun _ b h => ⟨rfl, .inr ⟨b, 0, rfl, h.seg⟩⟩
def wkT (b : Nat) : List StepT := [⟨some ⟨b, 0, none⟩, 1, wkR, none, 0, [], []⟩]
theorem wk_idx {i : Nat} (hi : i < 4) : ([Value.int .i64 1, .int .i64 1, .int .i64 1, .int .i64 0] : List Value)[i]? = some (.int .i64 ((wkN i : Nat) : Int)) := by
 rcases i with _ | _ | _ | _ | i
 ·rfl
 ·rfl
 ·rfl
 ·rfl
 ·omega
theorem own_hp {w0 u : World} {q : Option Addr} {k : Nat} {m : List zz4} {i : Nat} (ho : Own u q m.length k 48 105 (m.flatMap heldC)) (hn : ∀ x ∈ m, HeldNew w0 u x) (he : toHp m = wkC i) (hi : i ≤ 4) : m.length = List.length (wkC i) ∧ HpIn u q m ∧ (m.flatMap fun e => zj3 e.o).length ≤ 200 := by
 have h1 : m.length = List.length (wkC i) := by rw [← he]; exact (List.length_map ..).symm
 have h2 := wk_few i hi
 have h3 := flat_few (f := fun e : zz4 => zj3 e.o) (L := m) (n := 40) fun x hx => wk_lk i hi (x.id, x.o) (by rw [← he]; exact List.mem_map_of_mem (f := fun x : zz4 => (x.id, x.o)) hx)
 have h4 := Nat.mul_le_mul_right 40 (show m.length ≤ 4 by omega)
 exact ⟨h1, ⟨ho.sl, fun x hx => (hn x hx).held, by omega, by omega⟩, by omega⟩
theorem wakes_calls (w : World) (hr : Seg w 0 0 (wordsV rootsW)) : zz1 Tryz.prog 10 [] w fun v w' => v = .bool true ∧ Ext No w w' := by
 refine zq9 Tryz.func10 rfl rfl rfl rfl ?_
 have hX := Ext.refl No w
 refine zq5 (zq0 (wl_p I_ok rfl (zq3 (zq1 (zq5 (zq0 (wl (st_bd I_ok rfl ⟨⟨rfl, by decide⟩, ⟨rfl, by decide⟩, trivial⟩ (l' := RowD.cells ⟨[97], [49]⟩) (by rw [rowZ_c]; rfl) ?_))))))))
 refine wl (st_bs I_ok rfl 2 rfl rowZ_c rfl (by decide) (by decide) ⟨⟨rfl, by decide⟩, trivial⟩ (l' := wkR.flatMap RowD.cells) rfl fun b11 w1 hn11 hb11 hE1 hs1 => ?_)
 have hX := hX.zq4 hE1
 refine wl (st_bd I_ok rfl ⟨⟨rfl, by decide⟩, trivial⟩ (l' := [.slice (some ⟨b11, 0, none⟩) wkR.length 1]) rfl (wl (st_bd I_ok rfl ⟨⟨rfl, by decide⟩, trivial⟩ (l' := stepC ⟨some ⟨b11, 0, none⟩, 1, wkR, none, 0, [], []⟩) rfl ?_)))
 refine wl (st_bs I_ok rfl 3 rfl rfl rfl (by decide) (by decide) ⟨⟨rfl, by decide⟩, trivial⟩ (l' := (wkT b11).flatMap stepC) rfl fun b14 w2 hn14 hb14 hE2 hs2 => ?_)
 have hb11 := hb11.zq2 hE2
 have hX := hX.zq4 hE2
 refine wl (st_bd I_ok rfl ⟨⟨rfl, by decide⟩, trivial⟩ (l' := [.slice (some ⟨b14, 0, none⟩) (wkT b11).length 1, .slice none 0 0, .int .i64 0]) rfl ?_)
 refine wl (zx2 Tryz.call11 rfl rfl rfl rfl rfl rfl (heaps_calls w2 (steps := wkT b11) (has := []) ⟨rfl, .inr ⟨b14, 0, rfl, hb14.seg⟩⟩ (fun s hs => by rw [List.mem_singleton.1 hs]; exact ⟨wkR_in _ _ hb11, (by show 1 < 9223372036854775808; decide), Sl.nil _ _ _, (by show 0 < 9223372036854775808; decide)⟩) (show 1 < 9223372036854775808 by decide) (Sl.nil _ _ _) (show 0 < 9223372036854775808 by decide) 0) fun v3 w3 hr3 => ?_)
 obtain ⟨qc, kc, mc, q, k, m, ids, rfl, hMD, hMp, _, hmo, hxi, _, hch, _, _, _, hE3⟩ := hr3
 have hX := hX.zq4 hE3
 rw [show List.map StepT.d (wkT b11) = wkS from rfl] at hMD
 have hM : toHp m = wkH := (congrArg Prod.fst hMD).trans wkH_eq
 have hI : ids = wkI := (congrArg Prod.snd hMD).trans wkI_eq
 rw [wkX_head hI] at hxi ⊢
 have hmc : mc = [] := List.eq_nil_of_length_eq_zero (Nat.le_zero.1 hch)
 have hme : toHp mc = wkC 0 := by rw [hmc, wkC_zero]; rfl
 have hmn0 : ∀ u, ∀ x ∈ mc, HeldNew w u x := fun u x hx => by rw [hmc] at hx; cases hx
 have hK : KS w3.heap.size w3 (fun u => HpIn u q m) := KS.mk0 fun u hE => hMp.zq2 hE
 obtain ⟨N, hN⟩ : ∃ N, N = w3.heap.size := ⟨_, rfl⟩
 rw [← hN] at hK
 refine wl_p I_ok rfl ?_
 have hRhK := hK.n
 refine wl (zz9 I_ok rfl fun b1 w4 hn1 hb1 hE4 => ?_)
 have fr1 := Nat.le_trans hX.size hn1
 have hK := hK.no hE4
 have hmo := hmo.ext hE4 fun _ _ => id
 have hX := hX.zq4 hE4
 have fhK1 := Nat.le_trans hRhK hn1
 have hRhK := hK.n
 refine wl (zz9 I_ok rfl fun b2 w5 hn2 hb2 hE5 => ?_)
 have ne1_2 : b1 ≠ b2 := Nat.ne_of_lt (Nat.lt_of_lt_of_le hb1.lt hn2)
 have fr2 := Nat.le_trans hX.size hn2
 have hb1 := hb1.zq2 hE5
 have hK := hK.no hE5
 have hmo := hmo.ext hE5 fun _ _ => id
 have hX := hX.zq4 hE5
 have fhK2 := Nat.le_trans hRhK hn2
 have hRhK := hK.n
 refine wl (zz9 I_ok rfl fun b3 w6 hn3 hb3 hE6 => ?_)
 have ne1_3 : b1 ≠ b3 := Nat.ne_of_lt (Nat.lt_of_lt_of_le hb1.lt hn3)
 have ne2_3 : b2 ≠ b3 := Nat.ne_of_lt (Nat.lt_of_lt_of_le hb2.lt hn3)
 have fr3 := Nat.le_trans hX.size hn3
 have hb1 := hb1.zq2 hE6
 have hb2 := hb2.zq2 hE6
 have hK := hK.no hE6
 have hmo := hmo.ext hE6 fun _ _ => id
 have hX := hX.zq4 hE6
 have fhK3 := Nat.le_trans hRhK hn3
 have hb1o := hb1
 refine wl (zj1 (l' := [.slice qc mc.length kc]) I_ok hb1 rfl rfl rfl rfl OneC.h fun w7 hb1 hE7 hs7 => ?_)
 have hb2 := hb2.ext1 hE7 ne1_2.symm
 have hb3 := hb3.ext1 hE7 ne1_3.symm
 have hK := hK.one hE7 fhK1
 have hmo := hmo.zx9 hE7 hb1o (by decide)
 have hX := hX.zx1 hE7 fr1
 have hb2o := hb2
 refine wl (zj1 (l' := [.slice q m.length k]) I_ok hb2 rfl rfl rfl rfl OneC.h fun w8 hb2 hE8 hs8 => ?_)
 have hb1 := hb1.ext1 hE8 ne1_2
 have hb3 := hb3.ext1 hE8 ne2_3.symm
 have hK := hK.one hE8 fhK2
 have hmo := hmo.zx9 hE8 hb2o (by decide)
 have hX := hX.zx1 hE8 fr2
 have hb3o := hb3
 refine wl (zj1 (l' := zq6 wkX) I_ok hb3 rfl rfl hxi.len (by rw [zx0, hxi]; rfl) OneC.h fun w9 hb3 hE9 hs9 => ?_)
 have hb1 := hb1.ext1 hE9 ne1_3
 have hb2 := hb2.ext1 hE9 ne2_3
 have hK := hK.one hE9 fhK3
 have hmo := hmo.zx9 hE9 hb3o (by decide)
 have hX := hX.zx1 hE9 fr3
 refine zq3 (zq1 (zq5 (zq5 (zq0 (wl (st_bd I_ok rfl ⟨⟨rfl, by decide⟩, ⟨rfl, by decide⟩, ⟨rfl, by decide⟩, ⟨rfl, by decide⟩, trivial⟩ (l' := [.int .i64 1, .int .i64 1, .int .i64 1, .int .i64 0]) rfl (wl_p I_ok rfl (zq3 ?_))))))))
 refine zq1 (zx4 ?_)
 refine zv3 (α := Nat × List zz4 × Option Addr × Nat) [1, 2, 3, 20] rfl (fun z => [(21, .int .i64 (z.1 : Int))]) (fun z u => ((z.1 ≤ 4 ∧ toHp z.2.1 = wkC z.1) ∧ Own u z.2.2.1 z.2.1.length z.2.2.2 48 105 (z.2.1.flatMap heldC) ∧ (∀ x ∈ z.2.1, HeldNew w u x) ∧ KS N u (fun u => HpIn u q m)) ∧ Blk u b1 29 ([.slice z.2.2.1 z.2.1.length z.2.2.2]) ∧ Blk u b2 29 ([.slice q m.length k]) ∧ Blk u b3 31 (zq6 wkX) ∧ Ext No w u) (fun z u => 4 - z.1) (0, mc, qc, kc) rfl ⟨⟨⟨Nat.zero_le _, hme⟩, hmo, hmn0 _, hK⟩, hb1, hb2, hb3, hX⟩ ?_
 rintro ⟨i, mc, qc, kc⟩ w10 ⟨⟨⟨hi, hme⟩, hmo, hmn, hK⟩, hb1, hb2, hb3, hX⟩
 try dsimp only
 dsimp only at hi hme hmo hmn hb1
 refine zq5 (zq0 (wl_p I_ok rfl (zq3 (zq1 (zq5 (c_if rfl (fun hc => ?_) (fun hc => ?_)))))))
 ·have hi2 : i < 4 := by omega
  have hgo := wk_go (wk_all.2.1 i hi2)
  have hln := wk_len i hi2
  have hfw := wk_few i (by omega)
  have hwn : wkN i ≤ 1 := by unfold wkN; split <;> omega
  obtain ⟨hmcl, hcp, hclk⟩ := own_hp hmo hmn hme (by omega)
  refine zx7 (zq1 (zq5 (zx4 (zq5 (zq0 (wl (st_id I_ok rfl i rfl hi2 (.inl ⟨rfl, wk_idx hi2⟩) (wl_p I_ok rfl (zq3 (zq1 (zq5 (zq0 (wl (zj2 I_ok hb1 rfl rfl (wl (zj2 I_ok hb2 rfl rfl ?_))))))))))))))))
  refine wl (zj2 I_ok hb3 rfl hxi.len ?_)
  have hXp := hX.size
  refine wl (zx2 Tryz.call24 rfl rfl rfl rfl rfl rfl (round_calls w10 hcp hK.now hxi (by rw [hme, hM]; exact hgo.2.1) (by omega) (by omega) (by rw [hme, hM]; exact hgo.2.2.1) (hr.zq2 hX)) fun v11 w11 hr11 => ?_)
  obtain ⟨q5, k5, m5, rfl, hm1, hm2, hmn5, hmo5, hmq5, hE11⟩ := hr11
  have hb1 := hb1.zq2 hE11
  have hb2 := hb2.zq2 hE11
  have hb3 := hb3.zq2 hE11
  have hK := hK.no hE11
  have hmn := fun x hx => (hmn x hx).zq2 hE11
  have hX := hX.zq4 hE11
  rw [hme, hM, hgo.1, ← wkC_succ] at hm1
  have hmn5 := fun x hx => (hmn5 x hx).older hXp
  have hm5l : m5.length = List.length (wkC (i + 1)) := by rw [← hm1]; exact (List.length_map ..).symm
  refine wl_p I_ok rfl ?_
  have hRhK := hK.n
  refine wl (zz9 I_ok rfl fun b6 w12 hn6 hb6 hE12 => ?_)
  have ne1_6 : b1 ≠ b6 := Nat.ne_of_lt (Nat.lt_of_lt_of_le hb1.lt hn6)
  have ne2_6 : b2 ≠ b6 := Nat.ne_of_lt (Nat.lt_of_lt_of_le hb2.lt hn6)
  have ne3_6 : b3 ≠ b6 := Nat.ne_of_lt (Nat.lt_of_lt_of_le hb3.lt hn6)
  have fr6 := Nat.le_trans hX.size hn6
  have hb1 := hb1.zq2 hE12
  have hb2 := hb2.zq2 hE12
  have hb3 := hb3.zq2 hE12
  have hK := hK.no hE12
  have hmo5 := hmo5.ext hE12 fun _ _ => id
  have hmn5 := fun x hx => (hmn5 x hx).zq2 hE12
  have hX := hX.zq4 hE12
  have fhK6 := Nat.le_trans hRhK hn6
  have hb6o := hb6
  refine wl (zj1 (l' := [.slice q5 m5.length k5]) I_ok hb6 rfl rfl rfl rfl OneC.h fun w13 hb6 hE13 hs13 => ?_)
  have hb1 := hb1.ext1 hE13 ne1_6
  have hb2 := hb2.ext1 hE13 ne2_6
  have hb3 := hb3.ext1 hE13 ne3_6
  have hK := hK.one hE13 fhK6
  have hmo5 := hmo5.zx9 hE13 hb6o (by decide)
  have hmn5 := fun x hx => (hmn5 x hx).ext1 hE13 hb6o (by decide) (by decide) (by decide)
  have hX := hX.zx1 hE13 fr6
  refine wl_p I_ok rfl (zq3 (zq1 (zq5 (c_cutK (α := Bool) [1, 2, 3, 6, 20, 21] rfl (fun z => [(49, .bool z)]) (fun z u => u = w13 ∧ z = false) ?_ ?_))))
  ·refine zq0 ?_
   refine wl_p I_ok rfl (zj4 34 rfl (fun hg => ?_) (fun hg => ?_))
   ·exact absurd rfl hg
   ·refine zz5 I_ok 5 rfl ?_
    refine zj4 39 rfl (fun hg => ?_) (fun hg => ?_)
    ·exact absurd (by omega) hg
    ·refine zz5 I_ok 1 rfl ?_
     refine wl (st_ldb I_ok hb6 rfl rfl (zz5 I_ok 2 rfl (wl (st_ldb I_ok hb1 rfl rfl (zz5 I_ok 5 rfl ?_)))))
     rw [IntWalk.i64_in _ (by omega)]
     refine zq3 ?_
     exact zz7 (_) rfl ⟨rfl, decide_eq_false (fun e => e (by omega))⟩
  rintro z w14 ⟨hu, rfl⟩
  have hu := hu.symm
  subst hu
  refine c_condF rfl (zx7 (zq1 (zq0 (wl (zj2 I_ok hb6 rfl rfl ?_)))))
  have hb1o := hb1
  refine wl (zj1 (l' := [.slice q5 m5.length k5]) I_ok hb1 rfl rfl rfl rfl OneC.h fun w15 hb1 hE15 hs15 => ?_)
  have hb2 := hb2.ext1 hE15 ne1_2.symm
  have hb3 := hb3.ext1 hE15 ne1_3.symm
  have hK := hK.one hE15 fhK1
  have hmo5 := hmo5.zx9 hE15 hb1o (by decide)
  have hmn5 := fun x hx => (hmn5 x hx).ext1 hE15 hb1o (by decide) (by decide) (by decide)
  have hX := hX.zx1 hE15 fr1
  refine zq3 (zx6 (zq1 (zq0 (wl_p I_ok rfl ?_))))
  rw [IntWalk.i64_in _ (by omega)]
  refine zq3 ?_
  exact zv1 (i + 1, m5, q5, k5) rfl ⟨⟨⟨hi2, hm1⟩, hmo5, hmn5, hK⟩, hb1, hb2, hb3, hX⟩ (by first | omega | (dsimp only; omega))
 ·have h4 : i = 4 := by omega
  subst h4
  obtain ⟨hmcl, hcp, hclk⟩ := own_hp hmo hmn hme (by omega)
  refine c_exit (zx3 (zx3 (zz0 (zq1 (zq5 (zq0 (wl (zj2 I_ok hb1 rfl rfl (wl (zj2 I_ok hb3 rfl hxi.len (wl (zx2 Tryz.call25 rfl rfl rfl rfl rfl rfl (done_calls w10 hcp hxi) fun v16 w16 hr16 => ?_))))))))))))
  obtain ⟨rfl, hE16⟩ := hr16
  have hmn := fun x hx => (hmn x hx).zq2 hE16
  have hX := hX.zq4 hE16
  rw [hme, wk_cl, show decide ((0 : Int) = 0) = true from rfl]
  refine wl_p I_ok rfl (zq3 (zq1 (zj0 (zz2 rfl rfl ?_))))
  exact ⟨rfl, hX⟩
end Go.Proofs.YtpcdihkcenfgkaaGreatDoor
namespace Go.Vc
section
variable {P : Program} {I : Info} {f : Fs} {ops : Array Oper} {o : Oper} {env : Env} {w : World} {K : Env → World → Prop}
end
end Go.Vc
namespace Go.Proofs.YtpcdihkcenfgkaaGreatDoor
open Go.Vc
structure ObjArg (w : World) (x : ObjD) (a : ObjP) : Prop where
  i : ObjIn x
  l : ObjL w x a
  c : ObjCap x a
theorem objO8_sh (x : ObjD) : Short (objO8 x) :=
  ⟨Nat.lt_of_le_of_lt (by show ((x.leaves.take 33).map cutLeaf8).length ≤ 33; rw [List.length_map, List.length_take]; omega) (by decide : 33 < 1000000000),
   Nat.lt_of_le_of_lt (by show (x.parents.take 4).length ≤ 8; rw [List.length_take]; omega) (by decide : 8 < 1000000000),
   Nat.lt_of_le_of_lt (by show ((x.rows.take 8).map cutChg8).length ≤ 8; rw [List.length_map, List.length_take]; omega) (by decide : 8 < 1000000000),
   fun r hr => by obtain ⟨y, _, rfl⟩ := List.mem_map.1 hr; exact Nat.lt_of_le_of_lt (by show (y.path.take 60).length ≤ 60; rw [List.length_take]; omega) (by decide : 60 < 1000000000),
   fun r hr => by obtain ⟨y, _, rfl⟩ := List.mem_map.1 hr; exact Nat.lt_of_le_of_lt (by show (y.path.take 60).length ≤ 60; rw [List.length_take]; omega) (by decide : 60 < 1000000000)⟩
theorem ObjNew.zq8 {W0 w w' : World} {x : ObjD} {a : ObjP} (k : ObjNew W0 w x a) {q : Option Addr} {n c T sz : Nat} {xs : List Value} (ho : Own w q n c T sz xs) (hE : Ext (OwnB q) w w') (h1 : T ≠ 56) (h2 : T ≠ 31) (h3 : T ≠ 114) : ObjNew W0 w' x a :=
 ⟨k.ol.zq8 ho hE h1, k.op.zq8 ho hE h2, k.or.zq8 ho hE h3, k.nl, k.np, k.nr⟩
theorem objO8_links (o : ObjD) : (zj3 (objO8 o)).length ≤ 33 := by
 unfold zj3
 have e1 : (objO8 o).leaves.length ≤ 33 := by show ((o.leaves.take 33).map cutLeaf8).length ≤ 33; rw [List.length_map, List.length_take]; omega
 have e2 : (objO8 o).parents.length ≤ 4 := by show (o.parents.take 4).length ≤ 4; rw [List.length_take]; omega
 split
 ·rw [List.length_map]; omega
 ·split
  ·rw [List.length_cons]; omega
  ·exact Nat.zero_le _
def cuts (os : List ObjX) (i : Nat) : List ObjD := (os.take (min i 8)).map fun x => objO8 x.1
structure InQ (W w : World) (N : Nat) (os : List ObjX) (i : Nat) (q : Option Addr) (k : Nat) (L : List ObjX) : Prop where
  e : L.map Prod.fst = cuts os i
  own : Own w q L.length k 46 73 (L.flatMap objX)
  nw : ∀ y, OwnB q y → N ≤ y
  new : ∀ x ∈ L, ObjNew W w x.1 x.2
theorem cuts_len (os : List ObjX) (i : Nat) : (cuts os i).length ≤ 8 := by
 unfold cuts
 rw [List.length_map, List.length_take]
 omega
section
variable {W w : World} {N i k : Nat} {os : List ObjX} {q : Option Addr} {L : List ObjX}
theorem InQ.len (h : InQ W w N os i q k L) : L.length ≤ 8 := by
 rw [← List.length_map (f := Prod.fst), h.e]
 exact cuts_len os i
theorem InQ.of (h : InQ W w N os i q k L) : ∀ x ∈ L, ∃ y ∈ os, x.1 = objO8 y.1 := fun x hx => by
 have : x.1 ∈ L.map Prod.fst := List.mem_map_of_mem hx
 rw [h.e] at this
 obtain ⟨y, hy, e⟩ := List.mem_map.1 this
 exact ⟨y, List.mem_of_mem_take hy, e.symm⟩
theorem InQ.ins (h : InQ W w N os i q k L) (ho : ∀ x ∈ os, ObjIn x.1) : ∀ x ∈ L, ObjIn x.1 := fun x hx => by
 obtain ⟨y, hy, e⟩ := h.of x hx
 rw [e]; exact objO8_in (ho y hy)
theorem InQ.shs (h : InQ W w N os i q k L) : ∀ x ∈ L, Short x.1 := fun x hx => by
 obtain ⟨y, _, e⟩ := h.of x hx
 rw [e]; exact objO8_sh _
theorem InQ.ls (h : InQ W w N os i q k L) : ∀ x ∈ L, ObjL w x.1 x.2 := fun x hx => (h.new x hx).l
theorem InQ.lk (h : InQ W w N os i q k L) : (L.flatMap fun x => zj3 x.1).length ≤ 264 := by
 have h1 := flat_few (f := fun e : ObjX => zj3 e.1) (L := L) (n := 33) fun x hx => by
  obtain ⟨y, _, e⟩ := h.of x hx
  rw [e]; exact objO8_links _
 have := h.len
 have := Nat.mul_le_mul_right 33 this
 omega
theorem InQ.zq2 {w' : World} (h : InQ W w N os i q k L) (hE : Ext No w w') : InQ W w' N os i q k L := ⟨h.e, h.own.ext hE fun _ _ => id, h.nw, fun x hx => (h.new x hx).zq2 hE⟩
theorem InQ.start (W w : World) (N : Nat) (os : List ObjX) : InQ W w N os 0 none 0 [] := ⟨by simp [cuts], Own.nil _ _ _, noOwn, fun _ hx => (by cases hx)⟩
theorem InQ.app (h : InQ W w N os i q k L) (hi : i < os.length) (h8 : i < 8) {w1 w' : World} {a : ObjP} (hN : ObjNew w1 w (objO8 os[i].1) a) (hW : W.heap.size ≤ w1.heap.size) {q' : Option Addr} {k' : Nat} (hE : Ext (OwnB q) w w') (ho : Own w' q' (L.length + 1) k' 46 73 (L.flatMap objX ++ objC (objO8 os[i].1) a)) (hB : ∀ x, OwnB q' x → OwnB q x ∨ w.heap.size ≤ x) (hN2 : N ≤ w.heap.size) : InQ W w' N os (i + 1) q' k' (L ++ [(objO8 os[i].1, a)]) :=
  ⟨by
    rw [List.map_append, h.e]
    unfold cuts
    rw [show min i 8 = i from by omega, show min (i + 1) 8 = i + 1 from by omega, List.take_succ_eq_append_getElem hi, List.map_append]
    rfl,
   by rw [List.flatMap_append, List.length_append, List.flatMap_singleton]; exact ho,
   fun y hy => (hB y hy).elim (h.nw y) fun k => Nat.le_trans hN2 k,
   fun x hx => by
    rcases List.mem_append.1 hx with hx | hx
    · exact (h.new x hx).zq8 h.own hE (by decide) (by decide) (by decide)
    · rw [List.mem_singleton.1 hx]; exact (hN.older hW).zq8 h.own hE (by decide) (by decide) (by decide)⟩
end
section
variable {W w : World} {N i k : Nat} {os : List ObjX} {q : Option Addr} {L : List ObjX}
theorem InQ.zq8 (h : InQ W w N os i q k L) {w' : World} {p : Option Addr} {n c : Nat} {xs : List Value} (ho : Own w p n c 46 73 xs) (hE : Ext (OwnB p) w w') (hd : ∀ b, OwnB q b → ¬ OwnB p b) : InQ W w' N os i q k L :=
 ⟨h.e, h.own.ext hE hd, h.nw, fun x hx => (h.new x hx).zq8 ho hE (by decide) (by decide) (by decide)⟩
theorem InQ.lenE (h : InQ W w N os i q k L) (hi : i ≤ os.length) (h8 : i ≤ 8) : L.length = i := by
 rw [← List.length_map (f := Prod.fst), h.e]
 unfold cuts
 rw [List.length_map, List.length_take]
 omega
theorem cuts_done {os : List ObjX} {i : Nat} (hi : i = os.length ∧ i ≤ 8 ∨ i = 8) : cuts os i = cuts os 8 := by
 unfold cuts
 rcases hi with ⟨h, h2⟩ | h
 ·subst h
  rw [List.take_of_length_le (by omega), List.take_of_length_le (by omega)]
 ·rw [h]
theorem InQ.done (h : InQ W w N os i q k L) (hi : i = os.length ∧ i ≤ 8 ∨ i = 8) : InQ W w N os 8 q k L := ⟨h.e.trans (cuts_done hi), h.own, h.nw, h.new⟩
theorem InQ.same {q' : Option Addr} {k' : Nat} {L' : List ObjX} (h : InQ W w N os i q k L) (h' : InQ W w N os i q' k' L') : L'.map Prod.fst = L.map Prod.fst := h'.e.trans h.e.symm
end
theorem fst_get {L L' : List ObjX} (h : L'.map Prod.fst = L.map Prod.fst) {j : Nat} (h1 : j < L'.length) (h2 : j < L.length) : (L'[j]).1 = (L[j]).1 := by
 have e1 : (L'.map Prod.fst)[j]? = some (L'[j]).1 := by rw [List.getElem?_map, List.getElem?_eq_getElem h1]; rfl
 have e2 : (L.map Prod.fst)[j]? = some (L[j]).1 := by rw [List.getElem?_map, List.getElem?_eq_getElem h2]; rfl
 rw [h, e2] at e1
 exact (Option.some.inj e1).symm
def HX (w : World) (x : zz4) : Prop := OwnX w x.a.lp x.o.leaves.length x.a.lc 56 33 ∧ OwnX w x.a.pp x.o.parents.length x.a.pc 31 32 ∧ OwnX w x.a.rp x.o.rows.length x.a.rc 114 3
theorem OwnX.ext {w w' : World} {p : Option Addr} {n c T sz : Nat} (h : OwnX w p n c T sz) {S : Nat → Prop} (hE : Ext S w w') (hS : ∀ x, OwnB p x → ¬ S x) : OwnX w' p n c T sz := by obtain ⟨xs, h⟩ := h; exact ⟨xs, h.ext hE hS⟩
theorem HX.ext {w w' : World} {x : zz4} (h : HX w x) {S : Nat → Prop} (hE : Ext S w w') (hS : ∀ b, ObjF x.a b → ¬ S b) : HX w' x :=
 ⟨h.1.ext hE fun b k => hS b (.inl k), h.2.1.ext hE fun b k => hS b (.inr (.inl k)), h.2.2.ext hE fun b k => hS b (.inr (.inr k))⟩
theorem HX.zq2 {w w' : World} {x : zz4} (h : HX w x) (hE : Ext No w w') : HX w' x := h.ext hE fun _ _ => id
theorem HeldNew.hx {W0 w : World} {x : zz4} (h : HeldNew W0 w x) : HX w x := ⟨⟨_, h.l.ol⟩, ⟨_, h.l.op⟩, ⟨_, h.l.or⟩⟩
theorem Apart.rest {L : List zz4} (h : Apart L) {j : Nat} (hj : j < L.length) : ∀ x ∈ L.drop (j + 1), ∀ b, ObjF x.a b → ¬ ObjF (L[j]).a b := fun x hx b hb hb2 => by
 have h1 : (L.drop j).Pairwise fun x y => ∀ b c, ObjF x.a b → ObjF y.a c → b < c := h.sublist (List.drop_sublist j L)
 rw [List.drop_eq_getElem_cons hj] at h1
 exact Nat.lt_irrefl _ ((List.pairwise_cons.1 h1).1 x hx b b hb2 hb)
theorem takeE_fst {A : List IdB} {L L' : List ObjX} (h : L'.map Prod.fst = L.map Prod.fst) : takeE A L' = takeE A L := by
 have e : ∀ M : List ObjX, takeE A M = if ∀ o ∈ M.map Prod.fst, ObjOk o then (if ∀ o ∈ M.map Prod.fst, idOf o ∈ A then 0 else 300) else 160 := fun M => by
  unfold takeE
  simp only [List.forall_mem_map]
 rw [e, e, h]
theorem fetchTakes_calls (w : World) {ps ph po pa : Option Addr} {ck ch co cq : Nat} {steps : List StepT} {has : List Int} {os : List ObjX} {asked : List Int} (hs : Sl w ps steps.length 3 (steps.flatMap stepC)) (hsi : ∀ s ∈ steps, StepIn w s) (hsl : steps.length < 9223372036854775808) (hh : Sl w ph has.length 1 (hasC has)) (hhl : has.length < 9223372036854775808) (head : Int)
  (ho : Sl w po os.length 73 (os.flatMap objX)) (hoi : ∀ x ∈ os, ObjArg w x.1 x.2) (hol : os.length < 9223372036854775808) (ha : Sl w pa asked.length 1 (hasC asked)) (_hal : asked.length < 9223372036854775808) (hr : Seg w 0 0 (wordsV rootsW)) :
  zz1 Tryz.prog 4 [.agg #[.slice ps steps.length ck, .slice ph has.length ch, .int .i64 head], .slice po os.length co, .slice pa asked.length cq] w fun v w' => v = .bool true ∧ Ext No w w' := by
 have hoI : ∀ x ∈ os, ObjIn x.1 := fun x hx => (hoi x hx).i
 refine zq9 Tryz.func4 rfl rfl rfl rfl ?_
 have hX := Ext.refl No w
 refine zq5 (zq0 (wl (zz9 I_ok rfl fun b3 w1 hn3 hb3 hE1 => ?_)))
 have fr3 := Nat.le_trans hX.size hn3
 have hX := hX.zq4 hE1
 have hb3 : Blk w1 b3 25 ([.slice ps steps.length ck, .slice ph has.length ch, .int .i64 head]) := hb3
 refine wl_p I_ok rfl (zq3 (zq1 (zq5 (zq5 (zq0 (wl (zx2 Tryz.call10 rfl rfl rfl rfl rfl rfl (wakes_calls w1 (hr.zq2 hX)) fun v2 w2 hr2 => ?_)))))))
 obtain ⟨rfl, hE2⟩ := hr2
 have hb3 := hb3.zq2 hE2
 have hX := hX.zq4 hE2
 refine wl_p I_ok rfl (zq3 (zq1 (c_condF rfl (zx7 (zq1 (zq5 (zq0 (wl (zj2 I_ok hb3 rfl rfl ?_)))))))))
 refine wl (zx2 Tryz.call11 rfl rfl rfl rfl rfl rfl (heaps_calls w2 (hs.zq2 hX) (fun s h => (hsi s h).zq2 hX) hsl (hh.zq2 hX) hhl head) fun v3 w3 hr3 => ?_)
 obtain ⟨qc, kc, mc, q, k, m, ids, rfl, _, _, hC0, hcO0, hxi, hc30, _, _, hlc, _, hE3⟩ := hr3
 have hX := hX.zq4 hE3
 have hmcl : (mc.flatMap fun e => zj3 e.o).length ≤ 1200 := by
  have h1 := flat_few (f := fun e : zz4 => zj3 e.o) (L := mc) (n := 40) hlc
  have := Nat.mul_le_mul_right 40 hc30
  omega
 have hK : KS w3.heap.size w3 (fun u => HpIn u qc mc) := KS.mk0 fun u hE => hC0.zq2 hE
 obtain ⟨N0, hN0⟩ : ∃ N, N = w3.heap.size := ⟨_, rfl⟩
 rw [← hN0] at hK
 refine wl_p I_ok rfl ?_
 have hRhK := hK.n
 refine wl (zz9 I_ok rfl fun b7 w4 hn7 hb7 hE4 => ?_)
 have fr7 := Nat.le_trans hX.size hn7
 have hK := hK.no hE4
 have hX := hX.zq4 hE4
 have fhK7 := Nat.le_trans hRhK hn7
 have hRhK := hK.n
 refine wl (zz9 I_ok rfl fun b8 w5 hn8 hb8 hE5 => ?_)
 have ne7_8 : b7 ≠ b8 := Nat.ne_of_lt (Nat.lt_of_lt_of_le hb7.lt hn8)
 have fr8 := Nat.le_trans hX.size hn8
 have hb7 := hb7.zq2 hE5
 have hK := hK.no hE5
 have hX := hX.zq4 hE5
 have fhK8 := Nat.le_trans hRhK hn8
 have hRhK := hK.n
 refine wl (zz9 I_ok rfl fun b9 w6 hn9 hb9 hE6 => ?_)
 have ne7_9 : b7 ≠ b9 := Nat.ne_of_lt (Nat.lt_of_lt_of_le hb7.lt hn9)
 have ne8_9 : b8 ≠ b9 := Nat.ne_of_lt (Nat.lt_of_lt_of_le hb8.lt hn9)
 have fr9 := Nat.le_trans hX.size hn9
 have hb7 := hb7.zq2 hE6
 have hb8 := hb8.zq2 hE6
 have hK := hK.no hE6
 have hX := hX.zq4 hE6
 have fhK9 := Nat.le_trans hRhK hn9
 refine wl (zj1 (l' := [.slice qc mc.length kc]) I_ok hb7 rfl rfl rfl rfl OneC.h fun w7 hb7 hE7 hs7 => ?_)
 have hb8 := hb8.ext1 hE7 ne7_8.symm
 have hb9 := hb9.ext1 hE7 ne7_9.symm
 have hK := hK.one hE7 fhK7
 have hX := hX.zx1 hE7 fr7
 refine wl (zj1 (l' := [.slice q m.length k]) I_ok hb8 rfl rfl rfl rfl OneC.h fun w8 hb8 hE8 hs8 => ?_)
 have hb7 := hb7.ext1 hE8 ne7_8
 have hb9 := hb9.ext1 hE8 ne8_9.symm
 have hK := hK.one hE8 fhK8
 have hX := hX.zx1 hE8 fr8
 refine wl (zj1 (l' := zq6 (headX ids head)) I_ok hb9 rfl rfl hxi.len (by rw [zx0, hxi]; rfl) OneC.h fun w9 hb9 hE9 hs9 => ?_)
 have hb7 := hb7.ext1 hE9 ne7_9
 have hK := hK.one hE9 fhK9
 have hX := hX.zx1 hE9 fr9
 refine zq3 (zq1 (zq5 (zq0 ?_)))
 have hRT := hK.n
 refine wl (st_bs I_ok rfl 105 rfl heldZ_c (by rw [List.length_append, zx0, zq7 objZ_in]; rfl) (by decide) (by decide) trivial (l' := []) rfl fun b35 w10 hn35 hb35 hE10 hs10 => ?_)
 have ne7_35 : b7 ≠ b35 := Nat.ne_of_lt (Nat.lt_of_lt_of_le hb7.lt hn35)
 have fr35 := Nat.le_trans hX.size hn35
 have hb7 := hb7.zq2 hE10
 have hK := hK.no hE10
 have hX := hX.zq4 hE10
 have fT35 := Nat.le_trans hRT hn35
 have ne7_35b := ne7_35
 refine wl_p I_ok rfl (wl (st_ldb I_ok hb7 rfl rfl ?_))
 have hXp := hX
 have hXps := hX.size
 refine wl (zv2 I_ok rfl 105 224 rfl rfl rfl (by decide) (Own.blk (n := 0) (c := 0) hb35 105 rfl (Nat.le_refl _) (by decide)) (Src.slice hK.now.sl OneC.h) (by dsimp only [maxLen]; omega) (by dsimp only; omega) fun p11 c11 w11 ho11 hE11 hB11 => ?_)
 dsimp only at ho11 hE11 hB11 ⊢
 have eb35 : ∀ y, OwnB (some ⟨b35, 0, none⟩) y → y = b35 := fun y hy => (congrArg Addr.block (Option.some.inj hy)).symm
 have hX := hXp.trans hE11 fun y hy hF => by have := eb35 y hF; omega
 have hK := hK.ext hE11 fun x _ e => by rw [eb35 x e]; exact fT35
 have hb7 := hb7.ext hE11 (fun e => ne7_35 (eb35 _ e))
 obtain ⟨qw, kw, e1, e2, hW⟩ : ∃ q2 k2, q2 = p11 ∧ k2 = c11 ∧ Own w11 q2 mc.length k2 48 105 (mc.flatMap heldC) := ⟨_, _, rfl, rfl, by
  have k := ho11
  rw [Nat.zero_add] at k
  simpa using k⟩
 rw [← e1, ← e2, Nat.zero_add]
 have hCm := hK.now
 have hK := hK.add (fun u hE => (⟨hW.sl.zq2 hE, fun x hx => (hCm.ins x hx).zq2 hE, hCm.len, hCm.lk⟩ : HpIn u qw mc))
 obtain ⟨N, hN⟩ : ∃ N, N = w11.heap.size := ⟨_, rfl⟩
 rw [← hN] at hK
 have hNw : w.heap.size ≤ N := by rw [hN]; exact hX.size
 refine wl (st_bd I_ok rfl ⟨⟨rfl, by decide⟩, trivial⟩ (l' := [.slice qw mc.length kw]) rfl ?_)
 have hRhK := hK.n
 refine wl (zz9 I_ok rfl fun b10 w12 hn10 hb10 hE12 => ?_)
 have ne7_10 : b7 ≠ b10 := Nat.ne_of_lt (Nat.lt_of_lt_of_le hb7.lt hn10)
 have fr10 := Nat.le_trans hX.size hn10
 have hb7 := hb7.zq2 hE12
 have hK := hK.no hE12
 have hX := hX.zq4 hE12
 have fhK10 := Nat.le_trans hRhK hn10
 refine wl (zj1 (l' := [.slice qw mc.length kw]) I_ok hb10 rfl rfl rfl rfl OneC.h fun w13 hb10 hE13 hs13 => ?_)
 have hb7 := hb7.ext1 hE13 ne7_10
 have hK := hK.one hE13 fhK10
 have hX := hX.zx1 hE13 fr10
 refine zq3 (zq1 (zq5 (zq0 (wl_p I_ok rfl (zq3 (zq1 ?_))))))
 refine c_cutK (α := (List ObjX × Option Addr × Nat) × (List ObjX × Option Addr × Nat)) [2, 7, 10] rfl (fun z => [(11, .slice z.1.2.1 z.1.1.length z.1.2.2), (12, .slice z.2.2.1 z.2.1.length z.2.2.2)]) (fun z u => (InQ w u N os (8) z.1.2.1 z.1.2.2 z.1.1 ∧ InQ w u N os (8) z.2.2.1 z.2.2.2 z.2.1 ∧ KS N u (fun u => HpIn u qc mc ∧ HpIn u qw mc)) ∧ Blk u b7 29 ([.slice qc mc.length kc]) ∧ Blk u b10 29 ([.slice qw mc.length kw]) ∧ Ext No w u) ?_ ?_
 ·refine zq5 ?_
  refine zq0 (wl_p I_ok rfl (zq3 (zq1 (zx4 ?_))))
  refine zv3 (α := Nat × (List ObjX × Option Addr × Nat) × (List ObjX × Option Addr × Nat)) [2, 7, 10, 40, 41] rfl (fun z => [(11, .slice z.2.1.2.1 z.2.1.1.length z.2.1.2.2), (12, .slice z.2.2.2.1 z.2.2.1.length z.2.2.2.2), (42, .int .i64 (z.1 : Int))]) (fun z u => ((z.1 ≤ os.length ∧ z.1 ≤ 8) ∧ InQ w u N os (z.1) z.2.1.2.1 z.2.1.2.2 z.2.1.1 ∧ InQ w u N os (z.1) z.2.2.2.1 z.2.2.2.2 z.2.2.1 ∧ (∀ b, OwnB z.2.1.2.1 b → ¬ OwnB z.2.2.2.1 b) ∧ KS N u (fun u => HpIn u qc mc ∧ HpIn u qw mc)) ∧ Blk u b7 29 ([.slice qc mc.length kc]) ∧ Blk u b10 29 ([.slice qw mc.length kw]) ∧ Ext No w u) (fun z u => os.length - z.1) (0, ⟨[], none, 0⟩, ⟨[], none, 0⟩) rfl ⟨⟨⟨Nat.zero_le _, Nat.zero_le _⟩, InQ.start _ _ _ _, InQ.start _ _ _ _, (fun b k _ => Nat.lt_irrefl b (noOwn b k)), hK⟩, hb7, hb10, hX⟩ ?_
  rintro ⟨i, ⟨L8, q8, k8⟩, ⟨L9, q9, k9⟩⟩ w14 ⟨⟨⟨hi, hi8⟩, hI8, hI9, hdj, hK⟩, hb7, hb10, hX⟩
  try dsimp only
  dsimp only at hi hi8 hI8 hI9 hdj hK
  refine zq5 (zq0 (wl_p I_ok rfl (zq3 (zq1 (zq5 (c_if rfl (fun hc => ?_) (fun hc => ?_)))))))
  ·have hi2 : i < os.length := by omega
   obtain ⟨ob, oo, hp1, hos⟩ := ho.rowAll (objX_len hoI) (by omega)
   have hoi1 := hoi _ (List.getElem_mem hi2)
   have hl8e := hI8.lenE hi hi8
   have hl9e := hI9.lenE hi hi8
   have hIK : KS w14.heap.size w14 (fun u => InQ w u N os (i) q8 k8 L8 ∧ InQ w u N os (i) q9 k9 L9) := KS.mk0 fun u hE => ⟨hI8.zq2 hE, hI9.zq2 hE⟩
   obtain ⟨M, hM⟩ : ∃ N, N = w14.heap.size := ⟨_, rfl⟩
   rw [← hM] at hIK
   have hNM : N ≤ M := by rw [hM]; exact hK.n
   have hq8M : ∀ b, OwnB q8 b → b < M := fun b h => by rw [hM]; exact hI8.own.lt h
   have hq9M : ∀ b, OwnB q9 b → b < M := fun b h => by rw [hM]; exact hI9.own.lt h
   refine wc_put 40 rfl (v' := .slice (some ⟨ob, oo, none⟩) os.length co) (by rw [hp1]) (zx7 (zq1 (zq5 (zx4 (zq5 (zq0 (wl_p I_ok rfl (wl (st_ix I_ok rfl 73 rfl i rfl (by omega) (oo + i * 73) rfl ?_)))))))))
   refine wl (st_ldN I_ok rfl ((hos i hi2).zq2 hX) (zq7 hoi1.i) ?_)
   have hRhK := hK.n
   have hRhIK := hIK.n
   refine wl (zz9 I_ok rfl fun b14 w15 hn14 hb14 hE15 => ?_)
   have ne7_14 : b7 ≠ b14 := Nat.ne_of_lt (Nat.lt_of_lt_of_le hb7.lt hn14)
   have ne10_14 : b10 ≠ b14 := Nat.ne_of_lt (Nat.lt_of_lt_of_le hb10.lt hn14)
   have fr14 := Nat.le_trans hX.size hn14
   have hb7 := hb7.zq2 hE15
   have hb10 := hb10.zq2 hE15
   have hK := hK.no hE15
   have hIK := hIK.no hE15
   have hX := hX.zq4 hE15
   have fhK14 := Nat.le_trans hRhK hn14
   have fhIK14 := Nat.le_trans hRhIK hn14
   refine wl_p I_ok rfl (wl (zj1 (l' := objX os[i]) I_ok hb14 rfl rfl (zq7 hoi1.i) (by rw [zq7 hoi1.i]; rfl) OneC.h fun w16 hb14 hE16 hs16 => ?_))
   have hb7 := hb7.ext1 hE16 ne7_14
   have hb10 := hb10.ext1 hE16 ne10_14
   have hK := hK.one hE16 fhK14
   have hIK := hIK.one hE16 fhIK14
   have hX := hX.zx1 hE16 fr14
   refine zq3 (zq1 (zq5 (zq5 (zq0 (wl_p I_ok rfl (zq3 (zq1 (c_if rfl (fun hc => ?_) (fun hc => ?_)))))))))
   ·have h8 : i = 8 := by omega
    refine c_exit ?_
    exact zx3 (f_blockE' rfl (zx3 (zx3 (zz0 (zz7 (⟨L8, q8, k8⟩, ⟨L9, q9, k9⟩) rfl ⟨⟨hIK.now.1.done (.inr h8), hIK.now.2.done (.inr h8), hK⟩, hb7, hb10, hX⟩)))))
   ·have h8 : i < 8 := by omega
    obtain ⟨hI8, hI9⟩ := hIK.now
    have hq8 := hI8.own
    have hq9 := hI9.own
    have nq8 : ¬ OwnB q8 b14 := fun e => by have := hq8M b14 e; omega
    have nq9 : ¬ OwnB q9 b14 := fun e => by have := hq9M b14 e; omega
    refine zx7 (zq1 ?_)
    refine c_draw rfl 12 [(0, true), (1, true), (5, true), (6, true), (2, false), (3, false), (4, false), (7, false), (8, false), (9, false), (10, true), (11, true)] [] ((fun y => OwnB q8 y ∨ OwnB q9 y)) (by kernel_rfl) fun w17 hE17 hs17 => ?_
    have hd14 := hb14
    have hb7 := hb7.zq2 hE17
    have hb10 := hb10.zq2 hE17
    have hK := hK.no hE17
    have hI8 := hI8.zq2 hE17
    have hI9 := hI9.zq2 hE17
    have hq8 := hq8.ext hE17 fun _ _ => id
    have hX := hX.zq4 hE17
    have hC : Ext ((fun y => OwnB q8 y ∨ OwnB q9 y)) _ w17 := hE17.no
    refine wd_k I_ok 1 rfl (wd_ldN I_ok rfl rfl (fun w' hw' => ((hd14.ext hw' (fun e => e.elim nq8 nq9)).seg)) (zq7 hoi1.i) ?_)
    refine wd_k I_ok 1 rfl (wd_ldN I_ok rfl rfl (fun w' hw' => ((hd14.ext hw' (fun e => e.elim nq8 nq9)).seg)) (zq7 hoi1.i) ?_)
    have hXc1 := hX.size
    refine wd_l rfl (zx2 Tryz.call19 rfl rfl rfl rfl rfl rfl (short_calls w17 hoi1.i (hoi1.l.zq2 hX) hoi1.c) fun v18 w18 hr18 => ⟨(by obtain ⟨a1, rfl, hN1, hE18⟩ := hr18; exact hC.zq4 hE18), ?_⟩)
    obtain ⟨a1, rfl, hN1, hE18⟩ := hr18
    have hb7 := hb7.zq2 hE18
    have hb10 := hb10.zq2 hE18
    have hK := hK.no hE18
    have hI8 := hI8.zq2 hE18
    have hI9 := hI9.zq2 hE18
    have hq8 := hq8.ext hE18 fun _ _ => id
    have hX := hX.zq4 hE18
    have hC := hC.zq4 hE18
    refine wd_l rfl (st_bs I_ok rfl 73 rfl objZ_c.symm (by rw [zq7 objZ_in]) (by decide) (by decide) ⟨⟨by rw [zj9]; exact zq7 (objO8_in hoi1.i), by decide⟩, trivial⟩ (l' := objC (objO8 os[i].1) a1) (one_obj (objO8_in hoi1.i)) fun b52 w19 hn52 hb52 hE19 hs19 => ⟨hC.zq4 hE19, ?_⟩)
    have fr52 := Nat.le_trans hX.size hn52
    have hb7 := hb7.zq2 hE19
    have hb10 := hb10.zq2 hE19
    have hK := hK.no hE19
    have hI8 := hI8.zq2 hE19
    have hI9 := hI9.zq2 hE19
    have hq8 := hq8.ext hE19 fun _ _ => id
    have hN1 := hN1.zq2 hE19
    have hX := hX.zq4 hE19
    have hC := hC.zq4 hE19
    have hX1 := hX
    have hKn := hK.n
    have hs52 : Sl w19 (some ⟨b52, 0, none⟩) 1 73 (objC (objO8 os[i].1) a1) := ⟨zq7 (objO8_in hoi1.i), .inr ⟨b52, 0, rfl, hb52.seg⟩⟩
    have hq9o := hI9.own
    refine wd_l rfl (zv2 I_ok rfl 73 192 rfl rfl rfl (by decide) hq8 (Src.slice (m := 1) hs52 OneC.h) (by dsimp only [maxLen]; omega) (by dsimp only; omega) fun p20 c20 w20 ho20 hE20 hB20 => ⟨hC.then (hE20.mono fun _ _ e => .inl e), ?_⟩)
    have hC := hC.then (hE20.mono fun _ _ e => .inl e)
    dsimp only at ho20 hE20 hB20 ⊢
    have hX := hX1.trans hE20 fun y hy hF => by have := hI8.nw y hF; omega
    have hb7 := hb7.zq8 hq8 hE20 (by decide)
    have hb10 := hb10.zq8 hq8 hE20 (by decide)
    have hK := hK.ext hE20 fun x _ hx => hI8.nw x hx
    obtain ⟨qa, ka, e1, e2, hoa⟩ : ∃ q2 k2, q2 = p20 ∧ k2 = c20 ∧ Own w20 q2 (L8.length + 1) k2 46 73 (L8.flatMap objX ++ objC (objO8 os[i].1) a1) := ⟨_, _, rfl, rfl, ho20⟩
    rw [← e1] at hB20
    rw [← e1, ← e2]
    have hIa := hI8.app hi2 h8 hN1 hXc1 hE20 hoa hB20 hKn
    have hI9 := hI9.zq8 hq8 hE20 (fun b k k2 => hdj b k2 k)
    have hq9 := hI9.own
    have hdj2 : ∀ b, OwnB qa b → ¬ OwnB q9 b := fun b k k2 => (hB20 b k).elim (fun h => hdj b h k2) fun h => by have := hq9o.lt k2; omega
    have hXc2 := hX.size
    refine wd_l rfl (zx2 Tryz.call19 rfl rfl rfl rfl rfl rfl (short_calls w20 hoi1.i (hoi1.l.zq2 hX) hoi1.c) fun v21 w21 hr21 => ⟨(by obtain ⟨a2, rfl, hN2, hE21⟩ := hr21; exact hC.zq4 hE21), ?_⟩)
    obtain ⟨a2, rfl, hN2, hE21⟩ := hr21
    have hb7 := hb7.zq2 hE21
    have hb10 := hb10.zq2 hE21
    have hK := hK.no hE21
    have hI9 := hI9.zq2 hE21
    have hq9 := hq9.ext hE21 fun _ _ => id
    have hIa := hIa.zq2 hE21
    have hX := hX.zq4 hE21
    have hC := hC.zq4 hE21
    refine wd_l rfl (st_bs I_ok rfl 73 rfl objZ_c.symm (by rw [zq7 objZ_in]) (by decide) (by decide) ⟨⟨by rw [zj9]; exact zq7 (objO8_in hoi1.i), by decide⟩, trivial⟩ (l' := objC (objO8 os[i].1) a2) (one_obj (objO8_in hoi1.i)) fun b57 w22 hn57 hb57 hE22 hs22 => ⟨hC.zq4 hE22, ?_⟩)
    have fr57 := Nat.le_trans hX.size hn57
    have hb7 := hb7.zq2 hE22
    have hb10 := hb10.zq2 hE22
    have hK := hK.no hE22
    have hI9 := hI9.zq2 hE22
    have hq9 := hq9.ext hE22 fun _ _ => id
    have hIa := hIa.zq2 hE22
    have hN2 := hN2.zq2 hE22
    have hX := hX.zq4 hE22
    have hC := hC.zq4 hE22
    have hX1 := hX
    have hKn := hK.n
    have hs57 : Sl w22 (some ⟨b57, 0, none⟩) 1 73 (objC (objO8 os[i].1) a2) := ⟨zq7 (objO8_in hoi1.i), .inr ⟨b57, 0, rfl, hb57.seg⟩⟩
    have hIa0 := hIa
    refine wd_l rfl (zv2 I_ok rfl 73 192 rfl rfl rfl (by decide) hq9 (Src.slice (m := 1) hs57 OneC.h) (by dsimp only [maxLen]; omega) (by dsimp only; omega) fun p23 c23 w23 ho23 hE23 hB23 => ⟨hC.then (hE23.mono fun _ _ e => .inr e), ?_⟩)
    dsimp only at ho23 hE23 hB23 ⊢
    have hX := hX1.trans hE23 fun y hy hF => by have := hI9.nw y hF; omega
    have hb7 := hb7.zq8 hq9 hE23 (by decide)
    have hb10 := hb10.zq8 hq9 hE23 (by decide)
    have hK := hK.ext hE23 fun x _ hx => hI9.nw x hx
    obtain ⟨qb, kb, e1, e2, hob⟩ : ∃ q2 k2, q2 = p23 ∧ k2 = c23 ∧ Own w23 q2 (L9.length + 1) k2 46 73 (L9.flatMap objX ++ objC (objO8 os[i].1) a2) := ⟨_, _, rfl, rfl, ho23⟩
    rw [← e1] at hB23
    rw [← e1, ← e2]
    have hIb := hI9.app hi2 h8 hN2 hXc2 hE23 hob hB23 hKn
    have hdj3 : ∀ b, OwnB qa b → ¬ OwnB qb b := fun b k k2 => (hB23 b k2).elim (fun h => hdj2 b k h) fun h => by have := hIa0.own.lt k; omega
    have hIa := hIa.zq8 hq9 hE23 hdj2
    rw [show L8.length + 1 = (L8 ++ [((objO8 os[i].1, a1) : ObjX)]).length from by rw [List.length_append]; rfl, show L9.length + 1 = (L9 ++ [((objO8 os[i].1, a2) : ObjX)]).length from by rw [List.length_append]; rfl]
    refine wd_k I_ok 2 rfl (wd_sw (zv0 (zx6 (zq1 (zq0 (wl_p I_ok rfl ?_))))))
    rw [IntWalk.i64_in _ (by omega)]
    refine zq3 (fin_put 40 rfl (v' := .slice po os.length co) (by rw [hp1]) ?_)
    exact zv1 (i + 1, ⟨(L8 ++ [((objO8 os[i].1, a1) : ObjX)]), qa, ka⟩, ⟨(L9 ++ [((objO8 os[i].1, a2) : ObjX)]), qb, kb⟩) rfl ⟨⟨⟨hi2, h8⟩, hIa, hIb, hdj3, hK⟩, hb7, hb10, hX⟩ (by first | omega | (dsimp only; omega))
  ·have hend : i = os.length := by omega
   refine c_exit ?_
   exact zx3 (zx3 (zz0 (zz7 (⟨L8, q8, k8⟩, ⟨L9, q9, k9⟩) rfl ⟨⟨hI8.done (.inl ⟨hend, hi8⟩), hI9.done (.inl ⟨hend, hi8⟩), hK⟩, hb7, hb10, hX⟩)))
 rintro ⟨⟨L8, q8, k8⟩, ⟨L9, q9, k9⟩⟩ w24 ⟨⟨hI8, hI9, hK⟩, hb7, hb10, hX⟩
 try dsimp only
 dsimp only at hI8 hI9 hK
 have hsm := hI8.same hI9
 have hIns8 := hI8.ins hoI
 have hIns9 := hI9.ins hoI
 have hl8 := hI8.len
 have hl9 := hI9.len
 have hlk8 := hI8.lk
 have hlk9 := hI9.lk
 have hl89 : L9.length = L8.length := by have := congrArg List.length hsm; rw [List.length_map, List.length_map] at this; exact this
 have hIK : KS w24.heap.size w24 (fun u => InQ w u N os (8) q8 k8 L8 ∧ InQ w u N os (8) q9 k9 L9) := KS.mk0 fun u hE => ⟨hI8.zq2 hE, hI9.zq2 hE⟩
 obtain ⟨M, hM⟩ : ∃ N, N = w24.heap.size := ⟨_, rfl⟩
 rw [← hM] at hIK
 have hNM : N ≤ M := by rw [hM]; exact hK.n
 refine zq5 (zq0 (wl (st_bd I_ok rfl ⟨⟨rfl, by decide⟩, trivial⟩ (l' := zq6 id9U) (by rw [← idZ_c]; exact id9_buildU) ?_)))
 have hRIK := hIK.n
 refine wl (st_bs I_ok rfl 32 rfl idZ_c.symm (by rw [zx0]; rfl) (by decide) (by decide) ⟨⟨by rw [zj9]; exact (IdIn.len id9U_in), by decide⟩, trivial⟩ (l' := zq6 id9U) (one_id id9U_in) fun b61 w25 hn61 hb61 hE25 hs25 => ?_)
 have fr61 := Nat.le_trans hX.size hn61
 have hb7 := hb7.zq2 hE25
 have hb10 := hb10.zq2 hE25
 have hK := hK.no hE25
 have hIK := hIK.no hE25
 have hX := hX.zq4 hE25
 have hA : Own w25 (some ⟨b61, 0, none⟩) [id9U].length 1 31 32 ([id9U].flatMap zq6) := by rw [List.flatMap_singleton]; exact Own.blk (n := 1) (c := 1) hb61 32 (by rw [zx0]; rfl) (Nat.le_refl _) (by decide)
 have hAn : ∀ y, OwnB (some ⟨b61, 0, none⟩) y → M ≤ y := fun y hy => by have e := (congrArg Addr.block (Option.some.inj hy)).symm; have e : y = b61 := e; omega
 refine wl_p I_ok rfl (zq3 (zq1 ?_))
 refine c_cutK (α := List IdB × Option Addr × Nat) [7, 10, 11, 12] rfl (fun z => [(15, .slice z.2.1 z.1.length z.2.2)]) (fun z u => (((∀ y ∈ z.1, IdIn y) ∧ z.1.length ≤ 13) ∧ Own u z.2.1 z.1.length z.2.2 31 32 (z.1.flatMap zq6) ∧ (∀ y, OwnB z.2.1 y → M ≤ y) ∧ KS N u (fun u => HpIn u qc mc ∧ HpIn u qw mc) ∧ KS M u (fun u => InQ w u N os (8) q8 k8 L8 ∧ InQ w u N os (8) q9 k9 L9)) ∧ Blk u b7 29 ([.slice qc mc.length kc]) ∧ Blk u b10 29 ([.slice qw mc.length kw]) ∧ Ext No w u) ?_ ?_
 ·refine zq5 ?_
  refine zq0 (wl_p I_ok rfl (zq3 (zq1 (zx4 ?_))))
  refine zv3 (α := Nat × List IdB × Option Addr × Nat) [7, 10, 11, 12, 62, 63] rfl (fun z => [(15, .slice z.2.2.1 z.2.1.length z.2.2.2), (64, .int .i64 (z.1 : Int))]) (fun z u => (((z.1 ≤ asked.length ∧ z.1 ≤ 12) ∧ z.2.1.length ≤ z.1 + 1 ∧ ∀ y ∈ z.2.1, IdIn y) ∧ Own u z.2.2.1 z.2.1.length z.2.2.2 31 32 (z.2.1.flatMap zq6) ∧ (∀ y, OwnB z.2.2.1 y → M ≤ y) ∧ KS N u (fun u => HpIn u qc mc ∧ HpIn u qw mc) ∧ KS M u (fun u => InQ w u N os (8) q8 k8 L8 ∧ InQ w u N os (8) q9 k9 L9)) ∧ Blk u b7 29 ([.slice qc mc.length kc]) ∧ Blk u b10 29 ([.slice qw mc.length kw]) ∧ Ext No w u) (fun z u => asked.length - z.1) (0, [id9U], some ⟨b61, 0, none⟩, 1) rfl ⟨⟨⟨⟨Nat.zero_le _, Nat.zero_le _⟩, Nat.le_refl _, fun y hy => by rw [List.mem_singleton.1 hy]; exact id9U_in⟩, hA, hAn, hK, hIK⟩, hb7, hb10, hX⟩ ?_
  rintro ⟨t, A, qA, kA⟩ w26 ⟨⟨⟨⟨ht, ht12⟩, hAl, hAi⟩, hA, hAn, hK, hIK⟩, hb7, hb10, hX⟩
  try dsimp only
  dsimp only at ht ht12 hAl hAi hA hAn
  refine zq5 (zq0 (wl_p I_ok rfl (zq3 (zq1 (zq5 (c_if rfl (fun hc => ?_) (fun hc => ?_)))))))
  ·have ht2 : t < asked.length := by omega
   obtain ⟨ab, ao, hpe, has_⟩ : ∃ b o, pa = some ⟨b, o, none⟩ ∧ Seg w26 b o (hasC asked) := by
    rcases (ha.zq2 hX).2 with h0 | ⟨b, o, e, h1⟩
    ·omega
    ·exact ⟨b, o, e, h1⟩
   have hai : (hasC asked)[t]? = some (.int .i64 asked[t]) := by rw [List.getElem?_map, List.getElem?_eq_getElem ht2]; rfl
   refine wc_put 62 rfl (v' := .slice (some ⟨ab, ao, none⟩) asked.length cq) (by rw [hpe]) (zx7 (zq1 ?_))
   refine c_cutK (α := List IdB × Option Addr × Nat) [7, 10, 11, 12, 62, 63, 64] rfl (fun z => [(15, .slice z.2.1 z.1.length z.2.2)]) (fun z u => ((t < 12 ∧ z.1.length ≤ t + 2 ∧ ∀ y ∈ z.1, IdIn y) ∧ Own u z.2.1 z.1.length z.2.2 31 32 (z.1.flatMap zq6) ∧ (∀ y, OwnB z.2.1 y → M ≤ y) ∧ KS N u (fun u => HpIn u qc mc ∧ HpIn u qw mc) ∧ KS M u (fun u => InQ w u N os (8) q8 k8 L8 ∧ InQ w u N os (8) q9 k9 L9)) ∧ Blk u b7 29 ([.slice qc mc.length kc]) ∧ Blk u b10 29 ([.slice qw mc.length kw]) ∧ Ext No w u) ?_ ?_
   ·refine zx4 ?_
    refine zq5 (zq0 (wl_p I_ok rfl (wl (st_ix I_ok rfl 1 rfl t rfl ht2 (ao + t * 1) rfl (wl (st_ld I_ok rfl (by rw [Nat.mul_one]; exact has_ t _ hai) (wl_p I_ok rfl (zq3 (zq1 (zq5 ?_))))))))))
    refine c_cutK (α := Bool) [7, 10, 11, 12, 15, 17, 62, 63, 64] rfl (fun z => [(75, .bool z)]) (fun z u => u = w26 ∧ z = decide (t = 12 ∨ L9.length = 0)) ?_ ?_
    ·refine zq0 ?_
     refine wl_p I_ok rfl (zj4 71 rfl (fun hg => ?_) (fun hg => ?_))
     ·have hg1 : t = 12 := by omega
      refine zz5 I_ok 4 rfl (zq3 ?_)
      exact zz7 (true) rfl ⟨rfl, (decide_eq_true (.inl hg1)).symm⟩
     ·have hg1 : ¬ t = 12 := by omega
      refine zz5 I_ok 4 rfl (zq3 ?_)
      exact zz7 (_) rfl ⟨rfl, by rw [decide_eq_decide]; exact ⟨fun k => .inr (by omega), fun k => k.elim (fun k => absurd k hg1) fun k => by omega⟩⟩
    rintro z w27 ⟨hu, rfl⟩
    have hu := hu.symm
    subst hu
    refine c_if rfl (fun hc => ?_) (fun hc => ?_)
    ·refine c_exit ?_
     exact zx3 (f_blockE' rfl (zx3 (zx3 (zz0 (zz7 (A, qA, kA) rfl ⟨⟨⟨hAi, by dsimp only; omega⟩, hA, hAn, hK, hIK⟩, hb7, hb10, hX⟩)))))
    ·have hlt : t < 12 := by omega
     have hl0 : 0 < L9.length := by omega
     have hlen : L9.length < 1000000 := by omega
     have hix := ix64_lt asked[t] hl0
     obtain ⟨nb, no, hnq, hnr⟩ := hIK.now.2.own.sl.rowAll (objX_len hIns9) (by omega)
     have hi9 := hIns9 _ (List.getElem_mem hix)
     refine wc_put 12 rfl (v' := .slice (some ⟨nb, no, none⟩) L9.length k9) (by rw [hnq]) (zx7 (zq1 (zq5 (zq0 (zz5 I_ok 6 rfl (wl (st_dv I_ok rfl (u64_len hl0 hlen) ?_)))))))
     rw [show dvV false IntKind.u64 (IntKind.u64.wrap asked[t]) (IntKind.u64.wrap (L9.length : Int)) = .int .u64 ((IntKind.u64.wrap asked[t]).tmod (IntKind.u64.wrap (L9.length : Int))) from rfl]
     refine wl_p I_ok rfl ?_
     rw [ix64_eq _ hl0 hlen]
     refine wl (st_ix I_ok rfl 73 rfl (ix64 asked[t] L9.length) rfl hix (no + (ix64 asked[t] L9.length) * 73) rfl (wl (st_ldN I_ok rfl (hnr _ hix) (zq7 hi9) ?_)))
     have hRhK := hK.n
     have hRhIK := hIK.n
     refine wl (zz9 I_ok rfl fun b18 w28 hn18 hb18 hE28 => ?_)
     have ne7_18 : b7 ≠ b18 := Nat.ne_of_lt (Nat.lt_of_lt_of_le hb7.lt hn18)
     have ne10_18 : b10 ≠ b18 := Nat.ne_of_lt (Nat.lt_of_lt_of_le hb10.lt hn18)
     have fr18 := Nat.le_trans hX.size hn18
     have hb7 := hb7.zq2 hE28
     have hb10 := hb10.zq2 hE28
     have hK := hK.no hE28
     have hIK := hIK.no hE28
     have hA := hA.ext hE28 fun _ _ => id
     have hX := hX.zq4 hE28
     have fhK18 := Nat.le_trans hRhK hn18
     have fhIK18 := Nat.le_trans hRhIK hn18
     have hb18o := hb18
     refine wl (zj1 (l' := objX L9[(ix64 asked[t] L9.length)]) I_ok hb18 rfl rfl (zq7 hi9) (by rw [zq7 hi9]; rfl) OneC.h fun w29 hb18 hE29 hs29 => ?_)
     have hb7 := hb7.ext1 hE29 ne7_18
     have hb10 := hb10.ext1 hE29 ne10_18
     have hK := hK.one hE29 fhK18
     have hIK := hIK.one hE29 fhIK18
     have hA := hA.zx9 hE29 hb18o (by decide)
     have hX := hX.zx1 hE29 fr18
     refine zq3 (zq1 (zq5 (zq0 (wl (zj2 I_ok hb18 rfl (zq7 hi9) ?_)))))
     refine wl (zx2 Tryz.call20 rfl rfl rfl rfl rfl rfl (right6_calls w29 hi9 (hIK.now.2.ls _ (List.getElem_mem hix)) (hIK.now.2.shs _ (List.getElem_mem hix))) fun v30 w30 hr30 => ?_)
     obtain ⟨rfl, hE30⟩ := hr30
     have hb7 := hb7.zq2 hE30
     have hb10 := hb10.zq2 hE30
     have hb18 := hb18.zq2 hE30
     have hK := hK.no hE30
     have hIK := hIK.no hE30
     have hA := hA.ext hE30 fun _ _ => id
     have hX := hX.zq4 hE30
     refine zq3 (zq1 (c_cond rfl (fun hc => ?_) (fun hc => ?_)))
     ·have hok : ObjOk L9[(ix64 asked[t] L9.length)].1 := by simpa using hc
      refine zq0 (wl_p I_ok rfl (wl (zj2 I_ok hb18 rfl (zq7 hi9) (wl (zx2 Tryz.call21 rfl rfl rfl rfl rfl rfl (id6_calls w30 hi9 (hIK.now.2.ls _ (List.getElem_mem hix)) (bytes_of hok.1)) fun v31 w31 hr31 => ?_)))))
      obtain ⟨rfl, hE31⟩ := hr31
      have hb7 := hb7.zq2 hE31
      have hb10 := hb10.zq2 hE31
      have hK := hK.no hE31
      have hIK := hIK.no hE31
      have hA := hA.ext hE31 fun _ _ => id
      have hX := hX.zq4 hE31
      refine wl (st_bs I_ok rfl 32 rfl idZ_c.symm (by rw [zx0]; rfl) (by decide) (by decide) ⟨⟨by rw [zj9]; exact (IdIn.len (zj6 _)), by decide⟩, trivial⟩ (l' := zq6 (idOf L9[(ix64 asked[t] L9.length)].1)) (one_id (zj6 _)) fun b91 w32 hn91 hb91 hE32 hs32 => ?_)
      have fr91 := Nat.le_trans hX.size hn91
      have hb7 := hb7.zq2 hE32
      have hb10 := hb10.zq2 hE32
      have hK := hK.no hE32
      have hIK := hIK.no hE32
      have hA := hA.ext hE32 fun _ _ => id
      have hX := hX.zq4 hE32
      have hX1 := hX
      have hRIK := hIK.n
      refine wl (zv2 I_ok rfl 32 32 rfl rfl rfl (by decide) hA (Src.slice (m := 1) (one_idS (zj6 _) hb91) OneC.h) (by dsimp only; dsimp only [maxLen]; omega) (by dsimp only; omega) fun p33 c33 w33 ho33 hE33 hB33 => ?_)
      dsimp only at ho33 hE33 hB33 ⊢
      have hX := hX1.trans hE33 fun y hy hF => by have := hAn y hF; omega
      have hb7 := hb7.zq8 hA hE33 (by decide)
      have hb10 := hb10.zq8 hA hE33 (by decide)
      have hK := hK.ext hE33 fun x _ e => Nat.le_trans hNM (hAn x e)
      have hIK := hIK.ext hE33 fun x _ e => hAn x e
      obtain ⟨qn, kn, e1, e2, hAo⟩ : ∃ q2 k2, q2 = p33 ∧ k2 = c33 ∧ Own w33 q2 (A ++ [idOf L9[(ix64 asked[t] L9.length)].1]).length k2 31 32 ((A ++ [idOf L9[(ix64 asked[t] L9.length)].1]).flatMap zq6) := ⟨_, _, rfl, rfl, by rw [List.length_append, List.flatMap_append, List.flatMap_singleton]; exact ho33⟩
      rw [← e1] at hB33
      have hAn2 : ∀ y, OwnB qn y → M ≤ y := fun y hy => (hB33 y hy).elim (hAn y) fun e => Nat.le_trans hRIK e
      rw [← e1, ← e2, show A.length + 1 = (A ++ [idOf L9[(ix64 asked[t] L9.length)].1]).length from by rw [List.length_append]; rfl]
      refine wl_p I_ok rfl (zq3 (fin_put 12 rfl (v' := .slice q9 L9.length k9) (by rw [hnq]) ?_))
      exact zx6 (zz7 (A ++ [idOf L9[(ix64 asked[t] L9.length)].1], qn, kn) rfl ⟨⟨⟨hlt, by dsimp only; rw [List.length_append]; show A.length + 1 ≤ t + 2; omega, fun y hy => by rcases List.mem_append.1 hy with hy | hy; exact hAi y hy; rw [List.mem_singleton.1 hy]; exact zj6 _⟩, hAo, hAn2, hK, hIK⟩, hb7, hb10, hX⟩)
     ·refine zx7 ?_
      refine fin_put 12 rfl (v' := .slice q9 L9.length k9) (by rw [hnq]) ?_
      exact zx6 (zz7 (A, qA, kA) rfl ⟨⟨⟨hlt, by dsimp only; omega, hAi⟩, hA, hAn, hK, hIK⟩, hb7, hb10, hX⟩)
   rintro ⟨A2, qA2, kA2⟩ w34 ⟨⟨⟨hlt, hAl2, hAi2⟩, hA, hAn, hK, hIK⟩, hb7, hb10, hX⟩
   try dsimp only
   dsimp only at hAl2 hAi2 hA hAn
   refine zq0 (wl_p I_ok rfl ?_)
   rw [IntWalk.i64_in _ (by omega)]
   refine zq3 (fin_put 62 rfl (v' := .slice pa asked.length cq) (by rw [hpe]) ?_)
   exact zv1 (t + 1, A2, qA2, kA2) rfl ⟨⟨⟨⟨ht2, hlt⟩, by dsimp only; omega, hAi2⟩, hA, hAn, hK, hIK⟩, hb7, hb10, hX⟩ (by first | omega | (dsimp only; omega))
  ·refine c_exit ?_
   exact zx3 (zx3 (zz0 (zz7 (A, qA, kA) rfl ⟨⟨⟨hAi, by dsimp only; omega⟩, hA, hAn, hK, hIK⟩, hb7, hb10, hX⟩)))
 rintro ⟨A, qA, kA⟩ w35 ⟨⟨⟨hAi, hAl⟩, hA, hAn, hK, hIK⟩, hb7, hb10, hX⟩
 try dsimp only
 dsimp only at hAi hAl hA hAn
 refine zq5 (zq0 (wl (zj2 I_ok hb7 rfl rfl (wl_p I_ok rfl ?_))))
 obtain ⟨M2, hM2⟩ : ∃ N, N = w35.heap.size := ⟨_, rfl⟩
 have hNM2 : N ≤ M2 := by rw [hM2]; exact hK.n
 have hMM2 : M ≤ M2 := by rw [hM2]; exact hIK.n
 have hwM2 : w.heap.size ≤ M2 := Nat.le_trans hNw hNM2
 refine wl (zx2 Tryz.call22 rfl rfl rfl rfl rfl rfl (take_calls w35 hK.now.1 hA.sl (by omega) hAi hIK.now.1.own.sl hIns8 hIK.now.1.shs hIK.now.1.ls (by omega) (by omega) (hr.zq2 hX)) fun v36 w36 hr36 => ?_)
 obtain ⟨q4, k4, m4, rfl, hp4, hp4b, hh4, hn4, hq4, hap4, ho4, hE36⟩ := hr36
 have hb7 := hb7.zq2 hE36
 have hb10 := hb10.zq2 hE36
 have hK := hK.no hE36
 have hIK := hIK.no hE36
 have hA := hA.ext hE36 fun _ _ => id
 have hX := hX.zq4 hE36
 have hge4 : ∀ x ∈ m4, ∀ b, ObjF x.a b → M2 ≤ b := fun x hx b hb => by rw [hM2]; exact (hn4 x hx).l.ge b hb
 have hm4i : ∀ x ∈ m4, x.id.length = 32 ∧ ObjIn x.o ∧ Short x.o := fun x hx => ⟨(hn4 x hx).id, (hn4 x hx).o, (hn4 x hx).sh⟩
 have hm4c : ∀ x ∈ m4, (heldC x).length = 105 := fun x hx => heldC_len (hm4i x hx).1 (hm4i x hx).2.1
 have hm4n := hh4.len
 have hK2 : KS w36.heap.size w36 (fun u => HpIn u q4 m4 ∧ (∀ x ∈ m4, HX u x) ∧ Own u q4 m4.length k4 48 105 (m4.flatMap heldC)) := KS.mk0 fun u hE => ⟨hh4.zq2 hE, fun x hx => ((hn4 x hx).hx).zq2 hE, ho4.ext hE fun _ _ => id⟩
 obtain ⟨N2, hN2⟩ : ∃ N, N = w36.heap.size := ⟨_, rfl⟩
 rw [← hN2] at hK2
 refine wl_p I_ok rfl ?_
 have hRhK := hK.n
 have hRhIK := hIK.n
 have hRhK2 := hK2.n
 refine wl (zz9 I_ok rfl fun b19 w37 hn19 hb19 hE37 => ?_)
 have ne7_19 : b7 ≠ b19 := Nat.ne_of_lt (Nat.lt_of_lt_of_le hb7.lt hn19)
 have ne10_19 : b10 ≠ b19 := Nat.ne_of_lt (Nat.lt_of_lt_of_le hb10.lt hn19)
 have fr19 := Nat.le_trans hX.size hn19
 have hb7 := hb7.zq2 hE37
 have hb10 := hb10.zq2 hE37
 have hK := hK.no hE37
 have hIK := hIK.no hE37
 have hA := hA.ext hE37 fun _ _ => id
 have hK2 := hK2.no hE37
 have hX := hX.zq4 hE37
 have fhK19 := Nat.le_trans hRhK hn19
 have fhIK19 := Nat.le_trans hRhIK hn19
 have fhK219 := Nat.le_trans hRhK2 hn19
 have hb19o := hb19
 refine wl (zj1 (l' := [.slice q4 m4.length k4]) I_ok hb19 rfl rfl rfl rfl OneC.h fun w38 hb19 hE38 hs38 => ?_)
 have hb7 := hb7.ext1 hE38 ne7_19
 have hb10 := hb10.ext1 hE38 ne10_19
 have hK := hK.one hE38 fhK19
 have hIK := hIK.one hE38 fhIK19
 have hA := hA.zx9 hE38 hb19o (by decide)
 have hK2 := hK2.one hE38 fhK219
 have hX := hX.zx1 hE38 fr19
 refine wl_p I_ok rfl (zq3 (zq1 (zq5 (zq0 (wl (zj2 I_ok hb10 rfl rfl (wl_p I_ok rfl ?_)))))))
 refine wl (zx2 Tryz.call23 rfl rfl rfl rfl rfl rfl (take20_calls w38 hK.now.2 hA.sl (by omega) hAi hIK.now.2.own.sl hIns9 hIK.now.2.shs hIK.now.2.ls (by omega) (by omega)) fun v39 w39 hr39 => ?_)
 obtain ⟨q82, k82, m82, rfl, hw1, hw2, hh82, _, _, hE39⟩ := hr39
 have hb7 := hb7.zq2 hE39
 have hb10 := hb10.zq2 hE39
 have hb19 := hb19.zq2 hE39
 have hK := hK.no hE39
 have hIK := hIK.no hE39
 have hK2 := hK2.no hE39
 have hX := hX.zq4 hE39
 rw [takeE_fst hsm] at hw1 hw2 ⊢
 have heq : toHp m4 = toHp m82 := by
  by_cases h0 : takeE A L8 = 0
  ·rw [hp4 h0, hw1 h0, toHp_putW, hsm]
  ·rw [hp4b h0, hw2 h0]
 have hK3 : KS w39.heap.size w39 (fun u => HpIn u q82 m82) := KS.mk0 fun u hE => hh82.zq2 hE
 obtain ⟨N3x, hN3x⟩ : ∃ N, N = w39.heap.size := ⟨_, rfl⟩
 rw [← hN3x] at hK3
 refine wl_p I_ok rfl ?_
 have hRhK := hK.n
 have hRhIK := hIK.n
 have hRhK2 := hK2.n
 have hRhK3 := hK3.n
 refine wl (zz9 I_ok rfl fun b21 w40 hn21 hb21 hE40 => ?_)
 have ne7_21 : b7 ≠ b21 := Nat.ne_of_lt (Nat.lt_of_lt_of_le hb7.lt hn21)
 have ne10_21 : b10 ≠ b21 := Nat.ne_of_lt (Nat.lt_of_lt_of_le hb10.lt hn21)
 have ne19_21 : b19 ≠ b21 := Nat.ne_of_lt (Nat.lt_of_lt_of_le hb19.lt hn21)
 have fr21 := Nat.le_trans hX.size hn21
 have hb7 := hb7.zq2 hE40
 have hb10 := hb10.zq2 hE40
 have hb19 := hb19.zq2 hE40
 have hK := hK.no hE40
 have hIK := hIK.no hE40
 have hK2 := hK2.no hE40
 have hK3 := hK3.no hE40
 have hX := hX.zq4 hE40
 have fhK21 := Nat.le_trans hRhK hn21
 have fhIK21 := Nat.le_trans hRhIK hn21
 have fhK221 := Nat.le_trans hRhK2 hn21
 have fhK321 := Nat.le_trans hRhK3 hn21
 refine wl (zj1 (l' := [.slice q82 m82.length k82]) I_ok hb21 rfl rfl rfl rfl OneC.h fun w41 hb21 hE41 hs41 => ?_)
 have hb7 := hb7.ext1 hE41 ne7_21
 have hb10 := hb10.ext1 hE41 ne10_21
 have hb19 := hb19.ext1 hE41 ne19_21
 have hK := hK.one hE41 fhK21
 have hIK := hIK.one hE41 fhIK21
 have hK2 := hK2.one hE41 fhK221
 have hK3 := hK3.one hE41 fhK321
 have hX := hX.zx1 hE41 fr21
 refine wl_p I_ok rfl (zq3 (zq1 (zq5 ?_)))
 refine c_cutK (α := Bool) [7, 10, 11, 12, 19] rfl (fun z => [(122, .bool z)]) (fun z u => (z = false ∧ KS N u (fun u => HpIn u qc mc ∧ HpIn u qw mc) ∧ KS M u (fun u => InQ w u N os (8) q8 k8 L8 ∧ InQ w u N os (8) q9 k9 L9) ∧ KS N2 u (fun u => HpIn u q4 m4 ∧ (∀ x ∈ m4, HX u x) ∧ Own u q4 m4.length k4 48 105 (m4.flatMap heldC))) ∧ Blk u b7 29 ([.slice qc mc.length kc]) ∧ Blk u b10 29 ([.slice qw mc.length kw]) ∧ Blk u b19 29 ([.slice q4 m4.length k4]) ∧ Ext No w u) ?_ ?_
 ·refine zq0 ?_
  refine wl_p I_ok rfl (zj4 111 rfl (fun hg => ?_) (fun hg => ?_))
  ·exact absurd rfl hg
  ·refine wl (zj2 I_ok hb19 rfl rfl ?_)
   refine wl (zj2 I_ok hb21 rfl rfl (wl (zx2 Tryz.call18 rfl rfl rfl rfl rfl rfl (sameHeap_calls w41 hK2.now.1 hK3.now) fun v42 w42 hr42 => ?_)))
   obtain ⟨rfl, hE42⟩ := hr42
   have hb7 := hb7.zq2 hE42
   have hb10 := hb10.zq2 hE42
   have hb19 := hb19.zq2 hE42
   have hK := hK.no hE42
   have hIK := hIK.no hE42
   have hK2 := hK2.no hE42
   have hX := hX.zq4 hE42
   rw [show decide (toHp m4 = toHp m82) = true from decide_eq_true heq]
   refine zz5 I_ok 3 rfl (wl_case 117 rfl (fun hg => ?_) (fun hg => ?_))
   ·exact absurd hg (by decide)
   ·refine wl (zj2 I_ok hb7 rfl rfl ?_)
    refine wl (zj2 I_ok hb10 rfl rfl (wl (zx2 Tryz.call18 rfl rfl rfl rfl rfl rfl (sameHeap_calls w42 hK.now.1 hK.now.2) fun v43 w43 hr43 => ?_)))
    obtain ⟨rfl, hE43⟩ := hr43
    have hb7 := hb7.zq2 hE43
    have hb10 := hb10.zq2 hE43
    have hb19 := hb19.zq2 hE43
    have hK := hK.no hE43
    have hIK := hIK.no hE43
    have hK2 := hK2.no hE43
    have hX := hX.zq4 hE43
    rw [show decide (toHp mc = toHp mc) = true from decide_eq_true rfl]
    refine zz5 I_ok 2 rfl (zq3 ?_)
    exact zz7 (false) rfl ⟨⟨rfl, hK, hIK, hK2⟩, hb7, hb10, hb19, hX⟩
 rintro z w44 ⟨⟨rfl, hK, hIK, hK2⟩, hb7, hb10, hb19, hX⟩
 refine c_condF rfl (zx7 (zq1 (zq5 (zq5 (zq0 (wl_p I_ok rfl (wl (st_ldb I_ok hb19 rfl rfl (wl_p I_ok rfl (zq3 (zq1 (zx4 ?_))))))))))))
 refine zv3 (α := Nat) [7, 10, 11, 12, 124, 125] rfl (fun z => [(126, .int .i64 (z : Int))]) (fun z u => (z ≤ m4.length ∧ KS N u (fun u => HpIn u qc mc ∧ HpIn u qw mc) ∧ KS M u (fun u => InQ w u N os (8) q8 k8 L8 ∧ InQ w u N os (8) q9 k9 L9) ∧ (∀ x ∈ m4.drop z, HX u x) ∧ Own u q4 m4.length k4 48 105 (m4.flatMap heldC)) ∧ Blk u b7 29 ([.slice qc mc.length kc]) ∧ Blk u b10 29 ([.slice qw mc.length kw]) ∧ Blk u b19 29 ([.slice q4 m4.length k4]) ∧ Ext No w u) (fun z u => m4.length - z) (0) rfl ⟨⟨Nat.zero_le _, hK, hIK, fun x hx => hK2.now.2.1 x (by simpa using hx), hK2.now.2.2⟩, hb7, hb10, hb19, hX⟩ ?_
 rintro j w45 ⟨⟨hj, hK, hIK, hHX, ho4⟩, hb7, hb10, hb19, hX⟩
 refine zq5 (zq0 (wl_p I_ok rfl (zq3 (zq1 (zq5 (c_if rfl (fun hc => ?_) (fun hc => ?_)))))))
 ·have hj2 : j < m4.length := by omega
  obtain ⟨nb, no, hnq, hnr⟩ := ho4.sl.rowAll hm4c (by omega)
  have hmi := hm4i _ (List.getElem_mem hj2)
  have hmg := hge4 _ (List.getElem_mem hj2)
  have hJ : KS w45.heap.size w45 (fun u => (∀ x ∈ m4.drop j, HX u x) ∧ Own u q4 m4.length k4 48 105 (m4.flatMap heldC)) := KS.mk0 fun u hE => ⟨fun x hx => (hHX x hx).zq2 hE, ho4.ext hE fun _ _ => id⟩
  obtain ⟨N3, hN3⟩ : ∃ N, N = w45.heap.size := ⟨_, rfl⟩
  rw [← hN3] at hJ
  refine wc_put 124 rfl (v' := .slice (some ⟨nb, no, none⟩) m4.length k4) (by rw [hnq]) (zx7 (zq1 (zq5 (zx4 (zq5 (zq0 (wl (st_ix I_ok rfl 105 rfl j rfl (by omega) (no + j * 105) rfl ?_))))))))
  refine wl (st_ldN I_ok rfl (hnr j hj2) (hm4c _ (List.getElem_mem hj2)) ?_)
  have hRhK := hK.n
  have hRhIK := hIK.n
  have hRhJ := hJ.n
  refine wl (zz9 I_ok rfl fun b24 w46 hn24 hb24 hE46 => ?_)
  have ne7_24 : b7 ≠ b24 := Nat.ne_of_lt (Nat.lt_of_lt_of_le hb7.lt hn24)
  have ne10_24 : b10 ≠ b24 := Nat.ne_of_lt (Nat.lt_of_lt_of_le hb10.lt hn24)
  have ne19_24 : b19 ≠ b24 := Nat.ne_of_lt (Nat.lt_of_lt_of_le hb19.lt hn24)
  have fr24 := Nat.le_trans hX.size hn24
  have hb7 := hb7.zq2 hE46
  have hb10 := hb10.zq2 hE46
  have hb19 := hb19.zq2 hE46
  have hK := hK.no hE46
  have hIK := hIK.no hE46
  have hJ := hJ.no hE46
  have hX := hX.zq4 hE46
  have fhK24 := Nat.le_trans hRhK hn24
  have fhIK24 := Nat.le_trans hRhIK hn24
  have fhJ24 := Nat.le_trans hRhJ hn24
  refine wl (zj1 (l' := heldC m4[j]) I_ok hb24 rfl rfl (hm4c _ (List.getElem_mem hj2)) (by rw [hm4c _ (List.getElem_mem hj2)]; rfl) OneC.h fun w47 hb24 hE47 hs47 => ?_)
  have hb7 := hb7.ext1 hE47 ne7_24
  have hb10 := hb10.ext1 hE47 ne10_24
  have hb19 := hb19.ext1 hE47 ne19_24
  have hK := hK.one hE47 fhK24
  have hIK := hIK.one hE47 fhIK24
  have hJ := hJ.one hE47 fhJ24
  have hX := hX.zx1 hE47 fr24
  refine zq3 (zq1 (zq5 (zq0 (wl_p I_ok rfl ?_))))
  obtain ⟨hHX, ho4⟩ := hJ.now
  have hlx : OwnX w47 m4[j].a.lp m4[j].o.leaves.length m4[j].a.lc 56 33 := (hHX _ (by rw [List.drop_eq_getElem_cons hj2]; exact List.mem_cons_self)).1
  have hHX2 : (∀ x ∈ m4.drop (j + 1), HX w47 x) := fun x hx => hHX x (by rw [List.drop_eq_getElem_cons hj2]; exact List.mem_cons_of_mem _ hx)
  have hll := hmi.2.2.leaves
  refine wl (st_ld I_ok rfl ((held_obj hb24.seg hmi.1).obj hmi.2.1).leaves (wl_p I_ok rfl (zq3 (zq1 (zx4 ?_)))))
  refine zv3 (α := Nat) [7, 10, 11, 12, 24, 124, 125, 126, 133] rfl (fun z => [(134, .int .i64 (z : Int))]) (fun z u => (z ≤ m4[j].o.leaves.length ∧ KS N u (fun u => HpIn u qc mc ∧ HpIn u qw mc) ∧ KS M u (fun u => InQ w u N os (8) q8 k8 L8 ∧ InQ w u N os (8) q9 k9 L9) ∧ (∀ x ∈ m4.drop (j + 1), HX u x) ∧ Own u q4 m4.length k4 48 105 (m4.flatMap heldC) ∧ OwnX u m4[j].a.lp m4[j].o.leaves.length m4[j].a.lc 56 33) ∧ Blk u b7 29 ([.slice qc mc.length kc]) ∧ Blk u b10 29 ([.slice qw mc.length kw]) ∧ Blk u b19 29 ([.slice q4 m4.length k4]) ∧ Blk u b24 48 (heldC m4[j]) ∧ Ext No w u) (fun z u => m4[j].o.leaves.length - z) (0) rfl ⟨⟨Nat.zero_le _, hK, hIK, hHX2, ho4, hlx⟩, hb7, hb10, hb19, hb24, hX⟩ ?_
  rintro t w48 ⟨⟨ht, hK, hIK, hHX2, ho4, hlx⟩, hb7, hb10, hb19, hb24, hX⟩
  refine zq5 (zq0 (wl_p I_ok rfl (zq3 (zq1 (zq5 (c_if rfl (fun hc => ?_) (fun hc => ?_)))))))
  ·have ht2 : t < m4[j].o.leaves.length := by omega
   obtain ⟨xs, hxs⟩ := hlx
   obtain ⟨bl, LL, hpe2, hbl, hL, hnc, hcm, htk⟩ := hxs.opened (by omega)
   have hblM : M2 ≤ bl := hmg bl (.inl hpe2)
   refine zx7 (zq1 (zq5 (zx4 (zq5 (zq0 (wl_p I_ok rfl (zq3 (zq1 (zq0 (wl_p I_ok rfl (wl (st_ld I_ok rfl ((held_obj hb24.seg hmi.1).obj hmi.2.1).leaves ?_))))))))))))
   refine wl_put 139 rfl (v' := .slice (some ⟨bl, 0, none⟩) m4[j].o.leaves.length m4[j].a.lc) (by rw [hpe2]) (wl_p I_ok rfl (wl (st_ix I_ok rfl 33 rfl t rfl ht2 (0 + t * 33) rfl ?_)))
   rw [Nat.zero_add]
   refine wl_p I_ok rfl ?_
   have hblo := hbl
   have hXo := hX
   refine wl (st_set I_ok hbl rfl rfl (by rw [hL]; have := Nat.mul_le_mul_right 33 hnc; omega) fun w49 hbl hE49 hs49 => ?_)
   have hX := hXo.zx1 hE49 (by omega)
   have hb7 := hb7.ext1 hE49 (hb7.ne hblo (by decide))
   have hb10 := hb10.ext1 hE49 (hb10.ne hblo (by decide))
   have hb19 := hb19.ext1 hE49 (hb19.ne hblo (by decide))
   have hb24 := hb24.ext1 hE49 (hb24.ne hblo (by decide))
   have hK := hK.one hE49 (Nat.le_trans hNM2 hblM)
   have hIK := hIK.one hE49 (Nat.le_trans hMM2 hblM)
   have ho4 := ho4.zx9 hE49 hblo (by decide)
   have hHX2 : (∀ x ∈ m4.drop (j + 1), HX w49 x) := fun x hx => (hHX2 x hx).ext hE49 fun b hb e => hap4.rest hj2 x hx b hb (.inl (by rw [hpe2, show b = bl from e]))
   have hlx : OwnX w49 m4[j].a.lp m4[j].o.leaves.length m4[j].a.lc 56 33 := ⟨_, by rw [hpe2]; exact Own.setB hL hnc hcm htk hbl⟩
   refine zq3 (zx6 (zq1 (zq0 (wl_p I_ok rfl ?_))))
   rw [IntWalk.i64_in _ (by omega)]
   refine zq3 ?_
   exact zv1 (t + 1) rfl ⟨⟨ht2, hK, hIK, hHX2, ho4, hlx⟩, hb7, hb10, hb19, hb24, hX⟩ (by first | omega | (dsimp only; omega))
  ·refine c_exit ?_
   refine zx3 (zx3 (zz0 (zx6 (zq1 (zq0 (wl_p I_ok rfl ?_))))))
   rw [IntWalk.i64_in _ (by omega)]
   refine zq3 (fin_put 124 rfl (v' := .slice q4 m4.length k4) (by rw [hnq]) ?_)
   exact zv1 (j + 1) rfl ⟨⟨hj2, hK, hIK, hHX2, ho4⟩, hb7, hb10, hb19, hX⟩ (by first | omega | (dsimp only; omega))
 ·refine c_exit ?_
  refine zx3 (zx3 (zz0 (zq1 (zq5 (zq5 (zq0 (wl_p I_ok rfl (zq3 (zq1 (zx4 ?_))))))))))
  refine zv3 (α := Nat) [7, 10, 11, 12, 146] rfl (fun z => [(147, .int .i64 (z : Int))]) (fun z u => (z ≤ L8.length ∧ KS N u (fun u => HpIn u qc mc ∧ HpIn u qw mc) ∧ KS M u (fun u => InQ w u N os (8) q8 k8 L8 ∧ InQ w u N os (8) q9 k9 L9)) ∧ Blk u b7 29 ([.slice qc mc.length kc]) ∧ Blk u b10 29 ([.slice qw mc.length kw]) ∧ Blk u b19 29 ([.slice q4 m4.length k4]) ∧ Ext No w u) (fun z u => L8.length - z) (0) rfl ⟨⟨Nat.zero_le _, hK, hIK⟩, hb7, hb10, hb19, hX⟩ ?_
  rintro j w50 ⟨⟨hj, hK, hIK⟩, hb7, hb10, hb19, hX⟩
  refine zq5 (zq0 (wl_p I_ok rfl (zq3 (zq1 (zq5 (c_if rfl (fun hc => ?_) (fun hc => ?_)))))))
  ·have hj8 : j < L8.length := by omega
   have hj9 : j < L9.length := by omega
   obtain ⟨nb, no, hnq, hnr⟩ := hIK.now.2.own.sl.rowAll (objX_len hIns9) (by omega)
   obtain ⟨pb, po8, hpq, hpr⟩ := hIK.now.1.own.sl.rowAll (objX_len hIns8) (by omega)
   have hi9 := hIns9 _ (List.getElem_mem hj9)
   have hi8 := hIns8 _ (List.getElem_mem hj8)
   refine wc_put 12 rfl (v' := .slice (some ⟨nb, no, none⟩) L9.length k9) (by rw [hnq]) (wc_put 11 rfl (v' := .slice (some ⟨pb, po8, none⟩) L8.length k8) (by rw [hpq]) (zx7 (zq1 (zq5 (zx4 (zq5 (zq0 (wl_p I_ok rfl ?_))))))))
   refine zq3 (zq1 (zq5 (c_draw rfl 10 [(0, true), (1, true), (2, true), (3, true), (4, true), (5, true), (6, true), (7, true), (8, false), (9, true)] [] (No) (by kernel_rfl) fun w51 hE51 hs51 => ?_)))
   have hb7 := hb7.zq2 hE51
   have hb10 := hb10.zq2 hE51
   have hb19 := hb19.zq2 hE51
   have hK := hK.no hE51
   have hIK := hIK.no hE51
   have hX := hX.zq4 hE51
   have hC : Ext (No) _ w51 := hE51.no
   refine wd_k I_ok 2 rfl (wd_ix I_ok rfl rfl 73 rfl j rfl hj8 (po8 + j * 73) rfl (wd_ldN I_ok rfl rfl (fun w' hw' => ((hpr j hj8).zq2 hw')) (zq7 hi8) ?_))
   refine wd_k I_ok 2 rfl (wd_ix I_ok rfl rfl 73 rfl j rfl hj9 (no + j * 73) rfl (wd_ldN I_ok rfl rfl (fun w' hw' => ((hnr j hj9).zq2 hw')) (zq7 hi9) ?_))
   refine wd_l rfl (zx2 Tryz.call17 rfl rfl rfl rfl rfl rfl (same6_calls w51 hi8 hi9 (hIK.now.1.ls _ (List.getElem_mem hj8)) (hIK.now.2.ls _ (List.getElem_mem hj9)) (hIK.now.1.shs _ (List.getElem_mem hj8))) fun v52 w52 hr52 => ⟨(by obtain ⟨rfl, hE52⟩ := hr52; exact hC.zq4 hE52), ?_⟩)
   obtain ⟨rfl, hE52⟩ := hr52
   have hb7 := hb7.zq2 hE52
   have hb10 := hb10.zq2 hE52
   have hb19 := hb19.zq2 hE52
   have hK := hK.no hE52
   have hIK := hIK.no hE52
   have hX := hX.zq4 hE52
   rw [show decide ((L8[j]).1 = (L9[j]).1) = true from decide_eq_true (fst_get hsm hj9 hj8).symm]
   refine wd_k I_ok 1 rfl (wd_sw (zv0 (zq1 (c_condF rfl (zx7 (zx6 (zq1 (zq0 (wl_p I_ok rfl ?_)))))))))
   rw [IntWalk.i64_in _ (by omega)]
   refine zq3 (fin_put 12 rfl (v' := .slice q9 L9.length k9) (by rw [hnq]) (fin_put 11 rfl (v' := .slice q8 L8.length k8) (by rw [hpq]) ?_))
   exact zv1 (j + 1) rfl ⟨⟨hj8, hK, hIK⟩, hb7, hb10, hb19, hX⟩ (by first | omega | (dsimp only; omega))
  ·refine c_exit ?_
   refine zx3 (zx3 (zz0 (zq1 (zq5 (zq0 (wl (zj2 I_ok hb7 rfl rfl (wl (zj2 I_ok hb10 rfl rfl (wl (zx2 Tryz.call18 rfl rfl rfl rfl rfl rfl (sameHeap_calls w50 hK.now.1 hK.now.2) fun v53 w53 hr53 => ?_)))))))))))
   obtain ⟨rfl, hE53⟩ := hr53
   have hX := hX.zq4 hE53
   rw [show decide (toHp mc = toHp mc) = true from decide_eq_true rfl]
   refine wl_p I_ok rfl (zq3 (zq1 (zj0 (zz2 rfl rfl ?_))))
   exact ⟨rfl, hX⟩
end Go.Proofs.YtpcdihkcenfgkaaGreatDoor
namespace Go.Vc
open Go.WideShapes Go.ChangeShapes Go.RowKit
section
variable {H : Type} {enc : TypeId × Value → H} {P : Program} {w w' : World}
theorem Ext.sameAt (hE : Ext No w w') {p : MemPlace} (hp : p.block < w.heap.size) : w.sameAt w' p := by
 cases p with
 | cell b off =>
  have := hE.same b hp id
  show w'.cell? ⟨b, off, none⟩ = w.cell? ⟨b, off, none⟩
  unfold World.cell?
  rw [this]
 | map b => exact hE.same b hp id
theorem trodAll_carry {base : Nat} {sp : Nat → Bool} {held : Bool} : ∀ {ts : List TypeId} {vs : List Value} {ds : List (DataW H)} {ps : List MemPlace}, DataW.TrodAll enc P w base sp held ts vs ds ps → (∀ p ∈ ps, w.sameAt w' p) → DataW.TrodAll enc P w' base sp held ts vs ds ps
 | [], [], [], _, h, _ => h
 | _ :: _, _ :: _, _ :: _, _, ⟨p, q, ⟨n, h1⟩, h2, e⟩, hs => ⟨p, q, ⟨n, DataW.trod_carry n _ _ _ h1 fun x hx => hs x (by rw [e]; exact List.mem_append_left _ hx)⟩, trodAll_carry h2 fun x hx => hs x (by rw [e]; exact List.mem_append_right _ hx), e⟩
theorem post_of_old {f : Func} {s : ChangeSpec} {apart fresh handsOn again : Bool} {W W' : World} {args : Array Value} {v : Value} {ds gs : List (DataW H)} {before pa pv : List MemPlace}
  (hW : DataW.Whole enc P f.params.toList s.vars apart W args.toList ds gs before)
  (hres : ∀ (b : Nat) (sp : Nat → Bool) (hd : Bool), DataW.TrodAll enc P W' b sp hd f.resultTypes.toList (v.resultList f.resultTypes.size) (s.fn H (ds ++ gs)).results [])
  (hargs : ∀ sp : Nat → Bool, (∀ p ∈ before, sp p.block = true) → DataW.TrodAll enc P W' 0 sp true f.params.toList args.toList (s.fn H (ds ++ gs)).args pa)
  (hvars : ∀ sp : Nat → Bool, (∀ p ∈ before, sp p.block = true) → DataW.TrodVars enc P W' sp s.vars (s.fn H (ds ++ gs)).vars pv)
  (hps : before = pa ++ pv) (hk : W.keptBut W' (· ∈ before)) (hfz : ∀ a : Addr, a.block < W.heap.size → W'.frozen? a = W.frozen? a)
  (hok : ∀ (j : Nat) (t : TypeId) (r : Value), f.resultTypes[j]? = some t → (v.resultList f.resultTypes.size)[j]? = some r → Value.okWide P W' .any 0 t r) :
  s.post enc P f apart fresh handsOn again W args v W' := by
 have hlt : ∀ p ∈ before, p.block < W.heap.size := fun p hp => hW.lt p hp
 have hold : ∀ p ∈ before, (fun b => decide (b < W.heap.size)) p.block = true := fun p hp => by simpa using hlt p hp
 have e1 : ∀ p, p ∈ [] ++ pa ++ pv ↔ p ∈ before := fun p => by rw [hps, List.nil_append]
 refine ⟨ds, gs, before, [], pa, pv, hW, hres _ _ _, hargs _ hold, hvars _ hold, World.keptBut_mono (fun p hp => ⟨hp, .inr (List.mem_append.1 (hps ▸ hp))⟩) hk, fun _ => ?_⟩
 obtain ⟨_, _, _, _, _, hz, hn⟩ := hW
 refine ⟨hok, _, _, ([] ++ pa) ++ pv, ⟨[] ++ pa, pv, trodAll_append (hargs _ (fun _ _ => rfl)) (hres _ _ _), hvars _ (fun _ _ => rfl), rfl, fun b off hp => ?_, fun ha => ?_⟩, fun p hp _ => (e1 p).1 hp⟩
 ·have hb := (e1 _).1 hp
  rw [hfz _ (hlt _ hb)]
  exact hz b off hb
 ·have := hn ha
  rw [hps] at this
  exact this
theorem post_true {f : Func} {s : ChangeSpec} {fresh handsOn again : Bool} {W W' : World} {args : Array Value} {ds gs : List (DataW H)} {before : List MemPlace} (hl : laidOutB P = true) (hm : mapsRowed P = true) (hz : ((List.range P.types.size).all fun t => match P.underlying t with | some (.slice e) => decide (0 < P.cellsOf e) | _ => true) = true)
  (hW : DataW.Whole enc P f.params.toList s.vars false W args.toList ds gs before) (hv : s.vars = []) (hts : f.params.toList.all (fun t => decide (t < P.types.size)) = true)
  {tb : TypeId} (hrt : f.resultTypes = #[tb]) (htb : P.underlying tb = some .bool) (hr : (s.fn H (ds ++ gs)).results = [.lit (.bool true)]) (ha : (s.fn H (ds ++ gs)).args = ds) (hvr : (s.fn H (ds ++ gs)).vars = []) (hE : Ext No W W') :
  s.post enc P f false fresh handsOn again W args (.bool true) W' := by
 have hW0 := hW
 obtain ⟨p, q, hA, hV, rfl, _, _⟩ := hW
 rw [hv] at hV
 obtain ⟨rfl, rfl⟩ := trodVars_none hV
 refine post_of_old (pa := p) (pv := []) hW0 (fun _ _ _ => ?_) (fun sp hsp => ?_) (fun _ _ => ?_) (by simp) (World.keptBut_mono (fun _ f => f.elim) (hE.kept fun _ _ => id)) (fun a ha => hE.froz ha id) ?_
 ·rw [hrt, hr]
  exact trodAll_cons_mk (RowKit.shut_bool htb true) trodAll_mk0
 ·rw [ha]
  refine trodAll_carry (hA.respare (kids_rows hl hm) (slices_full_of P hz) (fun t ht => by simpa using List.all_eq_true.1 hts t ht) fun x hx => hsp x (by simpa using hx)) fun x hx => ?_
  exact hE.sameAt (hA.lt x hx)
 ·rw [hv, hvr]; rfl
 ·exact ok_one hrt rfl (RowKit.okWide_bool_mk htb true)
theorem cells?_seg {a : Addr} {m : Nat} {r : List Value} (h : w.cells? 0 a m = some r) (hm : 0 < m) : a = ⟨a.block, a.off, none⟩ ∧ r.length = m ∧ Seg w a.block a.off r ∧ a.block < w.heap.size := by
 have hlt := World.cells?_block h hm
 unfold World.cells? at h
 rw [if_pos (Nat.zero_le _)] at h
 have hlen := mapM_some_length h
 have hget : ∀ i, i < m → w.cell? (a.add i) = r[i]? := fun i hi => mapM_some_get h i i (by simp [hi])
 simp only [List.length_range] at hlen
 have hspot : a.spot = none := by
  have h0 := hget 0 hm
  have hr0 : r[0]? = some r[0] := by simp
  rw [hr0] at h0
  have e : a.add 0 = a := by simp [Addr.add]
  rw [e] at h0
  unfold World.cell? at h0
  split at h0
  ·split at h0
   ·cases h0
   ·rename_i hs; simpa using hs
  ·cases h0
 have ha : a = ⟨a.block, a.off, none⟩ := by rw [← hspot]
 refine ⟨ha, hlen, fun i v hv => ?_, hlt⟩
 have hi : i < m := by
  have := (List.getElem?_eq_some_iff.1 hv).1
  omega
 have hi' := hget i hi
 rw [hv] at hi'
 have e : a.add i = ⟨a.block, a.off + i, none⟩ := by rw [ha]; exact addr_add _ _ _
 rw [e] at hi'
 exact hi'
theorem rows_seg {b m : Nat} : ∀ {L : List (List Value)} {off : Nat}, Uni m L → (∀ (i : Nat) (r : List Value), L[i]? = some r → Seg w b (off + i * m) r) → Seg w b off L.flatten
 | [], _, _, _ => fun i v hv => by simp at hv
 | r :: L, off, hu, h => by
  rw [List.flatten_cons, Seg.append]
  have hr := hu r (by simp)
  refine ⟨by simpa using h 0 r rfl, ?_⟩
  rw [hr]
  refine rows_seg (fun x hx => hu x (by simp [hx])) fun i x hx => ?_
  have := h (i + 1) x (by simpa using hx)
  rwa [show off + (i + 1) * m = off + m + i * m from by rw [Nat.succ_mul]; omega] at this
theorem open_rows {sp : Nat → Bool} {held : Bool} {fuel : Nat} {t e m : Nat} {cs : List Value} {x : DataW H × List MemPlace} (ht : P.underlying t = some (.slice e)) (hm : P.cellsOf e = m) (hm0 : 0 < m) (h : DataW.trod enc P w 0 sp held fuel t cs = some x) :
  ∃ (p : Option Addr) (n c : Nat) (L : List (List Value)), cs = [.slice p n c] ∧ n ≤ c ∧ c ≤ maxLen ∧ L.length = n ∧ Uni m L ∧ Sl w p n m L.flatten ∧ (n ≠ 0 → ∀ b off, p = some ⟨b, off, none⟩ → b < w.heap.size) ∧
   ∀ r ∈ L, ∃ k y, DataW.trod enc P w 0 sp held k e r = some y := by
 subst hm
 rcases DataW.trod_slice ht h with ⟨hcs, _⟩ | ⟨a, len, cap, elems, rest, n, _, hcs, _, _, hl, hc, hlen, hel, _⟩
 ·exact ⟨none, 0, 0, [], hcs, Nat.le_refl _, by unfold maxLen; omega, rfl, Uni.nil _, Sl.nil _ _ _, fun h => absurd rfl h, fun r hr => by cases hr⟩
 ·have hrow : ∀ i, i < len → ∃ r y, w.cells? 0 (a.add (i * P.cellsOf e)) (P.cellsOf e) = some r ∧ DataW.trod enc P w 0 sp held n e r = some y := by
   intro i hi
   have := hel i hi
   rw [List.getElem?_eq_getElem (by omega), Option.bind_eq_some_iff] at this
   obtain ⟨r, h1, h2⟩ := this
   exact ⟨r, _, h1, h2⟩
  have hrow' : ∀ i : _root_.Fin len, ∃ r y, w.cells? 0 (a.add (i.1 * P.cellsOf e)) (P.cellsOf e) = some r ∧ DataW.trod enc P w 0 sp held n e r = some y := fun i => hrow i.1 i.2
  let L : List (List Value) := List.ofFn fun i : _root_.Fin len => Classical.choose (hrow' i)
  have hL : ∀ (i : Nat) (r : List Value), L[i]? = some r → i < len ∧ w.cells? 0 (a.add (i * P.cellsOf e)) (P.cellsOf e) = some r ∧ ∃ y, DataW.trod enc P w 0 sp held n e r = some y := by
   intro i r hr
   have hi : i < len := by
    have := (List.getElem?_eq_some_iff.1 hr).1
    simpa [L] using this
   have : r = Classical.choose (hrow' ⟨i, hi⟩) := by
    simp only [L, List.getElem?_ofFn, hi, dif_pos, Option.some.injEq] at hr
    exact hr.symm
   subst this
   obtain ⟨y, h1, h2⟩ := Classical.choose_spec (hrow' ⟨i, hi⟩)
   exact ⟨hi, h1, y, h2⟩
  have hLlen : L.length = len := by simp [L]
  have hu : Uni (P.cellsOf e) L := fun r hr => by
   obtain ⟨i, hi, rfl⟩ := List.mem_iff_getElem.1 hr
   have := hL i L[i] (by simp)
   exact (cells?_seg this.2.1 hm0).2.1
  refine ⟨some a, len, cap, L, hcs, hl, hc, hLlen, hu, ⟨by rw [rows_length hu, hLlen], ?_⟩, ?_, fun r hr => ?_⟩
  ·rcases Nat.eq_zero_or_pos len with h0 | h0
   ·exact .inl h0
   ·right
    have h00 := hL 0 L[0] (by simp)
    have e0 : a.add (0 * P.cellsOf e) = a := by simp [Addr.add]
    rw [e0] at h00
    have ha := (cells?_seg h00.2.1 hm0).1
    refine ⟨a.block, a.off, congrArg some ha, rows_seg hu fun i r hr => ?_⟩
    have hi := hL i r hr
    have := (cells?_seg hi.2.1 hm0).2.2.1
    have e1 : a.add (i * P.cellsOf e) = ⟨a.block, a.off + i * P.cellsOf e, none⟩ := by
     conv => lhs; rw [ha]
     exact addr_add _ _ _
    rw [e1] at this
    exact this
  ·intro hn b off hb
   have h00 := hL 0 (L[0]'(by omega)) (by simp)
   have e0 : a.add (0 * P.cellsOf e) = a := by simp [Addr.add]
   rw [e0] at h00
   have := (cells?_seg h00.2.1 hm0).2.2.2
   simp only [Option.some.injEq] at hb
   rw [hb] at this
   exact this
  ·obtain ⟨i, hi, rfl⟩ := List.mem_iff_getElem.1 hr
   obtain ⟨_, _, y, hy⟩ := hL i L[i] (by simp)
   exact ⟨n, y, hy⟩
end
end Go.Vc
namespace Go.Proofs.YtpcdihkcenfgkaaGreatDoor
open Go.Vc Go.WideShapes Go.ChangeShapes
section
variable {H : Type} {enc : TypeId × Value → H} {W : World} {sp : Nat → Bool} {held : Bool}
theorem list_of {α β : Type} {R : α → β → Prop} : ∀ (L : List β), (∀ r ∈ L, ∃ a, R a r) → ∃ l : List α, l.length = L.length ∧ ∀ (i : Nat) (a : α) (r : β), l[i]? = some a → L[i]? = some r → R a r
 | [], _ => ⟨[], rfl, fun i a r h => by simp at h⟩
 | r :: L, h => by
  obtain ⟨a, ha⟩ := h r (by simp)
  obtain ⟨l, h1, h2⟩ := list_of L fun x hx => h x (by simp [hx])
  refine ⟨a :: l, by simp [h1], fun i b x hb hx => ?_⟩
  cases i with
  | zero => simp at hb hx; subst hb; subst hx; exact ha
  | succ i => exact h2 i b x (by simpa using hb) (by simpa using hx)
theorem open_list {α : Type} {cells : α → List Value} {ok : α → Prop} {fuel t e m : Nat} {cs : List Value} {x : DataW H × List MemPlace} (ht : Tryz.prog.underlying t = some (.slice e)) (hm : Tryz.prog.cellsOf e = m) (hm0 : 0 < m)
  (hrow : ∀ {k : Nat} {r : List Value} {y : DataW H × List MemPlace}, DataW.trod enc Tryz.prog W 0 sp held k e r = some y → ∃ a, r = cells a ∧ ok a)
  (h : DataW.trod enc Tryz.prog W 0 sp held fuel t cs = some x) :
  ∃ (p : Option Addr) (l : List α) (c : Nat), cs = [.slice p l.length c] ∧ l.length ≤ c ∧ c ≤ maxLen ∧ Sl W p l.length m (l.flatMap cells) ∧ (∀ a ∈ l, ok a) ∧ (l ≠ [] → ∀ b off, p = some ⟨b, off, none⟩ → b < W.heap.size) := by
 obtain ⟨p, n, c, L, rfl, hn, hc, hL, hu, hs, hlt, hr⟩ := open_rows ht hm hm0 h
 obtain ⟨l, h1, h2⟩ := list_of (R := fun a r => r = cells a ∧ ok a) L fun r hr' => by
  obtain ⟨k, y, hy⟩ := hr r hr'
  exact hrow hy
 have e : L = l.map cells := by
  apply List.ext_getElem?
  intro i
  rw [List.getElem?_map]
  by_cases hi : i < l.length
  ·have hi' : i < L.length := by omega
   have := (h2 i l[i] L[i] (by simp) (by simp)).1
   simp [hi, hi', this]
  ·rw [List.getElem?_eq_none (by omega), List.getElem?_eq_none (by omega)]; rfl
 have hln : l.length = n := by omega
 subst hln
 refine ⟨p, l, c, rfl, hn, hc, by rw [List.flatMap_def, ← e]; exact hs, fun a ha => ?_, fun hne => hlt fun h0 => hne (List.eq_nil_of_length_eq_zero h0)⟩
 obtain ⟨i, hi, rfl⟩ := List.mem_iff_getElem.1 ha
 have hi' : i < L.length := by omega
 exact (h2 i l[i] L[i] (by simp) (by simp)).2
theorem open_byte {fuel : Nat} {cs : List Value} {x : DataW H × List MemPlace} (h : DataW.trod enc Tryz.prog W 0 sp held fuel 5 cs = some x) : ∃ b : UInt8, cs = [byteV b] := by
 obtain ⟨n, rfl, _, hw⟩ := DataW.trod_int Tryz.underlying5 h
 have hw : 0 ≤ n ∧ n ≤ 255 := by simpa [Lit.wf, IntKind.min, IntKind.max, IntKind.signed, IntKind.bits] using hw
 refine ⟨UInt8.ofNat n.toNat, ?_⟩
 show _ = [Value.int .u8 ((UInt8.ofNat n.toNat).toNat : Int)]
 have e : (UInt8.ofNat n.toNat).toNat = n.toNat := UInt8.toNat_ofNat_of_lt' (by show n.toNat < 256; omega)
 rw [e, Int.toNat_of_nonneg hw.1]
theorem open_str {fuel : Nat} {cs : List Value} {x : DataW H × List MemPlace} (h : DataW.trod enc Tryz.prog W 0 sp held fuel 9 cs = some x) : ∃ s : Str, cs = [strV s] ∧ s.length ≤ maxLen := by
 obtain ⟨s, rfl, _, hw⟩ := DataW.trod_string Tryz.underlying9 h
 exact ⟨s.data.toList, by show _ = [Value.string (strU s.data.toList)]; rw [strU_of], hw⟩
theorem open_id {fuel : Nat} {cs : List Value} {x : DataW H × List MemPlace} (h : DataW.trod enc Tryz.prog W 0 sp held fuel 31 cs = some x) : ∃ l : List UInt8, cs = zq6 l ∧ l.length = 32 := by
 obtain ⟨xs, m, rfl, _, hlen, hn, hel⟩ := DataW.trod_array Tryz.underlying31 h
 have c5 : Tryz.prog.cellsOf 5 = 1 := by kernel_rfl
 have c26 : Tryz.prog.cellsOf 31 = 32 := by kernel_rfl
 rw [c26] at hlen
 obtain ⟨l, h1, h2⟩ := list_of (R := fun (b : UInt8) v => v = byteV b) cs fun v hv => by
  obtain ⟨i, hi, rfl⟩ := List.mem_iff_getElem.1 hv
  have hi32 : i < 32 := by omega
  have h0 := hel i hi32
  rw [c5, Nat.mul_one, List.getElem?_eq_getElem (show i < xs.length by rw [hn]; exact hi32)] at h0
  obtain ⟨b, hb⟩ := open_byte h0
  rw [List.drop_eq_getElem_cons hi, List.take_succ_cons, List.take_zero] at hb
  exact ⟨b, (List.cons.inj hb).1⟩
 refine ⟨l, ?_, by omega⟩
 apply List.ext_getElem?
 intro i
 rw [zq6, List.getElem?_map]
 by_cases hi : i < l.length
 ·have hi' : i < cs.length := by omega
  have := h2 i l[i] cs[i] (by simp) (by simp)
  simp [hi, hi', this]
 ·rw [List.getElem?_eq_none (by omega), List.getElem?_eq_none (by omega)]; rfl
theorem split_at (cs : List Value) (o n : Nat) : cs.drop o = (cs.drop o).take n ++ cs.drop (o + n) := by
 rw [← List.drop_drop, List.take_append_drop]
theorem open_leaf {fuel : Nat} {cs : List Value} {x : DataW H × List MemPlace} (h : DataW.trod enc Tryz.prog W 0 sp held fuel 56 cs = some x) : ∃ r : zj8, cs = r.cells ∧ r.path.length ≤ maxLen ∧ r.id.length = 32 := by
 obtain ⟨xs, k, rfl, _, hlen, hxs, hf⟩ := DataW.trod_struct Tryz.underlying56 h
 have k76 : Tryz.prog.cellsOf 56 = 33 := by kernel_rfl
 have k9 : Tryz.prog.cellsOf 9 = 1 := by kernel_rfl
 have k26 : Tryz.prog.cellsOf 31 = 32 := by kernel_rfl
 have hxs : xs.length = 2 := hxs
 have g0 : DataW.trod enc Tryz.prog W 0 sp held k 9 ((cs.drop 0).take (Tryz.prog.cellsOf 9)) = _ := hf 0 _ rfl
 have g1 : DataW.trod enc Tryz.prog W 0 sp held k 31 ((cs.drop 1).take (Tryz.prog.cellsOf 31)) = _ := hf 1 _ rfl
 rw [k9, List.getElem?_eq_getElem (by omega)] at g0
 rw [k26, List.getElem?_eq_getElem (by omega)] at g1
 obtain ⟨s, e0, h0⟩ := open_str g0
 obtain ⟨l, e1, h1⟩ := open_id g1
 rw [k76] at hlen
 refine ⟨⟨s, l⟩, ?_, h0, h1⟩
 have e : cs = cs.drop 0 := rfl
 rw [e, split_at cs 0 1, e0, split_at cs (0 + 1) 32, e1, List.drop_eq_nil_of_le (by omega), List.append_nil]
 rfl
theorem open_chg {fuel : Nat} {cs : List Value} {x : DataW H × List MemPlace} (h : DataW.trod enc Tryz.prog W 0 sp held fuel 114 cs = some x) : ∃ r : ChgD, cs = r.cells ∧ r.path.length ≤ maxLen ∧ r.text.length ≤ maxLen := by
 obtain ⟨xs, k, rfl, _, hlen, hxs, hf⟩ := DataW.trod_struct Tryz.underlying114 h
 have k82 : Tryz.prog.cellsOf 114 = 3 := by kernel_rfl
 have k9 : Tryz.prog.cellsOf 9 = 1 := by kernel_rfl
 have k4 : Tryz.prog.cellsOf 4 = 1 := by kernel_rfl
 have hxs : xs.length = 3 := hxs
 have g0 : DataW.trod enc Tryz.prog W 0 sp held k 9 ((cs.drop 0).take (Tryz.prog.cellsOf 9)) = _ := hf 0 _ rfl
 have g1 : DataW.trod enc Tryz.prog W 0 sp held k 4 ((cs.drop 1).take (Tryz.prog.cellsOf 4)) = _ := hf 1 _ rfl
 have g2 : DataW.trod enc Tryz.prog W 0 sp held k 9 ((cs.drop 2).take (Tryz.prog.cellsOf 9)) = _ := hf 2 _ rfl
 rw [k9, List.getElem?_eq_getElem (by omega)] at g0 g2
 rw [k4, List.getElem?_eq_getElem (by omega)] at g1
 obtain ⟨s, e0, h0⟩ := open_str g0
 obtain ⟨b, e1, _⟩ := DataW.trod_bool Tryz.underlying4 g1
 obtain ⟨t, e2, h2⟩ := open_str g2
 rw [k82] at hlen
 refine ⟨⟨s, b, t⟩, ?_, h0, h2⟩
 have e : cs = cs.drop 0 := rfl
 rw [e, split_at cs 0 1, e0, split_at cs (0 + 1) 1, e1, split_at cs (0 + 1 + 1) 1, e2, List.drop_eq_nil_of_le (by omega), List.append_nil]
 rfl
theorem open_row {fuel : Nat} {cs : List Value} {x : DataW H × List MemPlace} (h : DataW.trod enc Tryz.prog W 0 sp held fuel 99 cs = some x) : ∃ r : RowD, cs = r.cells ∧ r.path.length ≤ maxLen ∧ r.text.length ≤ maxLen := by
 obtain ⟨xs, k, rfl, _, hlen, hxs, hf⟩ := DataW.trod_struct Tryz.underlying99 h
 have k78 : Tryz.prog.cellsOf 99 = 2 := by kernel_rfl
 have k9 : Tryz.prog.cellsOf 9 = 1 := by kernel_rfl
 have hxs : xs.length = 2 := hxs
 have g0 : DataW.trod enc Tryz.prog W 0 sp held k 9 ((cs.drop 0).take (Tryz.prog.cellsOf 9)) = _ := hf 0 _ rfl
 have g1 : DataW.trod enc Tryz.prog W 0 sp held k 9 ((cs.drop 1).take (Tryz.prog.cellsOf 9)) = _ := hf 1 _ rfl
 rw [k9, List.getElem?_eq_getElem (by omega)] at g0 g1
 obtain ⟨s, e0, h0⟩ := open_str g0
 obtain ⟨t, e1, h1⟩ := open_str g1
 rw [k78] at hlen
 refine ⟨⟨s, t⟩, ?_, h0, h1⟩
 have e : cs = cs.drop 0 := rfl
 rw [e, split_at cs 0 1, e0, split_at cs (0 + 1) 1, e1, List.drop_eq_nil_of_le (by omega), List.append_nil]
 rfl
theorem open_u32 {fuel : Nat} {cs : List Value} {x : DataW H × List MemPlace} (h : DataW.trod enc Tryz.prog W 0 sp held fuel 44 cs = some x) : ∃ n : Nat, cs = [.int .u32 (n : Int)] ∧ n < 2 ^ 32 := by
 obtain ⟨n, rfl, _, hw⟩ := DataW.trod_int Tryz.underlying44 h
 have hw : 0 ≤ n ∧ n ≤ 4294967295 := by simpa [Lit.wf, IntKind.min, IntKind.max, IntKind.signed, IntKind.bits] using hw
 exact ⟨n.toNat, by rw [Int.toNat_of_nonneg hw.1], by omega⟩
theorem open_map {fuel : Nat} {cs : List Value} {x : DataW H × List MemPlace} (h : DataW.trod enc Tryz.prog W 0 sp held fuel 102 cs = some x) : ∃ (p : Option Addr) (l : List RowD) (c : Nat), cs = [.slice p l.length c] ∧ Sl W p l.length 2 (l.flatMap RowD.cells) ∧ l.length ≤ maxLen := by
 obtain ⟨xs, k, rfl, _, hlen, hxs, hf⟩ := DataW.trod_struct Tryz.underlying102 h
 have k58 : Tryz.prog.cellsOf 102 = 1 := by kernel_rfl
 have k56 : Tryz.prog.cellsOf 100 = 1 := by kernel_rfl
 have hxs : xs.length = 1 := hxs
 have g0 : DataW.trod enc Tryz.prog W 0 sp held k 100 ((cs.drop 0).take (Tryz.prog.cellsOf 100)) = _ := hf 0 _ rfl
 rw [k56, List.getElem?_eq_getElem (by omega)] at g0
 obtain ⟨p, l, c, e, h1, h2, hs, _, _⟩ := open_list (cells := RowD.cells) (ok := fun r => r.path.length ≤ maxLen ∧ r.text.length ≤ maxLen) Tryz.underlying100 (by kernel_rfl : Tryz.prog.cellsOf 99 = 2) (by decide) (fun h => open_row h) g0
 rw [k58] at hlen
 refine ⟨p, l, c, ?_, hs, by omega⟩
 have e2 : cs = cs.drop 0 := rfl
 rw [e2, split_at cs 0 1, e, List.drop_eq_nil_of_le (by omega), List.append_nil]
theorem open_int {fuel : Nat} {cs : List Value} {x : DataW H × List MemPlace} (h : DataW.trod enc Tryz.prog W 0 sp held fuel 3 cs = some x) : ∃ n : Int, cs = intC n ∧ I64 n := by
 obtain ⟨n, rfl, _, hw⟩ := DataW.trod_int Tryz.underlying3 h
 have hw : -9223372036854775808 ≤ n ∧ n ≤ 9223372036854775807 := by simpa [Lit.wf, IntKind.min, IntKind.max, IntKind.signed, IntKind.bits] using hw
 exact ⟨n, rfl, hw⟩
theorem ml_lt {n : Nat} (h : n ≤ maxLen) : n < 9223372036854775808 := by unfold maxLen at h; omega
theorem open_step {fuel : Nat} {cs : List Value} {x : DataW H × List MemPlace} (h : DataW.trod enc Tryz.prog W 0 sp held fuel 104 cs = some x) : ∃ s : StepT, cs = stepC s ∧ StepIn W s := by
 obtain ⟨xs, k, rfl, _, hlen, hxs, hf⟩ := DataW.trod_struct Tryz.underlying104 h
 have k78 : Tryz.prog.cellsOf 104 = 3 := by kernel_rfl
 have km : Tryz.prog.cellsOf 102 = 1 := by kernel_rfl
 have ki : Tryz.prog.cellsOf 23 = 1 := by kernel_rfl
 have k9 : Tryz.prog.cellsOf 9 = 1 := by kernel_rfl
 have hxs : xs.length = 3 := hxs
 have g0 : DataW.trod enc Tryz.prog W 0 sp held k 102 ((cs.drop 0).take (Tryz.prog.cellsOf 102)) = _ := hf 0 _ rfl
 have g1 : DataW.trod enc Tryz.prog W 0 sp held k 23 ((cs.drop 1).take (Tryz.prog.cellsOf 23)) = _ := hf 1 _ rfl
 have g2 : DataW.trod enc Tryz.prog W 0 sp held k 9 ((cs.drop 2).take (Tryz.prog.cellsOf 9)) = _ := hf 2 _ rfl
 rw [km, List.getElem?_eq_getElem (by omega)] at g0
 rw [ki, List.getElem?_eq_getElem (by omega)] at g1
 rw [k9, List.getElem?_eq_getElem (by omega)] at g2
 obtain ⟨mp, rows, mc, e0, hm, hml⟩ := open_map g0
 obtain ⟨bp, back, bc, e1, hb1, hb2, hbs, _, _⟩ := open_list (cells := intC) (ok := I64) Tryz.underlying23 (by kernel_rfl : Tryz.prog.cellsOf 3 = 1) (by decide) (fun h => open_int h) g1
 obtain ⟨t, e2, _⟩ := open_str g2
 rw [k78] at hlen
 refine ⟨⟨mp, mc, rows, bp, bc, back, t⟩, ?_, ⟨hm, ml_lt hml, hbs, ml_lt (Nat.le_trans hb1 hb2)⟩⟩
 have e : cs = cs.drop 0 := rfl
 rw [e, split_at cs 0 1, e0, split_at cs (0 + 1) 1, e1, split_at cs (0 + 1 + 1) 1, e2, List.drop_eq_nil_of_le (by omega), List.append_nil]
 rfl
end
section
variable {H : Type} {enc : TypeId × Value → H} {W : World} {sp : Nat → Bool} {held : Bool}
theorem open_obj {fuel : Nat} {cs : List Value} {x : DataW H × List MemPlace} (h : DataW.trod enc Tryz.prog W 0 sp held fuel 46 cs = some x) : ∃ (o : ObjD) (a : ObjP), cs = objC o a ∧ ObjArg W o a := by
 obtain ⟨xs, k, rfl, _, hlen, hxs, hf⟩ := DataW.trod_struct Tryz.underlying46 h
 have k33 : Tryz.prog.cellsOf 46 = 73 := by kernel_rfl
 have k3 : Tryz.prog.cellsOf 3 = 1 := by kernel_rfl
 have k9 : Tryz.prog.cellsOf 9 = 1 := by kernel_rfl
 have k24 : Tryz.prog.cellsOf 40 = 1 := by kernel_rfl
 have k27 : Tryz.prog.cellsOf 34 = 1 := by kernel_rfl
 have k26 : Tryz.prog.cellsOf 31 = 32 := by kernel_rfl
 have k30 : Tryz.prog.cellsOf 43 = 1 := by kernel_rfl
 have k28 : Tryz.prog.cellsOf 41 = 1 := by kernel_rfl
 have k31 : Tryz.prog.cellsOf 44 = 1 := by kernel_rfl
 have hxs : xs.length = 11 := hxs
 have g0 : DataW.trod enc Tryz.prog W 0 sp held k 3 ((cs.drop 0).take (Tryz.prog.cellsOf 3)) = _ := hf 0 _ rfl
 have g1 : DataW.trod enc Tryz.prog W 0 sp held k 9 ((cs.drop 1).take (Tryz.prog.cellsOf 9)) = _ := hf 1 _ rfl
 have g2 : DataW.trod enc Tryz.prog W 0 sp held k 40 ((cs.drop 2).take (Tryz.prog.cellsOf 40)) = _ := hf 2 _ rfl
 have g3 : DataW.trod enc Tryz.prog W 0 sp held k 3 ((cs.drop 3).take (Tryz.prog.cellsOf 3)) = _ := hf 3 _ rfl
 have g4 : DataW.trod enc Tryz.prog W 0 sp held k 31 ((cs.drop 4).take (Tryz.prog.cellsOf 31)) = _ := hf 4 _ rfl
 have g5 : DataW.trod enc Tryz.prog W 0 sp held k 31 ((cs.drop 36).take (Tryz.prog.cellsOf 31)) = _ := hf 5 _ rfl
 have g6 : DataW.trod enc Tryz.prog W 0 sp held k 34 ((cs.drop 68).take (Tryz.prog.cellsOf 34)) = _ := hf 6 _ rfl
 have g7 : DataW.trod enc Tryz.prog W 0 sp held k 43 ((cs.drop 69).take (Tryz.prog.cellsOf 43)) = _ := hf 7 _ rfl
 have g8 : DataW.trod enc Tryz.prog W 0 sp held k 44 ((cs.drop 70).take (Tryz.prog.cellsOf 44)) = _ := hf 8 _ rfl
 have g9 : DataW.trod enc Tryz.prog W 0 sp held k 44 ((cs.drop 71).take (Tryz.prog.cellsOf 44)) = _ := hf 9 _ rfl
 have g10 : DataW.trod enc Tryz.prog W 0 sp held k 9 ((cs.drop 72).take (Tryz.prog.cellsOf 9)) = _ := hf 10 _ rfl
 rw [k3, List.getElem?_eq_getElem (by omega)] at g0 g3
 rw [k9, List.getElem?_eq_getElem (by omega)] at g1 g10
 rw [k24, List.getElem?_eq_getElem (by omega)] at g2
 rw [k26, List.getElem?_eq_getElem (by omega)] at g4 g5
 rw [k27, List.getElem?_eq_getElem (by omega)] at g6
 rw [k30, List.getElem?_eq_getElem (by omega)] at g7
 rw [k31, List.getElem?_eq_getElem (by omega)] at g8 g9
 obtain ⟨kind, e0, _, _⟩ := DataW.trod_int Tryz.underlying3 g0
 obtain ⟨tx, e1, _⟩ := open_str g1
 obtain ⟨lp, ll, lc, e2, hlc, _, hls, hli, _⟩ := open_list (cells := zj8.cells) (ok := fun r => r.path.length ≤ maxLen ∧ r.id.length = 32) Tryz.underlying40 (by kernel_rfl : Tryz.prog.cellsOf 56 = 33) (by decide) (fun h => open_leaf h) g2
 obtain ⟨st, e3, _, _⟩ := DataW.trod_int Tryz.underlying3 g3
 obtain ⟨tree, e4, ht⟩ := open_id g4
 obtain ⟨base, e5, hb⟩ := open_id g5
 obtain ⟨pp, pl, pc, e6, hpc, _, hps, hpi, _⟩ := open_list (cells := zq6) (ok := fun r => r.length = 32) Tryz.underlying34 k26 (by decide) (fun h => open_id h) g6
 obtain ⟨xs2, k2, _, _, hlen2, hxs2, hf2⟩ := DataW.trod_struct Tryz.underlying43 g7
 have hxs2 : xs2.length = 1 := hxs2
 have g7' : DataW.trod enc Tryz.prog W 0 sp held k2 41 (((((cs.drop 69).take 1)).drop 0).take (Tryz.prog.cellsOf 41)) = _ := hf2 0 _ rfl
 rw [k28, List.getElem?_eq_getElem (by omega)] at g7'
 obtain ⟨rp, rl, rc, e7, hrc, _, hrs, hri, _⟩ := open_list (cells := ChgD.cells) (ok := fun r => r.path.length ≤ maxLen ∧ r.text.length ≤ maxLen) Tryz.underlying41 (by kernel_rfl : Tryz.prog.cellsOf 114 = 3) (by decide) (fun h => open_chg h) g7'
 have e7 : (cs.drop 69).take 1 = [.slice rp rl.length rc] := by rw [← e7, List.drop_zero, List.take_take]; rfl
 obtain ⟨nu, e8, h8⟩ := open_u32 g8
 obtain ⟨au, e9, h9⟩ := open_u32 g9
 obtain ⟨no, e10, _⟩ := open_str g10
 rw [k33] at hlen
 refine ⟨⟨kind, tx, ll, st, tree, base, pl, rl, nu, au, no⟩, ⟨lp, lc, pp, pc, rp, rc⟩, ?_, ⟨⟨ht, hb, hpi, hli, hri, h8, h9⟩, ⟨hls, hps, hrs⟩, ⟨hlc, hpc, hrc⟩⟩⟩
 have e : cs = cs.drop 0 := rfl
 rw [e, split_at cs 0 1, e0, split_at cs (0 + 1) 1, e1, split_at cs (0 + 1 + 1) 1, e2, split_at cs (0 + 1 + 1 + 1) 1, e3, split_at cs (0 + 1 + 1 + 1 + 1) 32, e4, split_at cs (0 + 1 + 1 + 1 + 1 + 32) 32, e5,
  split_at cs (0 + 1 + 1 + 1 + 1 + 32 + 32) 1, e6, split_at cs (0 + 1 + 1 + 1 + 1 + 32 + 32 + 1) 1, e7, split_at cs (0 + 1 + 1 + 1 + 1 + 32 + 32 + 1 + 1) 1, e8, split_at cs (0 + 1 + 1 + 1 + 1 + 32 + 32 + 1 + 1 + 1) 1, e9,
  split_at cs (0 + 1 + 1 + 1 + 1 + 32 + 32 + 1 + 1 + 1 + 1) 1, e10, List.drop_eq_nil_of_le (by omega), List.append_nil]
 rfl
end
open Go.Vc Go.WideShapes Go.ChangeShapes Go.ChangeAt Go.RowKit
theorem own : ownKnob Tryz.prog.godebug = none := by kernel_rfl
theorem gRoots : Tryz.prog.globalNamed "confluence/sha.roots" = some 0 := by kernel_rfl
abbrev laidR : List (String × DataW Unit) := [("confluence/sha.roots", Rows.laid_confluence_sha_roots)]
theorem roots_of {W : World} (h : laidMetH Tryz.prog laidR W) : Seg W 0 0 (wordsV rootsW) := by
 rw [MakeChecks.laidMetH_plain _ _ _ (by kernel_rfl)] at h
 have h : laidMet Tryz.prog [("confluence/sha.roots", Lib.tabData .u32 (rootsW.map fun x => (x.toNat : Int)))] W := h
 have ht := Lib.tabIs_of_head gRoots (t := 222) (e := 44) (n := 64) (by kernel_rfl) (by kernel_rfl) (by kernel_rfl) (by kernel_rfl) (by kernel_rfl) h
 intro i v hi
 have hlt : i < rootsW.length := by
  have := (List.getElem?_eq_some_iff.1 hi).1
  simpa [wordsV] using this
 have hc := ht.cell gRoots i (by rw [List.length_map]; exact hlt)
 rw [Nat.zero_add, hc, ← hi, wordsV_get rootsW hlt]
 rw [List.getD_eq_getElem?_getD, List.getElem?_map, List.getElem?_eq_getElem hlt]
 rfl
theorem door_met (os : Os) (args : Array Value) : laidMetH Tryz.prog laidR ((World.doorLaid Tryz.prog 400 os).forCall (fun _ _ => 0) ⟨#[], args, []⟩).memory :=
 laidMetH_of_parts3 (fuel := 70) (laidMet_of_run' 70 (by kernel_rfl) (by kernel_rfl)) (by kernel_rfl) (by kernel_rfl)
theorem flat_int (l : List Int) : l.flatMap intC = hasC l := by
 induction l with
 | nil => rfl
 | cons a l ih => rw [List.flatMap_cons, ih]; rfl
section
variable {H : Type} {enc : TypeId × Value → H} {W : World} {sp : Nat → Bool} {held : Bool}
theorem open_ints {fuel : Nat} {cs : List Value} {x : DataW H × List MemPlace} (h : DataW.trod enc Tryz.prog W 0 sp held fuel 23 cs = some x) : ∃ (p : Option Addr) (l : List Int) (c : Nat), cs = [.slice p l.length c] ∧ Sl W p l.length 1 (hasC l) ∧ l.length < 9223372036854775808 := by
 obtain ⟨p, l, c, e, h1, h2, hs, _, _⟩ := open_list (cells := intC) (ok := I64) Tryz.underlying23 (by kernel_rfl : Tryz.prog.cellsOf 3 = 1) (by decide) (fun h => open_int h) h
 rw [flat_int] at hs
 exact ⟨p, l, c, e, hs, ml_lt (Nat.le_trans h1 h2)⟩
theorem open_world {fuel : Nat} {cs : List Value} {x : DataW H × List MemPlace} (h : DataW.trod enc Tryz.prog W 0 sp held fuel 25 cs = some x) : ∃ (ps : Option Addr) (steps : List StepT) (ck : Nat) (ph : Option Addr) (has : List Int) (ch : Nat) (head : Int), cs = [.slice ps steps.length ck, .slice ph has.length ch, .int .i64 head] ∧
  Sl W ps steps.length 3 (steps.flatMap stepC) ∧ (∀ s ∈ steps, StepIn W s) ∧ steps.length < 9223372036854775808 ∧ Sl W ph has.length 1 (hasC has) ∧ has.length < 9223372036854775808 := by
 obtain ⟨xs, k, rfl, _, hlen, hxs, hf⟩ := DataW.trod_struct Tryz.underlying25 h
 have k78 : Tryz.prog.cellsOf 25 = 3 := by kernel_rfl
 have ks : Tryz.prog.cellsOf 22 = 1 := by kernel_rfl
 have kt : Tryz.prog.cellsOf 23 = 1 := by kernel_rfl
 have ki : Tryz.prog.cellsOf 3 = 1 := by kernel_rfl
 have hxs : xs.length = 3 := hxs
 have g0 : DataW.trod enc Tryz.prog W 0 sp held k 22 ((cs.drop 0).take (Tryz.prog.cellsOf 22)) = _ := hf 0 _ rfl
 have g1 : DataW.trod enc Tryz.prog W 0 sp held k 23 ((cs.drop 1).take (Tryz.prog.cellsOf 23)) = _ := hf 1 _ rfl
 have g2 : DataW.trod enc Tryz.prog W 0 sp held k 3 ((cs.drop 2).take (Tryz.prog.cellsOf 3)) = _ := hf 2 _ rfl
 rw [ks, List.getElem?_eq_getElem (by omega)] at g0
 rw [kt, List.getElem?_eq_getElem (by omega)] at g1
 rw [ki, List.getElem?_eq_getElem (by omega)] at g2
 obtain ⟨ps, steps, c1, e0, h1, h2, hs, hsi, _⟩ := open_list (cells := stepC) (ok := StepIn W) Tryz.underlying22 (by kernel_rfl : Tryz.prog.cellsOf 104 = 3) (by decide) (fun h => open_step h) g0
 obtain ⟨ph, has, c2, e1, hh, hhl⟩ := open_ints g1
 obtain ⟨n, e2, _⟩ := open_int g2
 rw [k78] at hlen
 refine ⟨ps, steps, c1, ph, has, c2, n, ?_, hs, hsi, ml_lt (Nat.le_trans h1 h2), hh, hhl⟩
 have e : cs = cs.drop 0 := rfl
 rw [e, split_at cs 0 1, e0, split_at cs (0 + 1) 1, e1, split_at cs (0 + 1 + 1) 1, e2, List.drop_eq_nil_of_le (by omega), List.append_nil]
 rfl
end
open Go.Vc Go.ChangeShapes Go.WideShapes Go.ChangeAt Go.RowKit Go
set_option maxRecDepth 100000 in
theorem takes_lifted (os : Os) (started : os.Started) (H : Type) (enc : TypeId × Value → H) :
  ReturnsInHanded {} Tryz.checked os 4 .any (fun w args => (Rows.fetchTakesSpec.pre enc Tryz.prog Tryz.f4 [] false w args ∧ laidMetH Tryz.prog laidR w) ∧ sizedMet enc Tryz.prog Tryz.f4 (OpenSpec.ofChange Rows.fetchTakesSpec) false w args)
   (Rows.fetchTakesSpec.post enc Tryz.prog Tryz.f4 false true false false) := by
 refine returnsInHanded_of_change_and (C := Tryz.checked) (X := fun w _ => laidMetH Tryz.prog laidR w) (fun _ _ _ hh h => h.of_heap hh) own started (by kernel_rfl) Tryz.func4
  (ChangeSpec.witness_shaped (enc := enc) (C := Tryz.checked) (os := os) (X := fun w _ => laidMetH Tryz.prog laidR w) false (World.doorLaid Tryz.prog 400 os) #[.agg #[.slice none 0 0, .slice none 0 0, .int .i64 0], .slice none 0 0, .slice none 0 0] 40 rfl (World.shaped_of_RefB (by kernel_rfl) (by kernel_rfl)) (by kernel_rfl) (by kernel_rfl) (by kernel_rfl) (door_met os _)) ?_
 intro W base args ds gs before hval0 hW _ _ hL _
 have hval : ∀ (j : Nat) t v, Tryz.f4.params[j]? = some t → args[j]? = some v → Value.okWide Tryz.prog W .any base t v := hval0
 have hW' := hW
 obtain ⟨p, q, hA0, hV, rfl, hfz, hnd⟩ := hW
 have hA : DataW.TrodAll enc Tryz.prog W 0 (fun _ => true) true Tryz.f4.params.toList args.toList ds p := hA0
 rw [Tryz.params4] at hA hval
 obtain ⟨v0, vs0, d0, ds0, p0, q0, hargs, rfl, rfl, h0, r0⟩ := trodAll_cons hA
 obtain ⟨v1, vs1, d1, ds1, p1, q1, rfl, rfl, rfl, h1, r1⟩ := trodAll_cons r0
 obtain ⟨v2, vs2, d2, ds2, p2, q2, rfl, rfl, rfl, h2, r2⟩ := trodAll_cons r1
 obtain ⟨rfl, rfl, rfl⟩ := trodAll_nil r2
 obtain rfl : args = #[v0, v1, v2] := by cases args; simp_all
 obtain ⟨rfl, rfl⟩ := trodVars_none hV
 have w0 := hval 0 25 v0 rfl rfl
 have w1 := hval 1 50 v1 rfl rfl
 have w2 := hval 2 23 v2 rfl rfl
 obtain ⟨k0, h0⟩ := h0
 obtain ⟨k1, h1⟩ := h1
 obtain ⟨k2, h2⟩ := h2
 obtain ⟨c0, rfl, _⟩ := okWide_struct Tryz.underlying25 w0
 obtain ⟨a1, len1, cap1, rfl⟩ := okWide_slice Tryz.underlying50 w1
 obtain ⟨a2, len2, cap2, rfl⟩ := okWide_slice Tryz.underlying23 w2
 obtain ⟨ps, steps, ck, ph, has, ch, head, e0, hs, hsi, hsl, hh, hhl⟩ := open_world h0
 obtain rfl : c0 = #[.slice ps steps.length ck, .slice ph has.length ch, .int .i64 head] := by apply Array.ext'; exact e0
 obtain ⟨po, os2, co, e1, ho1, ho2, hos, hoi, _⟩ := open_list (cells := objX) (ok := fun r : ObjX => ObjArg W r.1 r.2) Tryz.underlying50 (by kernel_rfl : Tryz.prog.cellsOf 46 = 73) (by decide) (fun h => by obtain ⟨o, a, e, h⟩ := open_obj h; exact ⟨(o, a), e, h⟩) h1
 obtain ⟨pa, asked, cq, e2, hq, hql⟩ := open_ints h2
 simp only [Value.cells, List.cons.injEq, and_true, Value.slice.injEq] at e1 e2
 obtain ⟨rfl, rfl, rfl⟩ := e1
 obtain ⟨rfl, rfl, rfl⟩ := e2
 clear hA0 hval0
 simp only [List.append_nil] at hW'
 refine Calls.mono (fetchTakes_calls W hs hsi hsl hh hhl head hos hoi (ml_lt (Nat.le_trans ho1 ho2)) hq hql (roots_of hL)) fun e W' he => ?_
 cases e with
 | returned v =>
  obtain ⟨rfl, hE⟩ : v = .bool true ∧ Ext No W W' := he
  refine ⟨_, rfl, post_true (by kernel_rfl) (by kernel_rfl) (by kernel_rfl) hW' rfl (by kernel_rfl) (by kernel_rfl) Tryz.underlying4 rfl rfl rfl hE⟩
 | panicked _ => exact he.elim
 | outgrown => exact he.elim
theorem takes_row : Rows.FetchTakesSaid :=
 OpenClaim.holds_of_wide 4 Tryz.f4 rfl rfl rfl rfl rfl rfl rfl ⟨rfl, rfl, rfl, rfl, rfl⟩ rfl rfl rfl rfl rfl (by kernel_rfl) Tryz.func4 (by kernel_rfl)
  (of_decide_eq_true (by kernel_rfl)) (by unfold Func.isWrapper; first | (rw [if_pos (by decide +kernel)]; kernel_rfl) | (rw [if_neg (by decide +kernel)]; exact ⟨rfl, rfl⟩))
  (fun os started H enc _ => takes_lifted os started H enc)
theorem takes_holds : Rows.FetchTakesCardSaid :=
 Claim7.holds_tied_plain_at .later [] [.data] true Rows.fetchTakesCard.stood.harness false
  takes_row (fun _ h => by cases h) (by kernel_rfl) (fun _ h => by cases h) fetchTakes_row_tie rfl ⟨rfl, rfl⟩ (by kernel_rfl) rfl
  (fun f fn hf hfn => by
   obtain rfl : f = 4 := Option.some.inj ((show Tryz.prog.funcNamed "confluence/confluencelaw20.FetchTakes" = some 4 by kernel_rfl).symm.trans hf) |>.symm
   obtain rfl : fn = Tryz.f4 := (Option.some.inj (Tryz.func4.symm.trans hfn)).symm
   exact ⟨by kernel_rfl, fun j t ht => by
    rw [Tryz.params4] at ht
    have hm : t ∈ [25, 50, 23] := by have := Array.mem_of_getElem? ht; simpa using this
    have hall : ([25, 50, 23].all fun u => !Tryz.prog.wantsStandIn u) = true := by kernel_rfl
    exact (show Tryz.prog.wantsStandIn t = false by simpa using List.all_eq_true.1 hall t hm)⟩)
  (by kernel_rfl)
end Go.Proofs.YtpcdihkcenfgkaaGreatDoor
