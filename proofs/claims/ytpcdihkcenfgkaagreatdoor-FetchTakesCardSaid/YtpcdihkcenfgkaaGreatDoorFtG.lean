/-
  Walks and laws towards: FetchTakesCardSaid , walked
-/
import Derived.Test.YtpcdihkcenfgkaaGreatDoorFtF
namespace Go.Proofs
set_option maxRecDepth 100000
def Tryz.sortI_ren : Go.Shelf.Ren := ⟨fun | 6 => 83 | 15 => 138 | 14 => 137 | 28 => 170 | 29 => 171 | 20 => 162 | 21 => 163 | 22 => 164 | 23 => 165 | 24 => 166 | 25 => 167 | 26 => 168 | 27 => 169 | 46 => 184 | 47 => 185 | 48 => 186 | 49 => 187 | 50 => 188 | 57 => 196 | n => n, fun | 22 => 34 | 24 => 31 | 25 => 137 | 3 => 3 | 39 => 60 | 0 => 0 | 53 => 44 | 55 => 150 | 4 => 4 | 46 => 230 | 45 => 229 | 50 => 234 | 5 => 5 | 9 => 9 | 66 => 250 | 70 => 254 | 76 => 263 | 77 => 264 | n => n, fun | n => n⟩
theorem Tryz.sortI : Go.Proofs.SlLaysF0.n6 Tryz.prog Tryz.sortI_ren := {
 mixed := by kernel_rfl
 f6 := ⟨Tryz.f83.name, by decide, Tryz.func83.trans (congrArg some (by kernel_rfl))⟩
 f14 := ⟨Tryz.f137.name, by decide, Tryz.func137.trans (congrArg some (by kernel_rfl))⟩
 f15 := Tryz.func138.trans (congrArg some (by kernel_rfl))
 f20 := ⟨Tryz.f162.name, by decide, Tryz.func162.trans (congrArg some (by kernel_rfl))⟩
 f21 := ⟨Tryz.f163.name, by decide, Tryz.func163.trans (congrArg some (by kernel_rfl))⟩
 f22 := ⟨Tryz.f164.name, by decide, Tryz.func164.trans (congrArg some (by kernel_rfl))⟩
 f23 := ⟨Tryz.f165.name, by decide, Tryz.func165.trans (congrArg some (by kernel_rfl))⟩
 f24 := ⟨Tryz.f166.name, by decide, Tryz.func166.trans (congrArg some (by kernel_rfl))⟩
 f25 := ⟨Tryz.f167.name, by decide, Tryz.func167.trans (congrArg some (by kernel_rfl))⟩
 f26 := ⟨Tryz.f168.name, by decide, Tryz.func168.trans (congrArg some (by kernel_rfl))⟩
 f27 := ⟨Tryz.f169.name, by decide, Tryz.func169.trans (congrArg some (by kernel_rfl))⟩
 f28 := Tryz.func170.trans (congrArg some (by kernel_rfl))
 f29 := Tryz.func171.trans (congrArg some (by kernel_rfl))
 f46 := ⟨Tryz.f184.name, by decide, Tryz.func184.trans (congrArg some (by kernel_rfl))⟩
 f47 := Tryz.func185.trans (congrArg some (by kernel_rfl))
 f48 := Tryz.func186.trans (congrArg some (by kernel_rfl))
 f49 := ⟨Tryz.f187.name, by decide, Tryz.func187.trans (congrArg some (by kernel_rfl))⟩
 f50 := ⟨Tryz.f188.name, by decide, Tryz.func188.trans (congrArg some (by kernel_rfl))⟩
 f57 := ⟨Tryz.f196.name, by decide, Tryz.func196.trans (congrArg some (by kernel_rfl))⟩
 t0 := Tryz.underlying0
 a0 := Tryz.isAgg0
 z0 := Tryz.sizeOf0
 v0 := Tryz.zeroValue0
 t3 := Tryz.underlying3
 a3 := Tryz.isAgg3
 z3 := Tryz.sizeOf3
 v3 := Tryz.zeroValue3
 t4 := Tryz.underlying4
 a4 := Tryz.isAgg4
 z4 := Tryz.sizeOf4
 v4 := Tryz.zeroValue4
 t5 := Tryz.underlying5
 a5 := Tryz.isAgg5
 z5 := Tryz.sizeOf5
 v5 := Tryz.zeroValue5
 t9 := Tryz.underlying9
 a9 := Tryz.isAgg9
 z9 := Tryz.sizeOf9
 v9 := Tryz.zeroValue9
 t22 := Tryz.underlying34
 a22 := Tryz.isAgg34
 z22 := Tryz.sizeOf34
 v22 := Tryz.zeroValue34
 t25 := Tryz.underlying137
 a25 := Tryz.isAgg137
 z25 := Tryz.sizeOf137
 v25 := Tryz.zeroValue137
 t39 := Tryz.underlying60
 a39 := Tryz.isAgg60
 z39 := Tryz.sizeOf60
 v39 := Tryz.zeroValue60
 t45 := Tryz.underlying229
 a45 := Tryz.isAgg229
 z45 := Tryz.sizeOf229
 v45 := Tryz.zeroValue229
 t46 := Tryz.underlying230
 a46 := Tryz.isAgg230
 z46 := Tryz.sizeOf230
 v46 := Tryz.zeroValue230
 t50 := Tryz.underlying234
 a50 := Tryz.isAgg234
 z50 := Tryz.sizeOf234
 v50 := Tryz.zeroValue234
 t53 := Tryz.underlying44
 a53 := Tryz.isAgg44
 z53 := Tryz.sizeOf44
 v53 := Tryz.zeroValue44
 t55 := Tryz.underlying150
 a55 := Tryz.isAgg150
 z55 := Tryz.sizeOf150
 v55 := Tryz.zeroValue150
 t66 := Tryz.underlying250
 a66 := Tryz.isAgg250
 z66 := Tryz.sizeOf250
 v66 := Tryz.zeroValue250
 t70 := Tryz.underlying254
 a70 := Tryz.isAgg254
 z70 := Tryz.sizeOf254
 v70 := Tryz.zeroValue254
 t76 := Tryz.underlying263
 a76 := Tryz.isAgg263
 z76 := Tryz.sizeOf263
 v76 := Tryz.zeroValue263
 t77 := Tryz.underlying264
 a77 := Tryz.isAgg264
 z77 := Tryz.sizeOf264
 v77 := Tryz.zeroValue264 }
end Go.Proofs
namespace Go.Proofs.YtpcdihkcenfgkaaGreatDoor
open Go.Vc Go.Sort
theorem sortI_calls {g : Nat} {cb : Array Value} (eg : ∀ args w, (callFunc g args).run Tryz.prog w = .ok (.enter g args) w)
  (cf : IdB → IdB → Int) (hO : SWO (ltOf fun x y : Id32 => cf x.1 y.1)) {w : World} {q : Option Addr} {c : Nat} {ids : List IdB} (hq : Own w q ids.length c 31 32 (ids.flatMap zq6)) (hi : ∀ x ∈ ids, x.length = 32) (hn : ids.length < 1000000000)
  (hcmp : ∀ W, Ext (OwnB q) w W → ∀ x y, x.length = 32 → y.length = 32 → zz1 Tryz.prog g (.agg (zq6 x).toArray :: .agg (zq6 y).toArray :: cb.toList) W fun v w' => v = .int .i64 (cf x y) ∧ Ext No W w') :
  zz1 Tryz.prog 83 [.slice q ids.length c, .func (.func g) #[] cb] w fun v w' => v = .tuple #[] ∧ ∃ ids' : List IdB, ids'.Perm ids ∧ ids'.Pairwise (fun a b => ¬ cf b a < 0) ∧ Own w' q ids.length c 31 32 (ids'.flatMap zq6) ∧ Ext (OwnB q) w w' :=
 sort_ids Tryz.sortI Tryz.isAgg31 Tryz.sizeOf31 eg cf hO hq hi hn hcmp
def aheadN (n : IdB → Nat) (x y : IdB) : Prop := n y < n x ∨ n x = n y ∧ idLt x y
theorem aheadN_swo (n : IdB → Nat) {cf : IdB → IdB → Int} (h : ∀ x y, cf x y < 0 ↔ aheadN n x y) : SWO (ltOf fun x y : Id32 => cf x.1 y.1) := by
 have hl : ∀ x y : Id32, ltOf (fun x y : Id32 => cf x.1 y.1) x y = true ↔ aheadN n x.1 y.1 := fun x y => by
  unfold ltOf
  rw [decide_eq_true_eq]
  exact h _ _
 have hf : ∀ x y : Id32, ltOf (fun x y : Id32 => cf x.1 y.1) x y = false ↔ ¬ aheadN n x.1 y.1 := fun x y => by
  rw [← hl]; cases ltOf (fun x y : Id32 => cf x.1 y.1) x y <;> simp
 refine ⟨fun x => (hf x x).2 fun k => ?_, fun x y z h1 h2 => ?_, fun x y z h1 h2 => ?_⟩
 ·rcases k with k | k
  ·omega
  ·exact idLt_irrefl _ k.2
 ·rw [hl] at h1 h2 ⊢
  rcases h1 with h1 | ⟨h1, h1'⟩ <;> rcases h2 with h2 | ⟨h2, h2'⟩
  ·exact .inl (by omega)
  ·exact .inl (by omega)
  ·exact .inl (by omega)
  ·exact .inr ⟨by omega, idLt_trans h1' h2'⟩
 ·rw [hf] at h1 h2 ⊢
  rintro (k | ⟨k, k'⟩)
  ·have a1 : ¬ n y.1 < n x.1 := fun e => h1 (.inl e)
   have a2 : ¬ n z.1 < n y.1 := fun e => h2 (.inl e)
   omega
  ·have a1 : ¬ n y.1 < n x.1 := fun e => h1 (.inl e)
   have a2 : ¬ n z.1 < n y.1 := fun e => h2 (.inl e)
   have e1 : n x.1 = n y.1 := by omega
   have e2 : n y.1 = n z.1 := by omega
   have b1 : ¬ idLt x.1 y.1 := fun e => h1 (.inr ⟨e1, e⟩)
   have b2 : ¬ idLt y.1 z.1 := fun e => h2 (.inr ⟨e2, e⟩)
   rcases idLt_total x.1 y.1 with c1 | c1 | c1
   ·exact b1 c1
   ·rw [c1] at k'; exact b2 k'
   ·rcases idLt_total y.1 z.1 with c2 | c2 | c2
    ·exact b2 c2
    ·rw [← c2] at k'; exact b1 k'
    ·exact idLt_asymm k' (idLt_trans c2 c1)
open Go.Vc
theorem iterB_nodup {β : Type} {w : World} {it m N : Nat} {enc : β → Value} {g : List UInt8 → Option β} {done : List (List UInt8)} (h : IterB w it m enc g N done) : done.Nodup := by
 obtain ⟨es, c, s, se, la, h1, h2, a1, a2, a3, a4, a5, a6, a7, b1, _⟩ := h
 exact b1
theorem closedD_calls (w : World) {p : Option Addr} {c : Nat} {l : List zz4} {x : IdB} (h : HpIn w p l) (hx : IdIn x) :
  zz1 Tryz.prog 36 [.agg #[.slice p l.length c], .agg (zq6 x).toArray] w fun v w' => v = .int .i64 ((toHp l).closed x) ∧ Ext No w w' := by
 refine zq9 Tryz.func36 rfl rfl rfl rfl ?_
 have hX := Ext.refl No w
 refine zq5 (zq0 (wl (zz9 I_ok rfl fun b2 w1 hn2 hb2 hE1 => ?_)))
 have hX := hX.zq4 hE1
 have hb2 : Blk w1 b2 29 ([.slice p l.length c]) := hb2
 refine wl (zz9 I_ok rfl fun b3 w2 hn3 hb3 hE2 => ?_)
 have hb2 := hb2.zq2 hE2
 have hX := hX.zq4 hE2
 have hb3 : Blk w2 b3 31 (zq6 x) := hb3
 refine wl_p I_ok rfl (zq3 (zq1 (zq5 (c_draw rfl 5 [(0, true), (2, true), (1, false), (3, false), (4, true)] [] (No) (by kernel_rfl) fun w3 hE3 hs3 => ?_))))
 have hd2 := hb2
 have hd3 := hb3
 have hX := hX.zq4 hE3
 have hC : Ext (No) _ w3 := hE3.no
 refine wd_ldN I_ok rfl rfl (fun w' hw' => (hd2.zq2 hw').seg) rfl ?_
 refine wd_ldN I_ok rfl rfl (fun w' hw' => (hd3.zq2 hw').seg) hx.len ?_
 refine wd_l rfl (zx2 Tryz.call70 rfl rfl rfl rfl rfl rfl (readBk_calls w3 (h.zq2 hX)) fun v4 w4 hr4 => ⟨(by obtain ⟨r, rfl, hrn, hM, hE4⟩ := hr4; exact hC.zq4 hE4), ?_⟩)
 obtain ⟨r, rfl, hrn, hM, hE4⟩ := hr4
 have hX := hX.zq4 hE4
 have hC := hC.zq4 hE4
 refine wd_l rfl (zx2 Tryz.call73 rfl rfl rfl rfl rfl rfl (closedB_calls w4 ⟨h.zq2 hX, hM⟩ hx) fun v5 w5 hr5 => ⟨(by obtain ⟨rfl, hE5⟩ := hr5; exact hC.zq4 hE5), ?_⟩)
 obtain ⟨rfl, hE5⟩ := hr5
 have hX := hX.zq4 hE5
 refine wd_k I_ok 1 rfl (wd_sw (zv0 (zq1 (zj0 (zz2 rfl rfl ?_)))))
 exact ⟨rfl, hX⟩
theorem getD_calls (w : World) {p : Option Addr} {c : Nat} {l : List zz4} {x : IdB} (h : HpIn w p l) (hx : IdIn x) :
  zz1 Tryz.prog 35 [.agg #[.slice p l.length c], .agg (zq6 x).toArray] w fun v w' => ∃ a', v = .tuple #[.agg (objC ((toHp l).obj x) a').toArray, .int .i64 ((toHp l).err x)] ∧ ObjNew w w' ((toHp l).obj x) a' ∧ Ext No w w' := by
 have hoi := h.objIn x
 refine zq9 Tryz.func35 rfl rfl rfl rfl ?_
 have hX := Ext.refl No w
 refine zq5 (zq0 (wl (zz9 I_ok rfl fun b2 w1 hn2 hb2 hE1 => ?_)))
 have hX := hX.zq4 hE1
 have hb2 : Blk w1 b2 29 ([.slice p l.length c]) := hb2
 refine wl (zz9 I_ok rfl fun b3 w2 hn3 hb3 hE2 => ?_)
 have hb2 := hb2.zq2 hE2
 have hX := hX.zq4 hE2
 have hb3 : Blk w2 b3 31 (zq6 x) := hb3
 refine wl (zz9 I_ok rfl fun b4 w3 hn4 hb4 hE3 => ?_)
 have fr4 := Nat.le_trans hX.size hn4
 have hb2 := hb2.zq2 hE3
 have hb3 := hb3.zq2 hE3
 have hX := hX.zq4 hE3
 refine wl_p I_ok rfl (zq3 (zq1 ?_))
 have hltc2 := hb2.lt
 have hltc3 := hb3.lt
 have hltc4 := hb4.lt
 have hszc := hX.size
 refine c_cutK (α := (Unit) × Nat) [4] rfl (fun z => [(6, .pointer (some ⟨z.2, 0, none⟩)), (7, .int .i64 ((toHp l).err x))]) (fun z u => (True) ∧ Blk u b2 29 ([.slice p l.length c]) ∧ Blk u b3 31 (zq6 x) ∧ Blk u b4 46 (cellsOf ti46.zero) ∧ Blk u z.2 46 (objC ((toHp l).obj x) (objP l x)) ∧ w3.heap.size ≤ z.2 ∧ Ext No w u) ?_ ?_
 ·have hQ := Nat.le_refl w3.heap.size
  refine c_drawX rfl 9 9 [9] (No) (by kernel_rfl) fun w4 hE4 hs4 => ?_
  have hd2 := hb2
  have hd3 := hb3
  have hb2 := hb2.zq2 hE4
  have hb3 := hb3.zq2 hE4
  have hb4 := hb4.zq2 hE4
  have hQ := Nat.le_trans hQ hE4.size
  have hX := hX.zq4 hE4
  have hC : Ext No _ w4 := hE4
  refine wx_plan [(0, true), (2, true)] 7 rfl (by kernel_rfl) (wd_ldN I_ok rfl rfl (fun w' hw' => (hd2.zq2 hw').seg) rfl ?_)
  refine wd_ldN I_ok rfl rfl (fun w' hw' => (hd3.zq2 hw').seg) hx.len ?_
  refine wd_tail rfl (wx_alt [1, 7] rfl (by kernel_rfl) ⟨⟨_, rfl, ?_⟩, ⟨_, rfl, ?_⟩, trivial⟩)
  ·refine zx2 Tryz.call70 rfl rfl rfl rfl rfl rfl (readBk_calls w4 (h.zq2 hX)) fun v5 w5 hr5 => ⟨(by obtain ⟨r, rfl, hrn, hM, hE5⟩ := hr5; exact hC.zq4 hE5), ?_⟩
   obtain ⟨r, rfl, hrn, hM, hE5⟩ := hr5
   have hb2 := hb2.zq2 hE5
   have hb3 := hb3.zq2 hE5
   have hb4 := hb4.zq2 hE5
   have hQ := Nat.le_trans hQ hE5.size
   have hX := hX.zq4 hE5
   have hC := hC.zq4 hE5
   refine wx_plan [] 6 rfl (by kernel_rfl) (wd_tail rfl (wx_alt [3, 7] rfl (by kernel_rfl) ⟨⟨_, rfl, ?_⟩, ⟨_, rfl, ?_⟩, trivial⟩))
   ·refine zx2 Tryz.call71 rfl rfl rfl rfl rfl rfl (getB_calls w5 ⟨h.zq2 hX, hM⟩ hx) fun v6 w6 hr6 => ⟨(by obtain ⟨rfl, hE6⟩ := hr6; exact hC.zq4 hE6), ?_⟩
    obtain ⟨rfl, hE6⟩ := hr6
    have hb2 := hb2.zq2 hE6
    have hb3 := hb3.zq2 hE6
    have hb4 := hb4.zq2 hE6
    have hQ := Nat.le_trans hQ hE6.size
    have hX := hX.zq4 hE6
    have hC := hC.zq4 hE6
    refine wx_plan [(4, true), (5, true), (6, true), (7, false), (8, false)] 0 rfl (by kernel_rfl) (wd_k I_ok 3 rfl (wd_l rfl (zz9 I_ok rfl fun b6 w7 hn6 hb6 hE7 => ⟨hC.zq4 hE7, ?_⟩)))
    have ne2_6 : b2 ≠ b6 := Nat.ne_of_lt (Nat.lt_of_lt_of_le hb2.lt hn6)
    have ne3_6 : b3 ≠ b6 := Nat.ne_of_lt (Nat.lt_of_lt_of_le hb3.lt hn6)
    have ne4_6 : b4 ≠ b6 := Nat.ne_of_lt (Nat.lt_of_lt_of_le hb4.lt hn6)
    have fr6 := Nat.le_trans hX.size hn6
    have frhQ6 := Nat.le_trans hQ hn6
    have frhC6 := Nat.le_trans hC.size hn6
    have hb2 := hb2.zq2 hE7
    have hb3 := hb3.zq2 hE7
    have hb4 := hb4.zq2 hE7
    have hQ := Nat.le_trans hQ hE7.size
    have hX := hX.zq4 hE7
    have hC := hC.zq4 hE7
    refine wd_l rfl (zj1 (l' := objC ((toHp l).obj x) (objP l x)) I_ok hb6 rfl rfl (zq7 hoi) (by rw [zq7 hoi]; rfl) OneC.h fun w8 hb6 hE8 hs8 => ⟨hC.zx1 hE8 frhC6, ?_⟩)
    have hb2 := hb2.ext1 hE8 ne2_6
    have hb3 := hb3.ext1 hE8 ne3_6
    have hb4 := hb4.ext1 hE8 ne4_6
    have hQ := Nat.le_trans hQ hE8.size
    have hX := hX.zx1 hE8 fr6
    refine wd_sw (wb rfl (st_p I_ok rfl rfl rfl (zv0 ?_)))
    exact zz7 ((()), b6) rfl ⟨trivial, hb2, hb3, hb4, hb6, frhQ6, hX⟩
   ·refine zz9 I_ok rfl fun b6 w9 hn6 hb6 hE9 => ⟨hC.zq4 hE9, ?_⟩
    have ne2_6 : b2 ≠ b6 := Nat.ne_of_lt (Nat.lt_of_lt_of_le hb2.lt hn6)
    have ne3_6 : b3 ≠ b6 := Nat.ne_of_lt (Nat.lt_of_lt_of_le hb3.lt hn6)
    have ne4_6 : b4 ≠ b6 := Nat.ne_of_lt (Nat.lt_of_lt_of_le hb4.lt hn6)
    have fr6 := Nat.le_trans hX.size hn6
    have frhQ6 := Nat.le_trans hQ hn6
    have frhC6 := Nat.le_trans hC.size hn6
    have hb2 := hb2.zq2 hE9
    have hb3 := hb3.zq2 hE9
    have hb4 := hb4.zq2 hE9
    have hM := hM.zq2 hE9
    have hQ := Nat.le_trans hQ hE9.size
    have hX := hX.zq4 hE9
    have hC := hC.zq4 hE9
    refine wx_plan [(3, false), (4, true), (5, true), (6, true), (8, false)] 0 rfl (by kernel_rfl) ?_
    refine wd_l rfl (zx2 Tryz.call71 rfl rfl rfl rfl rfl rfl (getB_calls w9 ⟨h.zq2 hX, hM⟩ hx) fun v10 w10 hr10 => ⟨(by obtain ⟨rfl, hE10⟩ := hr10; exact hC.zq4 hE10), ?_⟩)
    obtain ⟨rfl, hE10⟩ := hr10
    have hb2 := hb2.zq2 hE10
    have hb3 := hb3.zq2 hE10
    have hb4 := hb4.zq2 hE10
    have hb6 := hb6.zq2 hE10
    have hQ := Nat.le_trans hQ hE10.size
    have hX := hX.zq4 hE10
    have hC := hC.zq4 hE10
    refine wd_k I_ok 3 rfl ?_
    refine wd_l rfl (zj1 (l' := objC ((toHp l).obj x) (objP l x)) I_ok hb6 rfl rfl (zq7 hoi) (by rw [zq7 hoi]; rfl) OneC.h fun w11 hb6 hE11 hs11 => ⟨hC.zx1 hE11 frhC6, ?_⟩)
    have hb2 := hb2.ext1 hE11 ne2_6
    have hb3 := hb3.ext1 hE11 ne3_6
    have hb4 := hb4.ext1 hE11 ne4_6
    have hQ := Nat.le_trans hQ hE11.size
    have hX := hX.zx1 hE11 fr6
    refine wd_sw (wb rfl (st_p I_ok rfl rfl rfl (zv0 ?_)))
    exact zz7 ((()), b6) rfl ⟨trivial, hb2, hb3, hb4, hb6, frhQ6, hX⟩
  ·refine zz9 I_ok rfl fun b6 w12 hn6 hb6 hE12 => ⟨hC.zq4 hE12, ?_⟩
   have ne2_6 : b2 ≠ b6 := Nat.ne_of_lt (Nat.lt_of_lt_of_le hb2.lt hn6)
   have ne3_6 : b3 ≠ b6 := Nat.ne_of_lt (Nat.lt_of_lt_of_le hb3.lt hn6)
   have ne4_6 : b4 ≠ b6 := Nat.ne_of_lt (Nat.lt_of_lt_of_le hb4.lt hn6)
   have fr6 := Nat.le_trans hX.size hn6
   have frhQ6 := Nat.le_trans hQ hn6
   have frhC6 := Nat.le_trans hC.size hn6
   have hb2 := hb2.zq2 hE12
   have hb3 := hb3.zq2 hE12
   have hb4 := hb4.zq2 hE12
   have hQ := Nat.le_trans hQ hE12.size
   have hX := hX.zq4 hE12
   have hC := hC.zq4 hE12
   refine wx_plan [(1, false), (3, false), (4, true), (5, true), (6, true), (8, false)] 0 rfl (by kernel_rfl) ?_
   refine wd_l rfl (zx2 Tryz.call70 rfl rfl rfl rfl rfl rfl (readBk_calls w12 (h.zq2 hX)) fun v13 w13 hr13 => ⟨(by obtain ⟨r, rfl, hrn, hM, hE13⟩ := hr13; exact hC.zq4 hE13), ?_⟩)
   obtain ⟨r, rfl, hrn, hM, hE13⟩ := hr13
   have hb2 := hb2.zq2 hE13
   have hb3 := hb3.zq2 hE13
   have hb4 := hb4.zq2 hE13
   have hb6 := hb6.zq2 hE13
   have hQ := Nat.le_trans hQ hE13.size
   have hX := hX.zq4 hE13
   have hC := hC.zq4 hE13
   refine wd_l rfl (zx2 Tryz.call71 rfl rfl rfl rfl rfl rfl (getB_calls w13 ⟨h.zq2 hX, hM⟩ hx) fun v14 w14 hr14 => ⟨(by obtain ⟨rfl, hE14⟩ := hr14; exact hC.zq4 hE14), ?_⟩)
   obtain ⟨rfl, hE14⟩ := hr14
   have hb2 := hb2.zq2 hE14
   have hb3 := hb3.zq2 hE14
   have hb4 := hb4.zq2 hE14
   have hb6 := hb6.zq2 hE14
   have hQ := Nat.le_trans hQ hE14.size
   have hX := hX.zq4 hE14
   have hC := hC.zq4 hE14
   refine wd_k I_ok 3 rfl ?_
   refine wd_l rfl (zj1 (l' := objC ((toHp l).obj x) (objP l x)) I_ok hb6 rfl rfl (zq7 hoi) (by rw [zq7 hoi]; rfl) OneC.h fun w15 hb6 hE15 hs15 => ⟨hC.zx1 hE15 frhC6, ?_⟩)
   have hb2 := hb2.ext1 hE15 ne2_6
   have hb3 := hb3.ext1 hE15 ne3_6
   have hb4 := hb4.ext1 hE15 ne4_6
   have hQ := Nat.le_trans hQ hE15.size
   have hX := hX.zx1 hE15 fr6
   refine wd_sw (wb rfl (st_p I_ok rfl rfl rfl (zv0 ?_)))
   exact zz7 ((()), b6) rfl ⟨trivial, hb2, hb3, hb4, hb6, frhQ6, hX⟩
 rintro ⟨_, b6⟩ w16 ⟨_, hb2, hb3, hb4, hb6, hn6, hX⟩
 try dsimp only
 dsimp only at hb6 hn6
 refine zq5 (zq0 (wl (zj2 I_ok hb6 rfl (zq7 hoi) ?_)))
 have hXs := hX.size
 refine wl (zx2 Tryz.call72 rfl rfl rfl rfl rfl rfl (owned_calls w16 hoi ((h.objL x).zq2 hX) (h.objSh x)) fun v17 w17 hr17 => ?_)
 obtain ⟨a2, rfl, hN0, hE17⟩ := hr17
 have hb4 := hb4.zq2 hE17
 have hX := hX.zq4 hE17
 have hN := hN0.older hXs
 refine wl_p I_ok rfl ?_
 have hb4o := hb4
 refine wl (zj1 (l' := objC ((toHp l).obj x) a2) I_ok hb4 rfl rfl (zq7 hoi) (by rw [zq7 hoi]; rfl) OneC.h fun w18 hb4 hE18 hs18 => ?_)
 have hN := hN.ext1 hE18 hb4o (by decide) (by decide) (by decide)
 have hX := hX.zx1 hE18 fr4
 refine wl_p I_ok rfl (zq3 (zq1 (zj0 (f_ret [_, _] ⟨⟨b4, 0, rfl, ld_all I_ok rfl rfl hb4.seg (by rw [zq7 hoi]; rfl)⟩, rfl, trivial⟩ ?_))))
 exact ⟨a2, rfl, hN, hX⟩
def OwnX (w : World) (p : Option Addr) (n c T sz : Nat) : Prop := ∃ xs, Own w p n c T sz xs
abbrev ObjF (a : ObjP) : Nat → Prop := fun y => OwnB a.lp y ∨ OwnB a.pp y ∨ OwnB a.rp y
theorem cmpI_neg (x y : IdB) : cmpI x y < 0 ↔ aheadN (fun _ => 0) x y := by
 unfold cmpI aheadN
 by_cases h1 : idLt x y
 ·simp [h1]
 ·by_cases h2 : x = y
  ·subst h2; simp [h1]
  ·simp [h1, h2]
theorem rise_of {l : List IdB} (hn : l.Nodup) (hs : l.Pairwise fun a b => ¬ cmpI b a < 0) : Rise l := by
 unfold Rise
 rw [List.pairwise_iff_getElem] at hs ⊢
 intro i j hi hj hij
 have h1 := hs i j hi hj hij
 rw [cmpI_neg] at h1
 have hne : l[i] ≠ l[j] := fun e => by have := (List.getElem_inj hn).1 e; omega
 rcases idLt_total l[i] l[j] with k | k | k
 ·exact k
 ·exact absurd k hne
 ·exact absurd (Or.inr ⟨rfl, k⟩) h1
def outL (l : List zz4) (dn : List IdB) : List IdB := dn.filter fun y => decide ((toHp l).err y ≠ 0)
theorem outL_on {l : List zz4} {dn : List IdB} {y : IdB} (h : (toHp l).err y ≠ 0) : outL l (dn ++ [y]) = outL l dn ++ [y] := by
 unfold outL
 rw [List.filter_append, List.filter_cons_of_pos (by simpa using h)]; rfl
theorem outL_off {l : List zz4} {dn : List IdB} {y : IdB} (h : ¬ (toHp l).err y ≠ 0) : outL l (dn ++ [y]) = outL l dn := by
 unfold outL
 rw [List.filter_append, List.filter_cons_of_neg (by simpa using h), List.filter_nil, List.append_nil]
theorem lacks_of {l : List zz4} {x : IdB} {dn ids : List IdB} (hd : dn.Nodup) (hm : ∀ y, y ∈ dn ↔ y ∈ (toHp l).led x) (hp : ids.Perm (outL l dn)) (hs : ids.Pairwise fun a b => ¬ cmpI b a < 0) : ids = (toHp l).lacks x := by
 have hnd : ids.Nodup := hp.symm.nodup (List.Pairwise.filter _ hd)
 refine rise_one (rise_of hnd hs) (List.Pairwise.filter _ ((toHp l).led_rise x)) fun y => ?_
 rw [hp.mem_iff, outL, List.mem_filter, hm, Hp.lacks, List.mem_filter]
theorem lacksD_calls (w : World) {p : Option Addr} {c : Nat} {l : List zz4} {x : IdB} (h : HpIn w p l) (hx : IdIn x) :
  zz1 Tryz.prog 48 [.agg #[.slice p l.length c], .agg (zq6 x).toArray] w fun v w' => ∃ q k, v = .slice q ((toHp l).lacks x).length k ∧ ((toHp l).lacks x).length ≤ k ∧ Sl w' q ((toHp l).lacks x).length 32 (((toHp l).lacks x).flatMap zq6) ∧ Ext No w w' := by
 have hled := h.ledIn hx
 have hll := h.ledLen x
 refine zq9 Tryz.func48 rfl rfl rfl rfl ?_
 have hX := Ext.refl No w
 refine zq5 (zq0 (wl (zz9 I_ok rfl fun b2 w1 hn2 hb2 hE1 => ?_)))
 have hX := hX.zq4 hE1
 have hb2 : Blk w1 b2 29 ([.slice p l.length c]) := hb2
 refine wl (zz9 I_ok rfl fun b3 w2 hn3 hb3 hE2 => ?_)
 have hb2 := hb2.zq2 hE2
 have hX := hX.zq4 hE2
 have hb3 : Blk w2 b3 31 (zq6 x) := hb3
 refine wl_p I_ok rfl (zq3 (zq1 (zq5 (zq0 (wl_p I_ok rfl (zq3 (zq1 (zq5 (zq5 (c_draw rfl 5 [(0, true), (2, true), (1, false), (3, false), (4, false)] [] (No) (by kernel_rfl) fun w3 hE3 hs3 => ?_))))))))))
 have hd2 := hb2
 have hd3 := hb3
 have hX := hX.zq4 hE3
 have hC : Ext (No) _ w3 := hE3.no
 refine wd_ldN I_ok rfl rfl (fun w' hw' => (hd2.zq2 hw').seg) rfl ?_
 refine wd_ldN I_ok rfl rfl (fun w' hw' => (hd3.zq2 hw').seg) hx.len ?_
 refine wd_l rfl (zx2 Tryz.call70 rfl rfl rfl rfl rfl rfl (readBk_calls w3 (h.zq2 hX)) fun v4 w4 hr4 => ⟨(by obtain ⟨r, rfl, hrn, hMb, hE4⟩ := hr4; exact hC.zq4 hE4), ?_⟩)
 obtain ⟨r, rfl, hrn, hMb, hE4⟩ := hr4
 have hX := hX.zq4 hE4
 have hC := hC.zq4 hE4
 have hX4 := hX.size
 refine wd_l rfl (zx2 Tryz.call76 rfl rfl rfl rfl rfl rfl (leadsB_calls w4 ⟨h.zq2 hX, hMb⟩ hx) fun v5 w5 hr5 => ⟨(by obtain ⟨m, rfl, hmn, hM, hE5⟩ := hr5; exact hC.zq4 hE5), ?_⟩)
 obtain ⟨m, rfl, hmn, hM, hE5⟩ := hr5
 have hX := hX.zq4 hE5
 have hC := hC.zq4 hE5
 refine wd_l rfl (st_rg I_ok rfl hM fun it N w6 hitn hIt hE6 => ⟨hC.zq4 hE6, ?_⟩)
 have hmw := Nat.le_trans hX4 hmn
 have hitw := Nat.le_trans hX.size hitn
 have hX := hX.zq4 hE6
 refine wd_sw (zv0 (zq1 (zx4 ?_)))
 refine zv3 (α := List IdB × Option Addr × Nat) [12] rfl (fun z => [(5, .slice z.2.1 (outL l z.1).length z.2.2)]) (fun z u => ((∀ y ∈ z.1, y ∈ (toHp l).led x) ∧ Own u z.2.1 (outL l z.1).length z.2.2 31 32 ((outL l z.1).flatMap zq6) ∧ (∀ y, OwnB z.2.1 y → w.heap.size ≤ y) ∧ IterB u it m Value.bool (ledF (toHp l) x) N z.1) ∧ Ext No w u) (fun z u => N - z.1.length) ([], none, 0) rfl ⟨⟨fun _ hy => (by cases hy), Own.nil _ _ _, noOwn, hIt⟩, hX⟩ ?_
 rintro ⟨dn, q, k⟩ w7 ⟨⟨hdn, hq, hqn, hIt⟩, hX⟩
 try dsimp only
 dsimp only at hdn hq hqn hIt
 refine zq5 (zq0 (wl (st_nx rfl hIt (fun hall => ?_) (fun y bk w8 hgk hx32 hxd hltN hIt2 hCur hE8 hs8 => ?_))))
 ·have hdd := iterB_nodup hIt
  have hdm : ∀ y, y ∈ dn ↔ y ∈ (toHp l).led x := fun y => ⟨hdn y, fun hy => hall y _ (ledF_on hy)⟩
  have hol : (outL l dn).length ≤ dn.length := List.length_filter_le _ _
  have hdl : dn.length ≤ ((toHp l).led x).length := sub_len hdd hdn
  have hoi : ∀ y ∈ outL l dn, y.length = 32 := fun y hy => hled y (hdn y (List.mem_filter.1 hy).1)
  refine wl_p I_ok rfl (zq3 (zq1 (zq5 (c_condF rfl (c_exit (zx3 (zx3 (zz0 (zq1 (zq5 (zq0 (wl_p I_ok rfl ?_))))))))))))
  have hq0 := hq
  refine wl (zx2 Tryz.call83 rfl rfl rfl rfl rfl rfl (sortI_calls Tryz.call77 cmpI (aheadN_swo (fun _ => 0) cmpI_neg) hq hoi (by omega) (fun W hE a c ha hc => compared_calls W ha hc)) fun v9 w9 hr9 => ?_)
  obtain ⟨rfl, ids, hpm, hpw, hq2, hE9⟩ := hr9
  have hX := hX.trans hE9 fun y hy hF => by have := hqn y hF; omega
  have eH := lacks_of hdd hdm hpm hpw
  have eL : (outL l dn).length = ((toHp l).lacks x).length := by rw [← eH, hpm.length_eq]
  rw [eL, eH] at hq2
  rw [eL]
  refine zq3 (zq1 (zq5 (zq0 (wl_p I_ok rfl (zq3 (zq1 (zj0 (zz2 rfl rfl ?_))))))))
  exact ⟨q, k, rfl, hq2.cap, hq2.sl, hX⟩
 ·have hq := hq.ext hE8 (fun z hz e => by obtain ⟨L, hL⟩ := hq.blkAt hz; exact (hIt.neB hL).1 e.symm)
  have hIt := hIt2
  have hX := hX.zx1 hE8 hitw
  obtain ⟨hym, hbk⟩ := ledF_some hgk
  have hlen : (dn ++ [y]).length = dn.length + 1 := by rw [List.length_append]; rfl
  have hy := hled y hym
  have hdn2 : ∀ z ∈ dn ++ [y], z ∈ (toHp l).led x := fun z hz => by rcases List.mem_append.1 hz with hz | hz; exact hdn z hz; rw [List.mem_singleton.1 hz]; exact hym
  have hol : (outL l dn).length ≤ dn.length := List.length_filter_le _ _
  have hdl : dn.length ≤ ((toHp l).led x).length := sub_len (List.nodup_append.1 (iterB_nodup hIt)).1 hdn
  refine wl_p I_ok rfl (zq3 (zq1 (zq5 (c_condT rfl (zx7 (zq1 (zx4 (zq5 (zq0 (wl (st_en rfl hCur (wl_p I_ok rfl ?_))))))))))))
  have hq0 := hq
  refine wl (zz9 I_ok rfl fun b6 w10 hn6 hb6 hE10 => ?_)
  have fr6 := Nat.le_trans hX.size hn6
  have hIt := hIt.zq2 hE10
  have hq := hq.ext hE10 fun _ _ => id
  have hX := hX.zq4 hE10
  have hb6o := hb6
  have ne6 : ∀ z, OwnB q z → z ≠ b6 := fun z hz => Nat.ne_of_lt (Nat.lt_of_lt_of_le (hq0.lt hz) hn6)
  refine wl (zj1 (l' := zq6 y) I_ok hb6 rfl rfl hy.len (by rw [zx0, hy]; rfl) OneC.h fun w11 hb6 hE11 hs11 => ?_)
  have hIt := hIt.ext hE11 (hIt.neB hb6o).1 (hIt.neB hb6o).2
  have hq := hq.ext hE11 (fun z hz => ne6 z hz)
  have hX := hX.zx1 hE11 fr6
  refine wl_p I_ok rfl (zq3 (zq1 (zq5 (zq0 (wl_p I_ok rfl (zq3 (zq1 (c_cond rfl (fun hc => ?_) (fun hc => ?_)))))))))
  ·have hen : (toHp l).err y ≠ 0 := fun k => by rw [hbk, decide_eq_true k] at hc; cases hc
   have eO := outL_on (dn := dn) hen
   refine zq0 (wl_p I_ok rfl (wl (zj2 I_ok hb6 rfl hy.len ?_)))
   refine wl (st_bs I_ok rfl 32 rfl idZ_c.symm (by rw [zx0]; rfl) (by decide) (by decide) ⟨⟨by rw [zj9]; exact (IdIn.len hy), by decide⟩, trivial⟩ (l' := zq6 y) (one_id hy) fun b22 w12 hn22 hb22 hE12 hs12 => ?_)
   have hIt := hIt.zq2 hE12
   have hq := hq.ext hE12 fun _ _ => id
   have hX := hX.zq4 hE12
   have hX0 := hX
   refine wl (zv2 I_ok rfl 32 32 rfl rfl rfl (by decide) hq (Src.slice (m := 1) (one_idS hy hb22) OneC.h) (by dsimp only [maxLen]; omega) (by dsimp only; omega) fun p13 c13 w13 ho13 hE13 hB13 => ?_)
   dsimp only at ho13 hE13 hB13 ⊢
   have hX := hX0.trans hE13 fun z hz hF => by have := hqn z hF; omega
   have hIt := hIt.ext hE13 (fun e => by obtain ⟨L, hL⟩ := hq.blkAt e; exact (hIt.neB hL).1 rfl) (fun e => by obtain ⟨L, hL⟩ := hq.blkAt e; exact (hIt.neB hL).2 rfl)
   have hqn2 := newW hX0 hqn hB13
   have hl2 : (outL l dn).length + 1 = (outL l (dn ++ [y])).length := by rw [eO, List.length_append]; rfl
   have hq2 : Own w13 p13 (outL l (dn ++ [y])).length c13 31 32 ((outL l (dn ++ [y])).flatMap zq6) := by
    rw [← hl2, eO, List.flatMap_append]
    simpa using ho13
   rw [hl2]
   refine wl_p I_ok rfl (zq3 ?_)
   exact zx6 (zv1 (dn ++ [y], p13, c13) rfl ⟨⟨hdn2, hq2, hqn2, hIt⟩, hX⟩ (by first | omega | (dsimp only; omega)))
  ·have hen : ¬ (toHp l).err y ≠ 0 := by simpa [hbk] using hc
   have eO := outL_off (dn := dn) hen
   refine zx7 ?_
   exact zx6 (zv1 (dn ++ [y], q, k) (by rw [eO]; rfl) ⟨⟨hdn2, by rw [eO]; exact hq, hqn, hIt⟩, hX⟩ (by first | omega | (dsimp only; omega)))
end Go.Proofs.YtpcdihkcenfgkaaGreatDoor
namespace Go.Vc
structure CoSL (ι α : Type) (w : World) where
  Fp : α → Nat → Prop
  J : ι → α → World → Prop
  Jx : ι → Code → α → World → Prop
  st : ∀ {k : ι} {z : α} {S : Nat → Prop} {u u' : World}, J k z u → Ext S u u' → (∀ x, S x → w.heap.size ≤ x ∧ ¬ Fp z x) → J k z u'
  stx : ∀ {k : ι} {c : Code} {z : α} {S : Nat → Prop} {u u' : World}, Jx k c z u → Ext S u u' → (∀ x, S x → w.heap.size ≤ x ∧ ¬ Fp z x) → Jx k c z u'
  lt : ∀ {k : ι} {z : α} {u : World}, J k z u → ∀ x, Fp z x → x < u.heap.size
  ltx : ∀ {k : ι} {c : Code} {z : α} {u : World}, Jx k c z u → ∀ x, Fp z x → x < u.heap.size
section
variable {ι α : Type} {w : World} {P : Program}
variable {C : CoSL ι α w} {z0 : α} {l D : Nat} {r : Loop} {k k' : ι} {z : α} {W : World} {f : Fs} {env : Env} {u : World}
end
end Go.Vc
namespace Go.Proofs.YtpcdihkcenfgkaaGreatDoor
open Go.Vc
structure KS (N : Nat) (w : World) (P : World → Prop) : Prop where
  n : N ≤ w.heap.size
  st : Stb (fun x => N ≤ x) w P
theorem KS.now {N : Nat} {w : World} {P : World → Prop} (h : KS N w P) : P w := h.st.now
theorem KS.ext {N : Nat} {w w' : World} {P : World → Prop} (h : KS N w P) {T : Nat → Prop} (hE : Ext T w w') (hT : ∀ x, x < w.heap.size → T x → N ≤ x) : KS N w' P := ⟨Nat.le_trans h.n hE.size, h.st.step hE hT fun _ _ k => k⟩
theorem KS.no {N : Nat} {w w' : World} {P : World → Prop} (h : KS N w P) (hE : Ext No w w') : KS N w' P := h.ext hE fun _ _ k => k.elim
theorem KS.one {N b : Nat} {w w' : World} {P : World → Prop} (h : KS N w P) (hE : Ext (One b) w w') (hb : N ≤ b) : KS N w' P := h.ext hE fun x _ e => by have e : x = b := e; omega
theorem KS.mk0 {w : World} {P : World → Prop} (h : ∀ u, Ext No w u → P u) : KS w.heap.size w P := ⟨Nat.le_refl _, fun u hu => h u (hu.mono fun x hx k => by omega)⟩
theorem KS.add {N : Nat} {w : World} {P Q : World → Prop} (h : KS N w P) (hQ : ∀ u, Ext No w u → Q u) : KS w.heap.size w (fun u => P u ∧ Q u) := KS.mk0 fun u hu => ⟨(h.no hu).now, hQ u hu⟩
theorem StepIn.zq2 {w w' : World} {s : StepT} (h : StepIn w s) (hE : Ext No w w') : StepIn w' s := ⟨h.rows.zq2 hE, h.rl, h.back.zq2 hE, h.bl⟩
def id9U : IdB := 9 :: List.replicate 31 0
theorem id9U_in : IdIn id9U := rfl
theorem kErr_err {h : Hp} {x : IdB} {k : Int} (e : h.kErr x k = 0) : h.err x = 0 ∧ (h.obj x).kind = k ∧ h.kObj x k = h.obj x := by
 unfold Hp.kErr at e
 unfold Hp.kObj
 split at e
 ·cases e
 ·rename_i hn
  rw [if_neg hn]
  exact ⟨e, Decidable.byContradiction fun hk => hn ⟨e, hk⟩, rfl⟩
theorem kErr_of {h : Hp} {x : IdB} {k : Int} (e : h.err x = 0) (hk : (h.obj x).kind = k) : h.kErr x k = 0 := by
 unfold Hp.kErr
 rw [if_neg fun c => c.2 hk]
 exact e
theorem mapE_tree {h : Hp} {x : IdB} (e : h.mapE x = 0) : h.kErr x 2 = 0 ∧ h.txErr (h.obj x).leaves = 0 := by
 unfold Hp.mapE at e
 split at e
 ·rename_i c; exact absurd e c
 ·rename_i c
  have h0 : h.kErr x 2 = 0 := Decidable.not_not.1 c
  refine ⟨h0, ?_⟩
  rw [(kErr_err h0).2.2] at e
  exact e
theorem txErr_all {h : Hp} {L : List zj8} (e : h.txErr L = 0) : ∀ l ∈ L, h.kErr l.id 1 = 0 := by
 unfold Hp.txErr at e
 split at e
 ·rename_i hf
  intro l hl
  have := List.find?_eq_none.1 hf l hl
  simpa using this
 ·rename_i l hf
  have := List.find?_some hf
  simp at this
  exact absurd e this
theorem closed_at {h : Hp} {x : IdB} (e : h.closed x = 0) : h.kErr x 3 = 0 ∧ ∀ y, h.Leads x y → h.Good y := by
 unfold Hp.closed at e
 split at e
 ·rename_i c; exact absurd e c
 ·rename_i c
  split at e
  ·rename_i c2; exact ⟨Decidable.not_not.1 c, fun y hy => c2 y ((h.led_mem x y).2 hy)⟩
  ·cases e
theorem links_com {h : Hp} {y : IdB} (e : h.kErr y 3 = 0) : h.links y = (h.obj y).tree :: (h.obj y).parents := by
 obtain ⟨_, hk, _⟩ := kErr_err e
 unfold Hp.links zj3
 rw [if_neg (by rw [hk]; decide), if_pos hk]
theorem num_obj {h : Hp} {y : IdB} (e : h.kErr y 3 = 0) : h.num y = (h.obj y).number := by rw [Hp.num, (kErr_err e).2.2]
theorem behind {h : Hp} {x : IdB} (e : h.closed x = 0) : ∀ y, h.Leads x y → (h.kErr y 3 = 0 → y = x ∨ h.num y < h.num x) ∧ ((h.obj y).kind = 2 → h.mapE y = 0) := by
 obtain ⟨h3, hg⟩ := closed_at e
 intro y hy
 induction hy with
 | here => exact ⟨fun _ => .inl rfl, fun k => by rw [(kErr_err h3).2.1] at k; cases k⟩
 | @on y z hy hz ih =>
  have gy := hg y hy
  by_cases hc : (h.obj y).kind = 3
  ·have hy3 := kErr_of gy.1 hc
   rw [links_com hy3] at hz
   obtain ⟨hm, hp⟩ := gy.2 hc
   rcases List.mem_cons.1 hz with rfl | hz
   ·have h2 := (mapE_tree hm).1
    refine ⟨fun k => ?_, fun _ => hm⟩
    have := (kErr_err h2).2.1
    rw [(kErr_err k).2.1] at this
    cases this
   ·obtain ⟨p1, p2⟩ := hp.1 z hz
    have hn : h.num z < h.num y := by rw [num_obj hy3]; exact p2
    refine ⟨fun _ => .inr ?_, fun k => by rw [(kErr_err p1).2.1] at k; cases k⟩
    rcases ih.1 hy3 with rfl | hlt
    ·exact hn
    ·omega
  ·by_cases hk : (h.obj y).kind = 2
   ·have hm := (mapE_tree (ih.2 hk)).2
    have hz2 : ∃ l ∈ (h.obj y).leaves, l.id = z := by
     unfold Hp.links zj3 at hz
     rw [if_pos hk] at hz
     exact List.mem_map.1 hz
    obtain ⟨l, hl, rfl⟩ := hz2
    have h1 := (kErr_err (txErr_all hm l hl)).2.1
    exact ⟨fun k => absurd ((kErr_err k).2.1.symm.trans h1) (by decide), fun k => absurd (k.symm.trans h1) (by decide)⟩
   ·unfold Hp.links zj3 at hz
    rw [if_neg hk, if_neg hc] at hz
    cases hz
def lackGo (has : List IdB) (out : List IdB) (x : IdB) : List IdB := if x ∈ has ∨ x ∈ out then out else out ++ [x]
def lackU (l has : List IdB) : List IdB := l.foldl (lackGo has) []
theorem lackGo_len (has : List IdB) : ∀ (l out : List IdB), (l.foldl (lackGo has) out).length ≤ out.length + l.length
 | [], _ => Nat.le_refl _
 | x :: l, out => by
  have h1 := lackGo_len has l (lackGo has out x)
  have h2 : (lackGo has out x).length ≤ out.length + 1 := by
   unfold lackGo
   split
   ·exact Nat.le_succ _
   ·rw [List.length_append]; exact Nat.le_refl _
  rw [List.foldl_cons, List.length_cons]
  omega
theorem lackU_len (l has : List IdB) : (lackU l has).length ≤ l.length := by
 have := lackGo_len has l []
 simpa [lackU] using this
section
variable {h n : Hp} {x : IdB}
end
section
variable {c s : Hp} {x : IdB}
end
def ansGo (h : Hp) (sz : ObjD → Nat) : List IdB → List IdB → Nat → List ObjD
  | [], _, _ => []
  | x :: r, met, left => if h.err x ≠ 0 ∨ x ∈ met then ansGo h sz r met left else if sz (h.obj x) > left then [] else h.obj x :: ansGo h sz r (x :: met) (left - sz (h.obj x))
section
variable {h : Hp} {sz : ObjD → Nat}
end
noncomputable def askD (c : Hp) (x : IdB) (n : Nat) : List IdB := (c.lacks x).take n
noncomputable def ansD (c s : Hp) (sz : ObjD → Nat) (x : IdB) : List ObjD := ansGo s sz (askD c x 8) [] 2000
noncomputable def roundD (c s : Hp) (sz : ObjD → Nat) (x : IdB) : Hp := putD c (ansD c s sz x)
section
variable {c s : Hp} {sz : ObjD → Nat} {x : IdB}
end
theorem askD_in {l : List zz4} {w : World} {p : Option Addr} {x : IdB} (h : HpIn w p l) (hx : IdIn x) (n : Nat) : ∀ y ∈ askD (toHp l) x n, IdIn y := fun y hy => h.ledIn hx y (List.mem_filter.1 (List.mem_of_mem_take hy)).1
theorem ask_calls (w : World) {p : Option Addr} {c : Nat} {l : List zz4} {x : IdB} (h : HpIn w p l) (hx : IdIn x) (most : Int) :
  zz1 Tryz.prog 12 [.agg #[.slice p l.length c], .agg (zq6 x).toArray, .int .i64 most] w fun v w' => (most < 1 → v = .tuple #[.slice none 0 0, .int .i64 2]) ∧ (∀ n : Nat, most = (n : Int) → 0 < n → ∃ q k, v = .tuple #[.slice q (askD (toHp l) x n).length k, .int .i64 0] ∧ (askD (toHp l) x n).length ≤ k ∧ Sl w' q (askD (toHp l) x n).length 32 ((askD (toHp l) x n).flatMap zq6)) ∧ Ext No w w' := by
 refine zq9 Tryz.func12 rfl rfl rfl rfl ?_
 have hX := Ext.refl No w
 refine zq5 (zq0 (wl (zz9 I_ok rfl fun b3 w1 hn3 hb3 hE1 => ?_)))
 have hX := hX.zq4 hE1
 have hb3 : Blk w1 b3 29 ([.slice p l.length c]) := hb3
 refine wl (zz9 I_ok rfl fun b4 w2 hn4 hb4 hE2 => ?_)
 have hb3 := hb3.zq2 hE2
 have hX := hX.zq4 hE2
 have hb4 : Blk w2 b4 31 (zq6 x) := hb4
 refine wl_p I_ok rfl (zq3 (zq1 (zq5 (zq5 (zq0 (wl_p I_ok rfl (zq3 (zq1 (c_if rfl (fun hc => ?_) (fun hc => ?_))))))))))
 ·have hm : most < 1 := hc
  refine zq5 (zq0 (wl_p I_ok rfl (zq3 (zq1 (zj0 (zx5 (f_ret [_, _] ⟨rfl, rfl, trivial⟩ ?_)))))))
  exact ⟨fun _ => rfl, fun n e hn => absurd hm (by omega), hX⟩
 ·obtain ⟨n, rfl⟩ : ∃ n : Nat, most = (n : Int) := ⟨most.toNat, by omega⟩
  have hn : 0 < n := by omega
  refine zx7 (zq1 (zq5 (zq0 (wl (zj2 I_ok hb3 rfl rfl (wl (zj2 I_ok hb4 rfl hx.len (wl (zx2 Tryz.call48 rfl rfl rfl rfl rfl rfl (lacksD_calls w2 (h.zq2 hX) hx) fun v3 w3 hr3 => ?_)))))))))
  obtain ⟨q, k, rfl, hcp, hsl, hE3⟩ := hr3
  have hX := hX.zq4 hE3
  refine wl_p I_ok rfl (zq3 (zq1 (zq5 (zq0 (wl_p I_ok rfl ?_)))))
  refine wl (st_sl I_ok rfl 0 (min ((toHp l).lacks x).length n) k 32 rfl (.inr ⟨rfl, rfl⟩) (.inl (congrArg some (minI _ _))) (.inr ⟨rfl, rfl⟩) (Nat.zero_le _) (by omega) (Nat.le_refl _) ?_)
  rw [slBase_zero, Nat.sub_zero, Nat.sub_zero, min_take]
  refine wl_p I_ok rfl (zq3 (zq1 (zj0 (f_ret [_, _] ⟨rfl, rfl, trivial⟩ ?_))))
  exact ⟨fun e => absurd e (by omega), fun m e _ => by have e := Int.ofNat.inj e; subst e; exact ⟨q, _, rfl, by rw [askD, List.length_take]; omega, hsl.cut (fun y hy => (h.ledIn hx y (List.mem_filter.1 hy).1).len) n⟩, hX⟩
def metI (l : List IdB) : List UInt8 → Option Bool := fun x => if x ∈ l then some true else none
theorem metI_nil : metI [] = fun _ => none := by funext x; simp [metI]
theorem metI_add (l : List IdB) (y : IdB) : setM (metI l) y true = metI (l ++ [y]) := by
 funext x
 unfold setM metI
 by_cases h1 : x = y
 ·subst h1; simp
 ·simp [h1]
theorem metI_tell {l : List IdB} {x : List UInt8} : tell Value.bool (.bool false) (metI l x) = .bool (decide (x ∈ l)) := by
 unfold metI
 by_cases h : x ∈ l
 ·rw [if_pos h, decide_eq_true h]; rfl
 ·rw [if_neg h, decide_eq_false h]; rfl
theorem lackGo_pre (H : List IdB) : ∀ (l out : List IdB), out <+: l.foldl (lackGo H) out
 | [], out => List.prefix_refl _
 | x :: l, out => by
  refine List.IsPrefix.trans ?_ (lackGo_pre H l (lackGo H out x))
  unfold lackGo
  split
  ·exact List.prefix_refl _
  ·exact List.prefix_append _ _
abbrev OutB (q : Option Addr) (L : List ObjX) : Nat → Prop := fun x => OwnB q x ∨ ∃ o ∈ L, ObjF o.2 x
theorem ObjNew.ltF {W0 w : World} {o : ObjD} {a : ObjP} (h : ObjNew W0 w o a) : ∀ x, ObjF a x → x < w.heap.size := fun x hx => by
 rcases hx with k | k | k
 ·exact h.ol.lt k
 ·exact h.op.lt k
 ·exact h.or.lt k
theorem ObjNew.geF {W0 w : World} {o : ObjD} {a : ObjP} (h : ObjNew W0 w o a) : ∀ x, ObjF a x → W0.heap.size ≤ x := fun x hx => by
 rcases hx with k | k | k
 ·exact h.nl x k
 ·exact h.np x k
 ·exact h.nr x k
theorem ObjNew.extS {W0 w w' : World} {o : ObjD} {a : ObjP} (h : ObjNew W0 w o a) {S : Nat → Prop} (hE : Ext S w w') (hS : ∀ x, ObjF a x → ¬ S x) : ObjNew W0 w' o a :=
 ⟨h.ol.ext hE fun x k => hS x (.inl k), h.op.ext hE fun x k => hS x (.inr (.inl k)), h.or.ext hE fun x k => hS x (.inr (.inr k)), h.nl, h.np, h.nr⟩
theorem ObjNew.extO {W0 w w' : World} {o : ObjD} {a : ObjP} (h : ObjNew W0 w o a) {q : Option Addr} {n c T sz : Nat} {xs : List Value} (ho : Own w q n c T sz xs) (hE : Ext (OwnB q) w w') (h1 : 56 ≠ T) (h2 : 31 ≠ T) (h3 : 114 ≠ T) : ObjNew W0 w' o a := h.extS hE fun x hx e => by
 obtain ⟨L2, k2⟩ := ho.blkAt e
 rcases hx with k | k | k
 ·obtain ⟨L1, k1⟩ := h.ol.blkAt k; exact absurd (k1.uniq k2).2 h1
 ·obtain ⟨L1, k1⟩ := h.op.blkAt k; exact absurd (k1.uniq k2).2 h2
 ·obtain ⟨L1, k1⟩ := h.or.blkAt k; exact absurd (k1.uniq k2).2 h3
def ansU (h : Hp) (L : List IdB) : List IdB := lackU (L.filter fun y => decide (h.err y = 0)) []
theorem ansU_len (h : Hp) (L : List IdB) : (ansU h L).length ≤ L.length := Nat.le_trans (lackU_len _ _) (List.length_filter_le _ _)
theorem ansU_pre (h : Hp) (L : List IdB) (i : Nat) : ansU h (L.take i) <+: ansU h L := by
 have := lackGo_pre [] ((L.drop i).filter fun y => decide (h.err y = 0)) (ansU h (L.take i))
 have e : ((L.drop i).filter fun y => decide (h.err y = 0)).foldl (lackGo []) (ansU h (L.take i)) = ansU h L := by
  unfold ansU lackU
  rw [← List.foldl_append, ← List.filter_append, List.take_append_drop]
 rw [e] at this
 exact this
theorem ansU_step {h : Hp} {L : List IdB} {i : Nat} (hi : i < L.length) : ansU h (L.take (i + 1)) = if h.err L[i] = 0 ∧ L[i] ∉ ansU h (L.take i) then ansU h (L.take i) ++ [L[i]] else ansU h (L.take i) := by
 unfold ansU lackU
 rw [List.take_succ_eq_append_getElem hi, List.filter_append, List.foldl_append]
 by_cases he : h.err L[i] = 0
 ·rw [List.filter_cons_of_pos (by simpa using he), List.filter_nil, List.foldl_cons, List.foldl_nil, lackGo]
  by_cases hm : L[i] ∈ ((L.take i).filter fun y => decide (h.err y = 0)).foldl (lackGo []) []
  ·rw [if_pos (.inr hm), if_neg fun k => k.2 hm]
  ·rw [if_neg (fun k => k.elim (fun k => by cases k) hm), if_pos ⟨he, hm⟩]
 ·rw [List.filter_cons_of_neg (by simpa using he), List.filter_nil, List.foldl_nil, if_neg fun k => he k.1]
theorem ansU_new {h : Hp} {L : List IdB} {i : Nat} (hi : i < L.length) (he : h.err L[i] = 0) (hn : L[i] ∉ ansU h (L.take i)) : (ansU h (L.take i)).length < (ansU h L).length ∧ (ansU h L).getD (ansU h (L.take i)).length [] = L[i] ∧ ansU h (L.take (i + 1)) = ansU h (L.take i) ++ [L[i]] := by
 have e : ansU h (L.take (i + 1)) = ansU h (L.take i) ++ [L[i]] := by rw [ansU_step hi, if_pos ⟨he, hn⟩]
 have hp := ansU_pre h L (i + 1)
 rw [e] at hp
 obtain ⟨t, ht⟩ := hp
 refine ⟨by rw [← ht]; simp, ?_, e⟩
 rw [← ht, List.append_assoc]; simp
theorem ansU_old {h : Hp} {L : List IdB} {i : Nat} (hi : i < L.length) (hc : h.err L[i] ≠ 0 ∨ L[i] ∈ ansU h (L.take i)) : ansU h (L.take (i + 1)) = ansU h (L.take i) := by
 rw [ansU_step hi, if_neg]
 rintro ⟨h1, h2⟩
 exact hc.elim (fun k => k h1) h2
def fitGo (sz : ObjD → Nat) : List ObjD → Nat → List ObjD
  | [], _ => []
  | o :: r, left => if sz o > left then [] else o :: fitGo sz r (left - sz o)
theorem lackGo_dup (h : Hp) (sz : ObjD → Nat) : ∀ (l met out : List IdB) (left : Nat), (∀ y, y ∈ met ↔ y ∈ out) → ∃ t, (l.filter fun y => decide (h.err y = 0)).foldl (lackGo []) out = out ++ t ∧ ansGo h sz l met left = fitGo sz (t.map h.obj) left
 | [], met, out, left, _ => ⟨[], (List.append_nil _).symm, rfl⟩
 | x :: l, met, out, left, hm => by
  by_cases he : h.err x = 0
  ·rw [List.filter_cons_of_pos (by simpa using he), List.foldl_cons, lackGo]
   by_cases hx : x ∈ out
   ·rw [if_pos (.inr hx), ansGo, if_pos (.inr ((hm x).2 hx))]
    exact lackGo_dup h sz l met out left hm
   ·rw [if_neg (fun k => k.elim (fun k => by cases k) hx), ansGo, if_neg fun k => k.elim (fun k => k he) fun k => hx ((hm x).1 k)]
    obtain ⟨t, h1, h2⟩ := lackGo_dup h sz l (x :: met) (out ++ [x]) (left - sz (h.obj x)) fun y => by rw [List.mem_cons, List.mem_append, List.mem_singleton, hm, Or.comm]
    refine ⟨x :: t, by rw [h1, List.append_assoc]; rfl, ?_⟩
    rw [h2, List.map_cons, fitGo]
  ·rw [List.filter_cons_of_neg (by simpa using he), ansGo, if_pos (.inl he)]
   exact lackGo_dup h sz l met out left hm
theorem ansGo_fit (h : Hp) (sz : ObjD → Nat) (l : List IdB) (left : Nat) : ansGo h sz l [] left = fitGo sz ((ansU h l).map h.obj) left := by
 obtain ⟨t, h1, h2⟩ := lackGo_dup h sz l [] [] left fun _ => Iff.rfl
 rw [h2]
 unfold ansU lackU
 rw [h1, List.nil_append]
def szO (o : ObjD) : Nat := (encB o).length
def AnsA (h : Hp) (U : List IdB) (k : Nat) (vs : Array Value) (X : Nat → Prop) (W : World) : Prop := ∃ W0 a, vs = #[.int .i64 ((szO (h.obj (U.getD k [])) : Nat) : Int), .agg (objC (h.obj (U.getD k [])) a).toArray] ∧ ObjNew W0 W (h.obj (U.getD k [])) a ∧ X = ObjF a
theorem AnsA.size {h : Hp} {U : List IdB} (k : Nat) (vs : Array Value) (X : Nat → Prop) (W : World) (k : AnsA h U k vs X W) : vs.size = 2 := by
 obtain ⟨_, _, rfl, _⟩ := k
 rfl
theorem ans1_walk (W0 w : World) {yl bh bl c cl : Nat} {p pl : Option Addr} {M : List zz4} {L : List IdB} {F : Nat → Prop} {J Jx : Nat → (Nat → Prop) → World → Prop} (hC : ConsV Tryz.prog yl w.heap.size (ansU (toHp M) L).length (AnsA (toHp M) (ansU (toHp M) L)) J Jx) (hbl : Blk w bl 34 [.slice pl L.length cl]) (hbh : Blk w bh 29 [.slice p M.length c])
  (h : HpIn W0 p M) (hsl : Sl W0 pl L.length 32 (L.flatMap zq6)) (hE0 : Ext No W0 w) (hLi : ∀ y ∈ L, IdIn y) (hLl : L.length < 9223372036854775808) (hFo : ∀ x, x < W0.heap.size → ¬ F x) (hFh : ¬ F bh) (hFl : ¬ F bl) (h0 : J 0 F w) :
  zz1 Tryz.prog 104 [.func (.yield yl) #[] #[], .pointer (some ⟨bl, 0, none⟩), .pointer (some ⟨bh, 0, none⟩)] w fun _ w' => ItQ w F (ansU (toHp M) L).length J Jx w' := by
 refine zq9 Tryz.func104 rfl rfl rfl rfl ?_
 have hX := Ext.refl F w
 have hFlt := hC.lt h0
 refine zq5 (zq0 (wl (st_mm Value.bool rfl fun r9 w1 hr9 hM hE1 hs1 => ?_)))
 rw [← metI_nil] at hM
 have hX := hX.zq4 hE1
 have hJ := hC.st h0 hE1 fun _ e => e.elim
 have hF9 : ¬ F r9 := fun e => absurd (hFlt _ e) (by omega)
 refine wl_p I_ok rfl (zq3 (zq1 (zq5 (zq0 (wl (st_ld I_ok rfl ((hbl.ext hX hFl).cell rfl) (wl_p I_ok rfl (zq3 (zq1 (zx4 ?_))))))))))
 refine zv3 (α := Nat × (Nat → Prop)) [0, 2, 4, 12, 13] rfl (fun z => [(14, .int .i64 (z.1 : Int))]) (fun z u => (z.1 ≤ L.length ∧ J (ansU (toHp M) (L.take z.1)).length z.2 u ∧ MapB u r9 Value.bool (metI (ansU (toHp M) (L.take z.1))) ∧ (∀ x, z.2 x → F x ∨ w.heap.size ≤ x) ∧ (¬ z.2 r9)) ∧ Ext F w u) (fun z u => L.length - z.1) (0, F) rfl ⟨⟨Nat.zero_le _, hJ, hM, fun x hx => .inl hx, hF9⟩, hX⟩ ?_
 rintro ⟨i, G⟩ w2 ⟨⟨hi, hJ, hM, hG, hGr⟩, hX⟩
 try dsimp only
 dsimp only at hi hJ hM hG hGr
 refine zq5 (zq0 (wl_p I_ok rfl (zq3 (zq1 (zq5 (c_if rfl (fun hc => ?_) (fun hc => ?_)))))))
 ·have hi : i < L.length := by omega
  have hni := hLi _ (List.getElem_mem hi)
  obtain ⟨qb, qoff, hp, hsq⟩ := (hsl.zq2 (hE0.trans hX fun x hx e => hFo x hx e)).rowAll (fun r hr => (hLi r hr).len) (by omega)
  have hGlt := hC.lt hJ
  have hrl := hM.lt
  have hoi := h.objIn L[i]
  have hos := h.objSh L[i]
  refine wc_put 12 rfl (v' := .slice (some ⟨qb, qoff, none⟩) L.length cl) (by rw [hp]) (zx7 (zq1 ?_))
  refine c_cutK (α := Nat → Prop) [0, 2, 4, 12, 13, 14] rfl (fun z => []) (fun z u => (J (ansU (toHp M) (L.take (i + 1))).length z u ∧ MapB u r9 Value.bool (metI (ansU (toHp M) (L.take (i + 1)))) ∧ (∀ x, z x → F x ∨ w.heap.size ≤ x) ∧ (¬ z r9)) ∧ Ext F w u) ?_ ?_
  ·refine zx4 ?_
   refine zq5 (zq0 (wl (st_ix I_ok rfl 32 rfl i rfl (by omega) (qoff + i * 32) rfl (wl (st_ldN I_ok rfl (hsq i hi) hni.len (wl (zz9 I_ok rfl fun b6 w3 hn6 hb6 hE3 => ?_)))))))
   have fr6 := Nat.le_trans hX.size hn6
   have hM := hM.zq2 hE3
   have hJ := hC.st hJ hE3 fun _ e => e.elim
   have hX := hX.zq4 hE3
   have hG6 : ¬ G b6 := fun e => absurd (hGlt _ e) (by omega)
   have hb6o := hb6
   refine wl (zj1 (l' := zq6 L[i]) I_ok hb6 rfl rfl hni.len (by rw [zx0, hni]; rfl) OneC.h fun w4 hb6 hE4 hs4 => ?_)
   have hM := hM.ext1 hE4 hb6o
   have hJ := hC.st hJ hE4 fun y e => by have e : y = b6 := e; subst e; exact ⟨fr6, hG6⟩
   have hX := hX.zx1 hE4 fr6
   refine zq3 (zq1 (zq5 (zq0 (wl (st_ldN I_ok rfl (hbh.ext hX hFh).seg rfl (wl (zj2 I_ok hb6 rfl hni.len ?_)))))))
   obtain ⟨W2, hW2⟩ : ∃ W2, W2 = w4 := ⟨_, rfl⟩
   have hW2w : w.heap.size ≤ W2.heap.size := by rw [hW2]; exact hX.size
   have hW2r : r9 < W2.heap.size := by rw [hW2]; exact hM.lt
   have hGl2 := hC.lt hJ
   rw [← hW2] at hGl2
   refine wl (zx2 Tryz.call35 rfl rfl rfl rfl rfl rfl (getD_calls w4 (h.zq2 (hE0.trans hX fun x hx e => hFo x hx e)) hni) fun v5 w5 hr5 => ?_)
   obtain ⟨a2, rfl, hA, hE5⟩ := hr5
   have hb6 := hb6.zq2 hE5
   have hM := hM.zq2 hE5
   have hJ := hC.st hJ hE5 fun _ e => e.elim
   have hX := hX.zq4 hE5
   have hA : ObjNew W2 w5 ((toHp M).obj L[i]) a2 := by rw [hW2]; exact hA
   have hAg := hA.geF
   have hW2s : W2.heap.size ≤ w5.heap.size := by rw [hW2]; exact hE5.size
   refine wl_p I_ok rfl (wl (zz9 I_ok rfl fun b7 w6 hn7 hb7 hE6 => ?_))
   have ne6_7 : b6 ≠ b7 := Nat.ne_of_lt (Nat.lt_of_lt_of_le hb6.lt hn7)
   have fr7 := Nat.le_trans hX.size hn7
   have hb6 := hb6.zq2 hE6
   have hM := hM.zq2 hE6
   have hJ := hC.st hJ hE6 fun _ e => e.elim
   have hA := hA.zq2 hE6
   have hX := hX.zq4 hE6
   have hG7 : ¬ G b7 := fun e => absurd (hGl2 _ e) (by omega)
   have hb7o := hb7
   refine wl (zj1 (l' := objC ((toHp M).obj L[i]) a2) I_ok hb7 rfl rfl (zq7 hoi) (by rw [zq7 hoi]; rfl) OneC.h fun w7 hb7 hE7 hs7 => ?_)
   have hb6 := hb6.ext1 hE7 ne6_7
   have hM := hM.ext1 hE7 hb7o
   have hJ := hC.st hJ hE7 fun y e => by have e : y = b7 := e; subst e; exact ⟨fr7, hG7⟩
   have hA := hA.ext1 hE7 hb7o (by decide) (by decide) (by decide)
   have hX := hX.zx1 hE7 fr7
   refine wl_p I_ok rfl (zq3 (zq1 (zq5 (c_cutK (α := Bool) [0, 2, 4, 6, 7, 12, 13, 14] rfl (fun z => [(30, .bool z)]) (fun z u => u = w7 ∧ z = decide ((toHp M).err L[i] ≠ 0 ∨ L[i] ∈ (ansU (toHp M) (L.take i)))) ?_ ?_))))
   ·refine zq0 ?_
    refine wl_p I_ok rfl (zj4 26 rfl (fun hg => ?_) (fun hg => ?_))
    ·have hen : (toHp M).err L[i] ≠ 0 := hg
     refine zz5 I_ok 4 rfl (zq3 ?_)
     exact zz7 (true) rfl ⟨rfl, (decide_eq_true (.inl hen)).symm⟩
    ·have hen : (toHp M).err L[i] = 0 := Decidable.not_not.1 hg
     refine zz5 I_ok 1 rfl (wl (zj2 I_ok hb6 rfl hni.len (wl (st_lu I_ok rfl idK hni rfl hM ?_))))
     simp only [Bool.false_eq_true, if_false]
     rw [show tell Value.bool ti4.zero (metI (ansU (toHp M) (L.take i)) L[i]) = .bool (decide (L[i] ∈ (ansU (toHp M) (L.take i)))) from metI_tell]
     refine wl_p I_ok rfl (zq3 ?_)
     exact zz7 (_) rfl ⟨rfl, by rw [decide_eq_decide]; exact ⟨.inr, fun k => k.elim (fun k => absurd hen k) id⟩⟩
   rintro z w8 ⟨hu, rfl⟩
   have hu := hu.symm
   subst hu
   refine c_if rfl (fun hc => ?_) (fun hc => ?_)
   ·have hfo := ansU_old hi hc
    refine c_exit ?_
    exact zx3 (zz0 (zz7 (G) rfl ⟨⟨by rw [hfo]; exact hJ, by rw [hfo]; exact hM, hG, hGr⟩, hX⟩))
   ·have hen : (toHp M).err L[i] = 0 := Decidable.byContradiction fun k => hc (.inl k)
    obtain ⟨hkn, hka, hfe⟩ := ansU_new hi hen fun k => hc (.inr k)
    refine zx7 (zq1 (zq5 (zq0 (wl_p I_ok rfl (wl (zj2 I_ok hb6 rfl hni.len (wl (st_mu I_ok rfl idK hni rfl hM (b := true) rfl fun w9 hM2 hE9 hs9 => ?_))))))))
    rw [metI_add, ← hfe] at hM2
    have hJ := hC.st hJ hE9 fun y e => by have e : y = r9 := e; subst e; exact ⟨hr9, hGr⟩
    have n6 : ¬ One r9 b6 := fun e => hM.ne hb6 (show b6 = r9 from e).symm
    have n7 : ¬ One r9 b7 := fun e => hM.ne hb7 (show b7 = r9 from e).symm
    have hb7 := hb7.ext hE9 n7
    have hA := hA.extS hE9 fun x hx e => by have e : x = r9 := e; have := hAg x hx; omega
    have hX := hX.zx1 hE9 hr9
    refine zq3 (zq1 (zq5 (zq0 (wl (zj2 I_ok hb7 rfl (zq7 hoi) (wl (zx2 Tryz.call27 rfl rfl rfl rfl rfl rfl (encode_calls w9 hoi hA.l hos) fun v10 w10 hr10 => ?_)))))))
    obtain ⟨qe, ke, rfl, he, hen2, hE10⟩ := hr10
    have hb7 := hb7.zq2 hE10
    have hJ := hC.st hJ hE10 fun _ e => e.elim
    have hA := hA.zq2 hE10
    have hM2 := hM2.zq2 hE10
    have hX := hX.zq4 hE10
    refine wl_p I_ok rfl (zq3 (zq1 (zq5 (c_regionI (wlw_p rfl I_ok rfl (wlw rfl (zj2 I_ok hb7 rfl (zq7 hoi) ?_)))))))
    have hG2l := hC.lt hJ
    have hrd := hC.round hJ hkn _ (ObjF a2) ⟨W2, a2, rfl, by rw [hka]; exact hA, rfl⟩ (fun x hx => ⟨by have := hAg x hx; omega, fun e => by have := hAg x hx; have := hGl2 x e; omega⟩)
    rw [hka] at hrd
    refine wli_yield rfl rfl rfl rfl rfl rfl hrd fun y w11 hy => ?_
    obtain ⟨G2, hEy, hGy, hyt, hyf⟩ := hy
    have hX0 := hX.size
    have hX := hX.trans hEy fun x hx e => by rcases e with e | e; exact (hG x e).resolve_right (by omega); have := hAg x e; omega
    have hG2 : ∀ x, G2 x → F x ∨ w.heap.size ≤ x := fun x hx => by rcases hGy x hx with h | h | h; exact hG x h; exact .inr (by have := hAg x h; omega); exact .inr (by omega)
    have hrl2 := hM2.lt
    have hM := hM2.ext hEy fun e => e.elim hGr fun e => by have := hAg _ e; omega
    have hGr2 : ¬ G2 r9 := fun e => by rcases hGy _ e with h | h | h; exact hGr h; have := hAg _ h; omega; omega
    refine wlw_p rfl I_ok rfl (wli_nil (zq1 (c_cond rfl (fun hc => ?_) (fun hc => ?_))))
    ·have hJx := hyf (by simpa using hc)
     refine zj0 (zz3 (zx5 (zx5 (zz3 (f_ret0 rfl ?_)))))
     exact ⟨G2, hX, hG2, .inr ⟨_, hkn, hJx⟩⟩
    ·have hJ := hyt (by simpa using hc)
     refine zx7 ?_
     exact zx6 (zz7 (G2) rfl ⟨⟨by rw [hfe, List.length_append]; exact hJ, hM, hG2, hGr2⟩, hX⟩)
  rintro G2 w12 ⟨⟨hJ, hM, hG, hGr⟩, hX⟩
  refine zq0 (wl_p I_ok rfl ?_)
  rw [IntWalk.i64_in _ (by omega)]
  refine zq3 (fin_put 12 rfl (v' := .slice pl L.length cl) (by rw [hp]) ?_)
  exact zv1 (i + 1, G2) rfl ⟨⟨hi, hJ, hM, hG, hGr⟩, hX⟩ (by first | omega | (dsimp only; omega))
 ·have h0 : i = L.length := by omega
  subst h0
  rw [List.take_length] at hJ hM
  refine c_exit (zx3 (zx3 (zz0 (f_end0 rfl ?_))))
  exact ⟨G, hX, hG, .inl hJ⟩
theorem ans1_iter (W0 w : World) {bh bl c cl : Nat} {p pl : Option Addr} {M : List zz4} {L : List IdB} (hbl : Blk w bl 34 [.slice pl L.length cl]) (hbh : Blk w bh 29 [.slice p M.length c])
  (h : HpIn W0 p M) (hsl : Sl W0 pl L.length 32 (L.flatMap zq6)) (hE0 : Ext No W0 w) (hLi : ∀ y ∈ L, IdIn y) (hLl : L.length < 9223372036854775808) :
  IterV Tryz.prog 104 [.pointer (some ⟨bl, 0, none⟩), .pointer (some ⟨bh, 0, none⟩)] (ansU (toHp M) L).length (AnsA (toHp M) (ansU (toHp M) L)) (fun y => y < W0.heap.size ∨ y = bl ∨ y = bh) w :=
 fun _ _ _ _ hC h0 hown => ans1_walk W0 w hC hbl hbh h hsl hE0 hLi hLl (fun x hx => hown x (.inl hx)) (hown _ (.inr (.inr rfl))) (hown _ (.inr (.inl rfl))) h0
theorem answers_calls (w : World) {p pl : Option Addr} {c cl : Nat} {M : List zz4} {L : List IdB} :
  zz1 Tryz.prog 50 [.agg #[.slice p M.length c], .slice pl L.length cl] w fun v w' => ∃ bl bh, v = .func (.func 104) #[] #[.pointer (some ⟨bl, 0, none⟩), .pointer (some ⟨bh, 0, none⟩)] ∧ w.heap.size ≤ bl ∧ w.heap.size ≤ bh ∧ Blk w' bl 34 [.slice pl L.length cl] ∧ Blk w' bh 29 [.slice p M.length c] ∧ Ext No w w' := by
 refine zq9 Tryz.func50 rfl rfl rfl rfl ?_
 have hX := Ext.refl No w
 refine zq5 (zq0 (wl (zz9 I_ok rfl fun b2 w1 hn2 hb2 hE1 => ?_)))
 have fr2 := Nat.le_trans hX.size hn2
 have hX := hX.zq4 hE1
 have hb2 : Blk w1 b2 29 ([.slice p M.length c]) := hb2
 refine wl (zz9 I_ok rfl fun b3 w2 hn3 hb3 hE2 => ?_)
 have fr3 := Nat.le_trans hX.size hn3
 have hb2 := hb2.zq2 hE2
 have hX := hX.zq4 hE2
 have hb3 : Blk w2 b3 34 ([.slice pl L.length cl]) := hb3
 refine wl_p I_ok rfl (zq3 (zq1 (zq5 (zq0 (wl_p I_ok rfl (zq3 (zq1 (zj0 (zz2 rfl rfl ?_)))))))))
 exact ⟨b3, b2, rfl, fr3, fr2, hb3, hb2, hX⟩
structure OutN (W u : World) (q : Option Addr) (k : Nat) (L : List ObjX) : Prop where
  own : Own u q L.length k 46 73 (L.flatMap objX)
  nw : ∀ y, OwnB q y → W.heap.size ≤ y
  new : ∀ x ∈ L, ObjNew W u x.1 x.2
  ap : L.Pairwise fun x y => ∀ b, ObjF x.2 b → ¬ ObjF y.2 b
  ins : ∀ x ∈ L, ObjIn x.1 ∧ Short x.1
theorem OutN.ext {W u u' : World} {q : Option Addr} {k : Nat} {L : List ObjX} (h : OutN W u q k L) {S : Nat → Prop} (hE : Ext S u u') (hS : ∀ x, OutB q L x → ¬ S x) : OutN W u' q k L :=
 ⟨h.own.ext hE fun x hx => hS x (.inl hx), h.nw, fun x hx => (h.new x hx).extS hE fun y hy => hS y (.inr ⟨x, hx, hy⟩), h.ap, h.ins⟩
theorem OutN.zq2 {W u u' : World} {q : Option Addr} {k : Nat} {L : List ObjX} (h : OutN W u q k L) (hE : Ext No u u') : OutN W u' q k L := h.ext hE fun _ _ => id
theorem OutN.lt {W u : World} {q : Option Addr} {k : Nat} {L : List ObjX} (h : OutN W u q k L) : ∀ x, OutB q L x → x < u.heap.size := fun x hx => by
 rcases hx with k | ⟨o, ho, k⟩
 ·exact h.own.lt k
 ·exact (h.new o ho).ltF x k
theorem OutN.nil (W u : World) : OutN W u none 0 [] := ⟨Own.nil _ _ _, noOwn, fun _ h => (by cases h), .nil, fun _ h => (by cases h)⟩
theorem OutN.older {W W0 u : World} {q : Option Addr} {k : Nat} {L : List ObjX} (h : OutN W u q k L) (hW : W0.heap.size ≤ W.heap.size) : OutN W0 u q k L := ⟨h.own, fun y hy => Nat.le_trans hW (h.nw y hy), fun x hx => (h.new x hx).older hW, h.ap, h.ins⟩
theorem OutN.one {W u u' : World} {q : Option Addr} {k : Nat} {L : List ObjX} (h : OutN W u q k L) {b T : Nat} {l : List Value} (hE : Ext (One b) u u') (hb : Blk u b T l) (h0 : 46 ≠ T) (h1 : 56 ≠ T) (h2 : 31 ≠ T) (h3 : 114 ≠ T) : OutN W u' q k L :=
 ⟨h.own.zx9 hE hb h0, h.nw, fun x hx => (h.new x hx).ext1 hE hb h1 h2 h3, h.ap, h.ins⟩
theorem OutN.snoc {W u u' : World} {q q2 : Option Addr} {k k2 : Nat} {L : List ObjX} {o : ObjD} {a : ObjP} (h : OutN W u q k L) (hN : ObjNew W u o a) (hd : ∀ x ∈ L, ∀ b, ObjF x.2 b → ¬ ObjF a b) (hi : ObjIn o ∧ Short o) (hE : Ext (OwnB q) u u')
  (ho : Own u' q2 (L.length + 1) k2 46 73 (L.flatMap objX ++ objC o a)) (hB : ∀ b, OwnB q2 b → OwnB q b ∨ u.heap.size ≤ b) (hW : W.heap.size ≤ u.heap.size) : OutN W u' q2 k2 (L ++ [(o, a)]) := by
 refine ⟨?_, fun y hy => (hB y hy).elim (h.nw y) fun e => Nat.le_trans hW e, fun x hx => ?_, List.pairwise_append.2 ⟨h.ap, List.pairwise_singleton _ _, fun x hx y hy b hb => ?_⟩, fun x hx => ?_⟩
 ·rw [List.length_append, List.flatMap_append, List.flatMap_singleton]; exact ho
 ·rcases List.mem_append.1 hx with hx | hx
  ·exact (h.new x hx).extO h.own hE (by decide) (by decide) (by decide)
  ·rw [List.mem_singleton.1 hx]; exact hN.extO h.own hE (by decide) (by decide) (by decide)
 ·rw [List.mem_singleton.1 hy]
  exact hd x hx b hb
 ·rcases List.mem_append.1 hx with hx | hx
  ·exact h.ins x hx
  ·rw [List.mem_singleton.1 hx]; exact hi
structure AnsJ (W u : World) (h : Hp) (U : List IdB) (n b5 b8 k : Nat) (z : List ObjX × Option Addr × Nat × Nat) : Prop where
  o : OutN W u z.2.1 z.2.2.1 z.1
  e : fitGo szO (U.map h.obj) n = z.1.map Prod.fst ++ fitGo szO ((U.drop k).map h.obj) z.2.2.2
  ol : z.1.length ≤ k
  ln : z.2.2.2 ≤ n
  c5 : Blk u b5 3 [.int .i64 (z.2.2.2 : Int)]
  c8 : Blk u b8 50 [.slice z.2.1 z.1.length z.2.2.1]
structure AnsX (W u : World) (h : Hp) (U : List IdB) (n b5 b8 : Nat) (z : List ObjX × Option Addr × Nat × Nat) : Prop where
  o : OutN W u z.2.1 z.2.2.1 z.1
  e : fitGo szO (U.map h.obj) n = z.1.map Prod.fst
  c5 : b5 < u.heap.size
  c8 : Blk u b8 50 [.slice z.2.1 z.1.length z.2.2.1]
def ansC (w : World) (h : Hp) (U : List IdB) (n b5 b8 : Nat) : CoS (List ObjX × Option Addr × Nat × Nat) w where
  Fp := fun z x => (x = b5 ∨ x = b8) ∨ OutB z.2.1 z.1 x
  J := fun k z u => AnsJ w u h U n b5 b8 k z
  Jx := fun _ c z u => c = .exit 0 ∧ AnsX w u h U n b5 b8 z
  st := fun ⟨h1, h2, h3, h4, h5, h6⟩ hE hS => ⟨h1.ext hE fun x hx e => (hS x e).2 (.inr hx), h2, h3, h4, h5.ext hE fun e => (hS _ e).2 (.inl (.inl rfl)), h6.ext hE fun e => (hS _ e).2 (.inl (.inr rfl))⟩
  stx := fun ⟨e, h1, h2, h3, h4⟩ hE hS => ⟨e, h1.ext hE fun x hx e => (hS x e).2 (.inr hx), h2, Nat.lt_of_lt_of_le h3 hE.size, h4.ext hE fun e => (hS _ e).2 (.inl (.inr rfl))⟩
  lt := fun h x e => by
    rcases e with (rfl | rfl) | e
    · exact h.c5.lt
    · exact h.c8.lt
    · exact h.o.lt x e
  ltx := fun ⟨_, h⟩ x e => by
    rcases e with (rfl | rfl) | e
    · exact h.c5
    · exact h.c8.lt
    · exact h.o.lt x e
theorem fit_cut {h : Hp} {U : List IdB} {k left : Nat} (hk : k < U.length) {y : IdB} (hy : y = U.getD k []) : fitGo szO ((U.drop k).map h.obj) left = if szO (h.obj y) > left then [] else h.obj y :: fitGo szO ((U.drop (k + 1)).map h.obj) (left - szO (h.obj y)) := by
 have e : U.getD k [] = U[k] := by rw [List.getD_eq_getElem?_getD, List.getElem?_eq_getElem hk]; rfl
 rw [List.drop_eq_getElem_cons hk, List.map_cons, fitGo, hy, e]
theorem answer_calls (w : World) {p pl : Option Addr} {c cl : Nat} {M : List zz4} {L : List IdB} (h : HpIn w p M) (hsl : Sl w pl L.length 32 (L.flatMap zq6)) (hLi : ∀ y ∈ L, IdIn y) (hLl : L.length < 100000000) (n : Int) (hnl : n < 9223372036854775808) :
  zz1 Tryz.prog 15 [.agg #[.slice p M.length c], .slice pl L.length cl, .int .i64 n] w fun v w' => (n < 800 → v = .tuple #[.slice none 0 0, .int .i64 2]) ∧ (∀ N : Nat, n = (N : Int) → 800 ≤ N → ∃ q k out, v = .tuple #[.slice q out.length k, .int .i64 0] ∧ out.map Prod.fst = ansGo (toHp M) szO L [] N ∧ OutN w w' q k out) ∧ Ext No w w' := by
 refine calls_enterM Tryz.func15 rfl rfl rfl rfl ?_
 have hX := Ext.refl No w
 refine zq5 (zq0 (wl (zz9 I_ok rfl fun b3 w1 hn3 hb3 hE1 => ?_)))
 have fr3 := Nat.le_trans hX.size hn3
 have hX := hX.zq4 hE1
 have hb3 : Blk w1 b3 29 ([.slice p M.length c]) := hb3
 refine wl (zz9 I_ok rfl fun b5 w2 hn5 hb5 hE2 => ?_)
 have ne3_5 : b3 ≠ b5 := Nat.ne_of_lt (Nat.lt_of_lt_of_le hb3.lt hn5)
 have fr5 := Nat.le_trans hX.size hn5
 have hb3 := hb3.zq2 hE2
 have hX := hX.zq4 hE2
 have hb5 : Blk w2 b5 3 ([.int .i64 n]) := hb5
 refine wl_p I_ok rfl (zq3 (zq1 (c_scope (zq5 (zq5 (zq0 (wl (st_ldb I_ok hb5 rfl rfl (wl_p I_ok rfl (zq3 (zq1 (c_if rfl (fun hc => ?_) (fun hc => ?_)))))))))))))
 ·have hn1 : n < 800 := hc
  refine zq5 (zq0 (wl_p I_ok rfl (zq3 (zq1 (zj0 (zx5 (f_noGotoR (f_retMs [] (by simp) (fun x hx => by cases hx) [.slice none 0 0, .int .i64 2] (fun w20 hE20 => ?_) (.inl rfl)))))))))
  exact ⟨⟨rfl, rfl, trivial⟩, fun _ => rfl, fun N e hN => absurd hn1 (by omega), hX.trans hE20 fun x hx e => by simp at e⟩
 ·obtain ⟨m, hm⟩ : ∃ m : Nat, n = (m : Int) := ⟨n.toNat, by omega⟩
  rw [hm] at hb5 ⊢
  refine zx7 (zq1 (zq5 (zq0 (wl (zz9 I_ok rfl fun b8 w3 hn8 hb8 hE3 => ?_)))))
  have ne3_8 : b3 ≠ b8 := Nat.ne_of_lt (Nat.lt_of_lt_of_le hb3.lt hn8)
  have ne5_8 : b5 ≠ b8 := Nat.ne_of_lt (Nat.lt_of_lt_of_le hb5.lt hn8)
  have fr8 := Nat.le_trans hX.size hn8
  have hb3 := hb3.zq2 hE3
  have hb5 := hb5.zq2 hE3
  have hX := hX.zq4 hE3
  have hb8 : Blk w3 b8 50 ([.slice none 0 0]) := hb8
  refine zq3 (zq1 (zq5 (c_label (zq1 (zq5 (zq5 (zq0 (wl (zj2 I_ok hb3 rfl rfl (wl_p I_ok rfl ?_))))))))))
  have hl5 := hb5.lt
  have hl8 := hb8.lt
  refine wl (zx2 Tryz.call50 rfl rfl rfl rfl rfl rfl (answers_calls w3 (p := p) (c := c) (M := M) (pl := pl) (cl := cl) (L := L)) fun v4 w4 hr4 => ?_)
  obtain ⟨bl, bh, rfl, hbln, hbhn, hbl, hbh, hE4⟩ := hr4
  have hb3 := hb3.zq2 hE4
  have hb5 := hb5.zq2 hE4
  have hb8 := hb8.zq2 hE4
  have hX := hX.zq4 hE4
  refine zq3 (zq1 (zx4 ?_))
  have hXw := hX
  have hXs := hX.size
  have hUl := ansU_len (toHp M) L
  have hbll := hbl.lt
  have hbhl := hbh.lt
  have mkN : ∀ {W1 Wr : World} {o : ObjD} {a : ObjP}, ObjNew W1 Wr o a → (∀ x, ObjF a x → w4.heap.size ≤ x) → ObjNew w4 Wr o a := fun h0 h1 => ⟨h0.ol, h0.op, h0.or, fun x hx => h1 x (.inl hx), fun x hx => h1 x (.inr (.inl hx)), fun x hx => h1 x (.inr (.inr hx))⟩
  refine c_iterV (ansC w4 (toHp M) (ansU (toHp M) L) m b5 b8) (([], none, 0, m)) rfl Tryz.call104 rfl AnsA.size (fun w1 hE1 => ans1_iter w w1 (hbl.zq2 hE1) (hbh.zq2 hE1) h hsl (hXw.zq4 hE1) hLi (by omega)) (fun x hx => by rcases hx with hx | rfl | rfl; exact ⟨by omega, fun e => by rcases e with (e | e) | e | ⟨_, e, _⟩; omega; omega; cases e; cases e⟩; exact ⟨by omega, fun e => by rcases e with (e | e) | e | ⟨_, e, _⟩; omega; omega; cases e; cases e⟩; exact ⟨by omega, fun e => by rcases e with (e | e) | e | ⟨_, e, _⟩; omega; omega; cases e; cases e⟩) ⟨OutN.nil _ _, rfl, Nat.zero_le _, Nat.le_refl _, hb5, hb8⟩ (fun l DD r k z W vs Xn hRd hNx hJ hk hA => ?_) (fun DD z W hJ hE hsub hDn hmk hnd => ?_) (fun DD k c z W hk hJ hE hsub hDn hmk hnd => ?_)
  ·have hLr := hRd.l
   obtain ⟨out, q, kq, left⟩ := z
   obtain ⟨hO, hOe, hol, hln, hb5, hb8⟩ := hJ
   dsimp only at hO hOe hol hln hb5 hb8
   obtain ⟨W2, a2, rfl, hN0, rfl⟩ := hA
   obtain ⟨y, hyk⟩ : ∃ y, y = (ansU (toHp M) L).getD k [] := ⟨_, rfl⟩
   rw [← hyk] at hN0 ⊢
   have hN := mkN hN0 (fun x hx => (hNx.ne x hx).1)
   have hOl := hO.lt
   have hoi := h.objIn y
   have hos := h.objSh y
   have hft := fit_cut (h := (toHp M)) (left := left) hk hyk
   have nl5 := hb5.neL hLr
   have nl8 := hb8.neL hLr
   have hX : Ext (fun x => (((x = b5 ∨ x = b8) ∨ OutB q out x) ∨ x = l) ∨ ObjF a2 x) W W := Ext.refl _ _
   refine ci_seq (ci_region (wli_pR I_ok rfl (wli_nil (fi_then (ci_region (wli (.round _) rfl (zz9 I_ok rfl fun b10 w5 hn10 hb10 hE5 => ?_)))))))
   have ne5_10 : b5 ≠ b10 := Nat.ne_of_lt (Nat.lt_of_lt_of_le hb5.lt hn10)
   have ne8_10 : b8 ≠ b10 := Nat.ne_of_lt (Nat.lt_of_lt_of_le hb8.lt hn10)
   have fr10 := Nat.le_trans hX.size hn10
   have hb5 := hb5.zq2 hE5
   have hb8 := hb8.zq2 hE5
   have hO := hO.zq2 hE5
   have hN := hN.zq2 hE5
   have hLr := hl_ext hLr hE5 id
   have hX := hX.zq4 hE5
   have nl10 := hb10.neL hLr
   have hb10o := hb10
   refine wli (.round _) rfl (zj1 (l' := objC ((toHp M).obj y) a2) I_ok hb10 rfl rfl (zq7 hoi) (by rw [zq7 hoi]; rfl) OneC.h fun w6 hb10 hE6 hs6 => ?_)
   have hb5 := hb5.ext1 hE6 ne5_10
   have hb8 := hb8.ext1 hE6 ne8_10
   have hO := hO.ext hE6 (fun x hx e => by have := hOl x hx; have e : x = b10 := e; omega)
   have hN := hN.ext1 hE6 hb10o (by decide) (by decide) (by decide)
   have hLr := hl_ext hLr hE6 nl10.symm
   have hX := hX.zx1 hE6 fr10
   refine wli_nil (fin_begin hRd hLr fun w7 hE7 hL7 => ?_)
   have hb5 := hb5.extL hLr hE7
   have hb8 := hb8.extL hLr hE7
   have hb10 := hb10.extL hLr hE7
   have hO := hO.ext hE7 (fun x hx e => by have e : x = l := e; subst e; exact (hRd.fp _ (.inr hx)).1 rfl)
   have hN := hN.extS hE7 (fun x hx e => (hNx.ne x hx).2.1 e)
   have hLr := hL7
   have hX := hX.then (hE7.mono fun x _ e => .inl (.inr e))
   refine ci_block (ci_seq (ci_seq (ci_region (wli_pR I_ok rfl (wli (.round _) rfl (st_ldb I_ok hb5 rfl rfl (wli_pR I_ok rfl (wli_nil (fi_then (ci_if rfl (fun hc => ?_) (fun hc => ?_)))))))))))
   ·have hgt : szO ((toHp M).obj y) > left := by omega
    rw [hft, if_pos hgt, List.append_nil] at hOe
    refine ci_exit ?_
    exact zx3 (f_blockE' rfl (fin_stopV (.inr ⟨0, rfl, rfl⟩) ((out, q, kq, left)) hRd hNx hLr hX (fun x hx => .inl hx) (⟨rfl, hO, hOe, hb5.lt, hb8⟩)))
   ·have hgt : ¬ szO ((toHp M).obj y) > left := by omega
    rw [hft, if_neg hgt] at hOe
    refine ci_skip (fi_then (ci_seq (ci_region (wli (.round _) rfl (st_ldb I_ok hb5 rfl rfl (wli_pR I_ok rfl ?_))))))
    rw [IntWalk.i64_in _ (by omega)]
    rw [show (left : Int) - (szO ((toHp M).obj y) : Int) = ((left - szO ((toHp M).obj y) : Nat) : Int) from by omega]
    have hb5o := hb5
    refine wli (.round _) rfl (st_st I_ok hb5 rfl rfl rfl fun w8 hb5 hE8 hs8 => ?_)
    have hb8 := hb8.ext1 hE8 ne5_8.symm
    have hb10 := hb10.ext1 hE8 ne5_10.symm
    have hO := hO.one hE8 hb5o (by decide) (by decide) (by decide) (by decide)
    have hN := hN.ext1 hE8 hb5o (by decide) (by decide) (by decide)
    have hLr := hl_ext hLr hE8 nl5.symm
    have hX := hX.then (hE8.mono fun x _ e => by have e : x = b5 := e; subst e; exact (.inl (.inl (.inl (.inl rfl)))))
    have hb5 : Blk w8 b5 3 ([.int .i64 ((left - szO ((toHp M).obj y) : Nat) : Int)]) := hb5
    refine wli_nil (fi_then (ci_region (wli (.round _) rfl (st_ldb I_ok hb8 rfl rfl (wli (.round _) rfl (zj2 I_ok hb10 rfl (zq7 hoi) ?_))))))
    refine wli (.round _) rfl (st_bs I_ok rfl 73 rfl objZ_c.symm (by rw [zq7 objZ_in]) (by decide) (by decide) ⟨⟨by rw [zj9]; exact zq7 hoi, by decide⟩, trivial⟩ (l' := objC ((toHp M).obj y) a2) (one_obj hoi) fun b26 w9 hn26 hb26 hE9 hs9 => ?_)
    have ne5_26 : b5 ≠ b26 := Nat.ne_of_lt (Nat.lt_of_lt_of_le hb5.lt hn26)
    have ne8_26 : b8 ≠ b26 := Nat.ne_of_lt (Nat.lt_of_lt_of_le hb8.lt hn26)
    have ne10_26 : b10 ≠ b26 := Nat.ne_of_lt (Nat.lt_of_lt_of_le hb10.lt hn26)
    have fr26 := Nat.le_trans hX.size hn26
    have hb5 := hb5.zq2 hE9
    have hb8 := hb8.zq2 hE9
    have hb10 := hb10.zq2 hE9
    have hO := hO.zq2 hE9
    have hN := hN.zq2 hE9
    have hLr := hl_ext hLr hE9 id
    have hX := hX.zq4 hE9
    have nl26 := hb26.neL hLr
    have hX1 := hX
    have hX1s := hX.size
    have hs26 : Sl w9 (some ⟨b26, 0, none⟩) 1 73 (objC ((toHp M).obj y) a2) := ⟨zq7 hoi, .inr ⟨b26, 0, rfl, hb26.seg⟩⟩
    refine wli (.round _) rfl (zv2 I_ok rfl 73 192 rfl rfl rfl (by decide) hO.own (Src.slice (m := 1) hs26 OneC.h) (by dsimp only; dsimp only [maxLen]; omega) (by dsimp only; omega) fun p10 c10 w10 ho10 hE10 hB10 => ?_)
    dsimp only at ho10 hE10 hB10 ⊢
    have hX := hX1.then (hE10.mono fun x _ e => .inl (.inl (.inr (.inl e))))
    have hb5 := hb5.zq8 hO.own hE10 (by decide)
    have hb8 := hb8.zq8 hO.own hE10 (by decide)
    have hLr := hl_ext hLr hE10 fun e => (hRd.fp _ (.inr (.inl e))).1 rfl
    obtain ⟨q2, k2, e1, e2, hoo⟩ : ∃ q2 k2, q2 = p10 ∧ k2 = c10 ∧ Own w10 q2 (out.length + 1) k2 46 73 (out.flatMap objX ++ objC ((toHp M).obj y) a2) := ⟨_, _, rfl, rfl, ho10⟩
    rw [← e1] at hB10
    rw [← e1, ← e2, show out.length + 1 = (out ++ [(((toHp M).obj y), a2)]).length from by rw [List.length_append]; rfl]
    have hO2 := hO.snoc hN (fun x hx b hb hb2 => (hNx.ne b hb2).2.2.2 (.inr (.inr ⟨x, hx, hb⟩))) ⟨hoi, hos⟩ hE10 hoo hB10 (Nat.le_trans hRd.X.size hX1s)
    have hqB := hB10
    have hb8o := hb8
    refine wli (.round _) rfl (st_st I_ok hb8 rfl rfl rfl fun w11 hb8 hE11 hs11 => ?_)
    have hb5 := hb5.ext1 hE11 ne5_8
    have hLr := hl_ext hLr hE11 nl8.symm
    have hO2 := hO2.one hE11 hb8o (by decide) (by decide) (by decide) (by decide)
    have hX := hX.then (hE11.mono fun x _ e => by have e : x = b8 := e; subst e; exact (.inl (.inl (.inl (.inr rfl)))))
    have hb8 : Blk w11 b8 50 ([.slice q2 (out ++ [(((toHp M).obj y), a2)]).length k2]) := hb8
    refine wli_nil ?_
    exact zx6 (fin_nextV ((out ++ [(((toHp M).obj y), a2)], q2, k2, left - szO ((toHp M).obj y))) hRd hNx hLr hX (fun x hx => by
  rcases hx with hx | hx | ⟨o, ho, hx⟩
  ·exact .inl (.inl hx)
  ·exact (hqB x hx).elim (fun h => .inl (.inr (.inl h))) fun h => .inr (.inr (Nat.le_trans hX1s h))
  ·rcases List.mem_append.1 ho with ho | ho
   ·exact .inl (.inr (.inr ⟨o, ho, hx⟩))
   ·rw [List.mem_singleton.1 ho] at hx; exact .inr (.inl hx)) (⟨hO2, by rw [hOe, List.map_append, List.append_assoc]; rfl, by rw [List.length_append]; exact Nat.succ_le_succ hol, by dsimp only; omega, hb5, hb8⟩))
  ·obtain ⟨out, q, kq, left⟩ := z
   obtain ⟨hO, hOe, hol, hln, hb5, hb8⟩ := hJ
   dsimp only at hO hOe hol hln hb5 hb8
   have hX : Ext No w W := hXw.trans hE fun x hx e => by rcases e with (e | e) | e | ⟨_, e, _⟩; omega; omega; cases e; cases e
   have nD8 : ¬ One b8 DD := fun e => hnd b8 (.inl (.inr rfl)) (show DD = b8 from e).symm
   have hOD := fun x hx => hnd x (.inr hx)
   have s8 : ¬ b8 ∈ [DD] := fun e => nD8 (List.mem_singleton.1 e).symm
   rw [List.drop_length, List.map_nil, fitGo, List.append_nil, ← ansGo_fit] at hOe
   refine zx6 (zq1 (zq5 (zq0 (wl (st_ldb I_ok hb8 rfl rfl (wl_p I_ok rfl (zq3 (zq1 (zj0 ?_)))))))))
   refine f_noGotoR (f_retMs [DD] (by simp) (fun x hx => by rw [List.mem_singleton.1 hx]; exact hmk) [.slice q out.length kq, .int .i64 0] (fun w20 hE20 => ?_) (.inl rfl))
   exact ⟨⟨rfl, rfl, trivial⟩, fun e => absurd e (by omega), fun N e hN => (by have e : m = N := (by omega); subst e; exact ⟨q, kq, out, rfl, hOe.symm, (hO.ext hE20 fun x hx e => hOD x hx (List.mem_singleton.1 e)).older hXs⟩), hX.trans hE20 fun x hx e => by have := List.mem_singleton.1 e; omega⟩
  ·obtain ⟨rfl, hJ⟩ := hJ
   obtain ⟨out, q, kq, left⟩ := z
   obtain ⟨hO, hOe, _, hb8⟩ := hJ
   dsimp only at hO hOe hb8
   rw [← ansGo_fit] at hOe
   have hX : Ext No w W := hXw.trans hE fun x hx e => by rcases e with (e | e) | e | ⟨_, e, _⟩; omega; omega; cases e; cases e
   have nD8 : ¬ One b8 DD := fun e => hnd b8 (.inl (.inr rfl)) (show DD = b8 from e).symm
   have hOD := fun x hx => hnd x (.inr hx)
   have s8 : ¬ b8 ∈ [DD] := fun e => nD8 (List.mem_singleton.1 e).symm
   refine c_exit (zz0 (zq1 (zq5 (zq0 (wl (st_ldb I_ok hb8 rfl rfl (wl_p I_ok rfl (zq3 (zq1 (zj0 ?_))))))))))
   refine f_noGotoR (f_retMs [DD] (by simp) (fun x hx => by rw [List.mem_singleton.1 hx]; exact hmk) [.slice q out.length kq, .int .i64 0] (fun w20 hE20 => ?_) (.inl rfl))
   exact ⟨⟨rfl, rfl, trivial⟩, fun e => absurd e (by omega), fun N e hN => (by have e : m = N := (by omega); subst e; exact ⟨q, kq, out, rfl, hOe.symm, (hO.ext hE20 fun x hx e => hOD x hx (List.mem_singleton.1 e)).older hXs⟩), hX.trans hE20 fun x hx e => by have := List.mem_singleton.1 e; omega⟩
def cutLeaf8 (r : zj8) : zj8 := ⟨r.path.take 60, r.id⟩
def cutChg8 (r : ChgD) : ChgD := ⟨r.path.take 60, r.is, r.text.take 257⟩
def cutL8 (o : ObjD) : ObjD := { cutN o with leaves := o.leaves.take 33 }
def cutP8 (o : ObjD) : ObjD := { cutL8 o with parents := o.parents.take 4 }
def cutO8 (o : ObjD) : ObjD := { cutP8 o with rows := o.rows.take 8 }
def objO8 (o : ObjD) : ObjD := { cutO8 o with leaves := (o.leaves.take 33).map cutLeaf8, rows := (o.rows.take 8).map cutChg8 }
theorem cutL8_in {o : ObjD} (h : ObjIn o) : ObjIn (cutL8 o) := ⟨h.tree, h.base, h.parents, fun r hr => h.leaves r (List.mem_of_mem_take hr), h.rows, h.number, h.author⟩
theorem cutP8_in {o : ObjD} (h : ObjIn o) : ObjIn (cutP8 o) := ⟨h.tree, h.base, fun r hr => h.parents r (List.mem_of_mem_take hr), fun r hr => h.leaves r (List.mem_of_mem_take hr), h.rows, h.number, h.author⟩
theorem cutO8_in {o : ObjD} (h : ObjIn o) : ObjIn (cutO8 o) := ⟨h.tree, h.base, fun r hr => h.parents r (List.mem_of_mem_take hr), fun r hr => h.leaves r (List.mem_of_mem_take hr), fun r hr => h.rows r (List.mem_of_mem_take hr), h.number, h.author⟩
structure ObjCap (x : ObjD) (a : ObjP) : Prop where
  leaves : x.leaves.length ≤ a.lc
  parents : x.parents.length ≤ a.pc
  rows : x.rows.length ≤ a.rc
theorem objC_cutN {x : ObjD} {a : ObjP} (h : ObjIn x) : (objC (cutT x) a).set (68 + 4) (strV (x.note.take 201)) = objC (cutN x) a := objC_set (cutT_in h) 4 _
theorem objC_cutP8 {x : ObjD} {a : ObjP} (h : ObjIn x) : (objC (cutL8 x) a).set (68 + 0) (.slice a.pp (x.parents.take 4).length a.pc) = objC (cutP8 x) a := objC_set (cutL8_in h) 0 _
theorem objC_cutO8 {x : ObjD} {a : ObjP} (h : ObjIn x) : (objC (cutP8 x) a).set (68 + 1) (.slice a.rp (x.rows.take 8).length a.rc) = objC (cutO8 x) a := objC_set (cutP8_in h) 1 _
theorem objC_objO8 (x : ObjD) (a : ObjP) : objC (objO8 x) a = objC (cutO8 x) a := by
 simp only [objC, objO8, cutO8, List.length_map]; rfl
theorem cutO8_l {w : World} {x : ObjD} {a : ObjP} (h : ObjL w x a) (hx : ObjIn x) : ObjL w (cutO8 x) a :=
 ⟨h.leaves.cut (fun r hr => zj8.len (hx.leaves r hr).2) 33, h.parents.cut (fun r hr => (by rw [zx0]; exact hx.parents r hr)) 4, h.rows.cut (fun r _ => r.len) 8⟩
theorem cutO8_leaves (x : ObjD) : (cutO8 x).leaves.length < 1000000000 := Nat.lt_of_le_of_lt (by show (x.leaves.take 33).length ≤ 33; rw [List.length_take]; omega) (by decide : 33 < 1000000000)
theorem cutO8_parents (x : ObjD) : (cutO8 x).parents.length < 1000000000 := Nat.lt_of_le_of_lt (by show (x.parents.take 4).length ≤ 8; rw [List.length_take]; omega) (by decide : 8 < 1000000000)
theorem cutO8_rows (x : ObjD) : (cutO8 x).rows.length < 1000000000 := Nat.lt_of_le_of_lt (by show (x.rows.take 8).length ≤ 8; rw [List.length_take]; omega) (by decide : 8 < 1000000000)
theorem leaf_cut8 {L : List zj8} (hL : ∀ r ∈ L, r.id.length = 32) {i : Nat} (hi : i < L.length) :
  ((upto cutLeaf8 i L).flatMap zj8.cells).set (i * 33 + 0) (strV ((L[i]).path.take 60)) = (upto cutLeaf8 (i + 1) L).flatMap zj8.cells := by
 have h1 : i < (upto cutLeaf8 i L).length := by rw [upto_len]; exact hi
 have h2 : ∀ r ∈ upto cutLeaf8 i L, (zj8.cells r).length = 33 := upto_mem (fun r hr => zj8.len (hL r hr)) (fun r h => h)
 rw [flat_set h2 h1 (by decide) (y := cutLeaf8 L[i]) (by rw [upto_get hi]; rfl), upto_step hi]
theorem chg_cut8 {L : List ChgD} {i : Nat} (hi : i < L.length) :
  (((upto cutChg8 i L).flatMap ChgD.cells).set (i * 3 + 0) (strV ((L[i]).path.take 60))).set (i * 3 + 2) (strV ((L[i]).text.take 257)) = (upto cutChg8 (i + 1) L).flatMap ChgD.cells := by
 have h1 : i < (upto cutChg8 i L).length := by rw [upto_len]; exact hi
 rw [flat_set (fun r _ => r.len) h1 (by decide) (y := ⟨(L[i]).path.take 60, (L[i]).is, (L[i]).text⟩) (by rw [upto_get hi]; rfl),
  flat_set (fun r _ => r.len) (by rw [List.length_set]; exact h1) (by decide) (y := cutChg8 L[i]) (by rw [List.getElem_set_self]; rfl), List.set_set, upto_step hi]
theorem Own.row {α : Type} {w : World} {p : Option Addr} {c T sz : Nat} {g : α → α} {f : α → List Value} {i : Nat} {l : List α} (h : Own w p l.length c T sz ((upto g i l).flatMap f)) (hn : ∀ x ∈ upto g i l, (f x).length = sz) {b : Nat} (hp : p = some ⟨b, 0, none⟩) (hi : i < l.length) : Seg w b (i * sz) (f l[i]) := by
 have h1 := h.sl
 have h2 : Sl w p (upto g i l).length sz ((upto g i l).flatMap f) := by rw [upto_len]; exact h1
 have h3 : i < (upto g i l).length := by rw [upto_len]; exact hi
 obtain ⟨b', off, e, hs⟩ := h2.rowAll hn (by omega)
 rw [hp] at e
 cases e
 have := hs i h3
 rw [upto_get hi, Nat.zero_add] at this
 exact this
theorem short_calls (w : World) {x : ObjD} {a : ObjP} (hx : ObjIn x) (hxl : ObjL w x a) (hcap : ObjCap x a) :
  zz1 Tryz.prog 19 [.agg (objC x a).toArray] w fun v w' => ∃ a', v = .agg (objC (objO8 x) a').toArray ∧ ObjNew w w' (objO8 x) a' ∧ Ext No w w' := by
 refine zq9 Tryz.func19 rfl rfl rfl rfl ?_
 have hX := Ext.refl No w
 refine zq5 (zq0 (wl (zz9 I_ok rfl fun b1 w1 hn1 hb1 hE1 => ?_)))
 have fr1 := Nat.le_trans hX.size hn1
 have hX := hX.zq4 hE1
 have hb1 : Blk w1 b1 46 (objC x a) := hb1
 refine wl (zz9 I_ok rfl fun b2 w2 hn2 hb2 hE2 => ?_)
 have ne1_2 : b1 ≠ b2 := Nat.ne_of_lt (Nat.lt_of_lt_of_le hb1.lt hn2)
 have fr2 := Nat.le_trans hX.size hn2
 have hb1 := hb1.zq2 hE2
 have hX := hX.zq4 hE2
 refine zq3 (zq1 (zq5 ?_))
 refine c_drawL I_ok rfl [] 15 [11, 12, 13] [(0, true), (1, true), (2, true), (3, true), (4, true), (5, true), (6, true), (7, true), (8, true), (9, true), (10, true), (14, true)] [29, 30, 31, 15, 16, 17] (No) (by kernel_rfl) rfl fun w3 hE3 hs3 => ?_
 have hd1 := hb1
 have hb1 := hb1.zq2 hE3
 have hb2 := hb2.zq2 hE3
 have hX := hX.zq4 hE3
 refine wd_k I_ok 1 rfl (wd_ld I_ok rfl rfl (fun w' hw' => ((hd1.zq2 hw').seg.obj hx).text) ?_)
 refine wd_k I_ok 1 rfl (wd_ld I_ok rfl rfl (fun w' hw' => ((hd1.zq2 hw').seg.obj hx).text) ?_)
 refine wd_k I_ok 2 rfl (wd_ss I_ok rfl rfl 0 (min _ 257) (cutBds _ _) ?_)
 rw [strU_cut]
 refine wd_k I_ok 1 rfl (wd_ld I_ok rfl rfl (fun w' hw' => ((hd1.zq2 hw').seg.obj hx).note) ?_)
 refine wd_k I_ok 1 rfl (wd_ld I_ok rfl rfl (fun w' hw' => ((hd1.zq2 hw').seg.obj hx).note) ?_)
 refine wd_k I_ok 1 rfl (wd_sw (wbf I_ok (i := 11) rfl rfl rfl rfl rfl (by kernel_rfl) (wbf I_ok (i := 12) rfl rfl rfl rfl rfl (by kernel_rfl) (wb_ss I_ok (i := 13) rfl rfl rfl 0 (min _ 201) (cutBds _ _) (by kernel_rfl) ?_))))
 rw [strU_cut]
 refine wb rfl (st_st I_ok hb1 rfl rfl rfl fun w4 hb1 hE4 hs4 => ?_)
 have hb2 := hb2.ext1 hE4 ne1_2.symm
 have hX := hX.zx1 hE4 fr1
 have hb1 : Blk w4 b1 46 (objC (cutT x) a) := hb1
 refine wb rfl (st_p I_ok rfl rfl rfl ?_)
 refine wb rfl (st_set I_ok hb1 rfl rfl (by rw [zq7 (cutT_in hx)]; decide) fun w5 hb1 hE5 hs5 => ?_)
 have hb2 := hb2.ext1 hE5 ne1_2.symm
 have hX := hX.zx1 hE5 fr1
 have hb1 : Blk w5 b1 46 (objC (cutN x) a) := (by have h : Blk _ b1 _ ((objC (cutT x) a).set (68 + 4) (strV (x.note.take 201))) := hb1; rw [objC_cutN hx] at h; exact h)
 refine zv0 (zq1 (zq5 ?_))
 refine c_drawL I_ok rfl [] 24 [11, 12, 13, 20, 21, 22] [(0, true), (1, true), (2, true), (3, true), (4, true), (5, true), (6, true), (7, true), (8, true), (9, true), (10, true), (14, true), (15, true), (16, true), (17, true), (18, true), (19, true), (23, true)] [41, 42, 43, 50, 51, 52, 24, 25, 26, 27, 28, 29] (No) (by kernel_rfl) rfl fun w6 hE6 hs6 => ?_
 have hd1 := hb1
 have hb1 := hb1.zq2 hE6
 have hb2 := hb2.zq2 hE6
 have hX := hX.zq4 hE6
 refine wd_k I_ok 1 rfl (wd_ld I_ok rfl rfl (fun w' hw' => ((hd1.zq2 hw').seg.obj (cutN_in hx)).leaves) ?_)
 refine wd_k I_ok 1 rfl (wd_ld I_ok rfl rfl (fun w' hw' => ((hd1.zq2 hw').seg.obj (cutN_in hx)).leaves) ?_)
 refine wd_k I_ok 2 rfl (wd_sl I_ok rfl rfl 0 (min x.leaves.length 33) a.lc 33 rfl (.inr ⟨rfl, rfl⟩) (.inl (congrArg some (minI _ _))) (.inr ⟨rfl, rfl⟩) (Nat.zero_le _) (by have := hcap.leaves; omega) (Nat.le_refl _) ?_)
 rw [slBase_zero, Nat.sub_zero, Nat.sub_zero, min_take]
 refine wd_k I_ok 1 rfl (wd_ld I_ok rfl rfl (fun w' hw' => ((hd1.zq2 hw').seg.obj (cutN_in hx)).parents) ?_)
 refine wd_k I_ok 1 rfl (wd_ld I_ok rfl rfl (fun w' hw' => ((hd1.zq2 hw').seg.obj (cutN_in hx)).parents) ?_)
 refine wd_k I_ok 2 rfl (wd_ld I_ok rfl rfl (fun w' hw' => ((hd1.zq2 hw').seg.obj (cutN_in hx)).rows) ?_)
 refine wd_k I_ok 2 rfl (wd_ld I_ok rfl rfl (fun w' hw' => ((hd1.zq2 hw').seg.obj (cutN_in hx)).rows) ?_)
 refine wd_k I_ok 1 rfl (wd_sw (wbf I_ok (i := 11) rfl rfl rfl rfl rfl (by kernel_rfl) (wbf I_ok (i := 12) rfl rfl rfl rfl rfl (by kernel_rfl) ?_)))
 refine wb_sl I_ok (i := 13) rfl rfl rfl 0 (min x.parents.length 4) a.pc 32 rfl (.inr ⟨rfl, rfl⟩) (.inl (congrArg some (minI _ _))) (.inr ⟨rfl, rfl⟩) (Nat.zero_le _) (by have := hcap.parents; omega) (Nat.le_refl _) (by kernel_rfl) ?_
 rw [slBase_zero, Nat.sub_zero, Nat.sub_zero, min_take]
 refine wbf I_ok (i := 20) rfl rfl rfl rfl rfl (by kernel_rfl) (wbf I_ok (i := 21) rfl rfl rfl rfl rfl (by kernel_rfl) ?_)
 refine wb_sl I_ok (i := 22) rfl rfl rfl 0 (min x.rows.length 8) a.rc 3 rfl (.inr ⟨rfl, rfl⟩) (.inl (congrArg some (minI _ _))) (.inr ⟨rfl, rfl⟩) (Nat.zero_le _) (by have := hcap.rows; omega) (Nat.le_refl _) (by kernel_rfl) ?_
 rw [slBase_zero, Nat.sub_zero, Nat.sub_zero, min_take]
 refine wb rfl (st_st I_ok hb1 rfl rfl rfl fun w7 hb1 hE7 hs7 => ?_)
 have hb2 := hb2.ext1 hE7 ne1_2.symm
 have hX := hX.zx1 hE7 fr1
 have hb1 : Blk w7 b1 46 (objC (cutL8 x) a) := hb1
 refine wb rfl (st_p I_ok rfl rfl rfl ?_)
 refine wb rfl (st_set I_ok hb1 rfl rfl (by rw [zq7 (cutL8_in hx)]; decide) fun w8 hb1 hE8 hs8 => ?_)
 have hb2 := hb2.ext1 hE8 ne1_2.symm
 have hX := hX.zx1 hE8 fr1
 have hb1 : Blk w8 b1 46 (objC (cutP8 x) a) := (by have h : Blk _ b1 _ ((objC (cutL8 x) a).set (68 + 0) (.slice a.pp (x.parents.take 4).length a.pc)) := hb1; rw [objC_cutP8 hx] at h; exact h)
 refine wb rfl (st_p I_ok rfl rfl rfl (wb rfl (st_p I_ok rfl rfl rfl ?_)))
 refine wb rfl (st_set I_ok hb1 rfl rfl (by rw [zq7 (cutP8_in hx)]; decide) fun w9 hb1 hE9 hs9 => ?_)
 have hb2 := hb2.ext1 hE9 ne1_2.symm
 have hX := hX.zx1 hE9 fr1
 have hb1 : Blk w9 b1 46 (objC (cutO8 x) a) := (by have h : Blk _ b1 _ ((objC (cutP8 x) a).set (68 + 1) (.slice a.rp (x.rows.take 8).length a.rc)) := hb1; rw [objC_cutO8 hx] at h; exact h)
 refine zv0 (zq1 (zq5 (zq0 (wl (zj2 I_ok hb1 rfl (zq7 (cutO8_in hx)) ?_)))))
 have hX0 := hX
 refine wl (zx2 Tryz.call54 rfl rfl rfl rfl rfl rfl (copy6_calls w9 (cutO8_in hx) (cutO8_l (hxl.zq2 hX) hx) (cutO8_leaves x) (cutO8_parents x) (cutO8_rows x)) fun v10 w10 hr10 => ?_)
 obtain ⟨⟨lp, lc, pp, pc, rp, rc⟩, rfl, hN, hE10⟩ := hr10
 have hb1 := hb1.zq2 hE10
 have hb2 := hb2.zq2 hE10
 have hX := hX.zq4 hE10
 have hnl := fun y hy => Nat.le_trans hX0.size (hN.nl y hy)
 have hnp := fun y hy => Nat.le_trans hX0.size (hN.np y hy)
 have hnr := fun y hy => Nat.le_trans hX0.size (hN.nr y hy)
 have hol : Own w10 lp (x.leaves.take 33).length lc 56 33 ((upto cutLeaf8 0 (x.leaves.take 33)).flatMap zj8.cells) := (upto_zero cutLeaf8 _).symm ▸ hN.ol
 have hop : Own w10 pp (x.parents.take 4).length pc 31 32 ((x.parents.take 4).flatMap zq6) := hN.op
 have hor : Own w10 rp (x.rows.take 8).length rc 114 3 ((upto cutChg8 0 (x.rows.take 8)).flatMap ChgD.cells) := (upto_zero cutChg8 _).symm ▸ hN.or
 have hb1o := hb1
 refine wl (zj1 (l' := objC (cutO8 x) ⟨lp, lc, pp, pc, rp, rc⟩) I_ok hb1 rfl rfl (zq7 (cutO8_in hx)) (by rw [zq7 (cutO8_in hx), zq7 (cutO8_in hx)]) OneC.h fun w11 hb1 hE11 hs11 => ?_)
 have hb2 := hb2.ext1 hE11 ne1_2.symm
 have hol := hol.zx9 hE11 hb1o (by decide)
 have hop := hop.zx9 hE11 hb1o (by decide)
 have hor := hor.zx9 hE11 hb1o (by decide)
 have hX := hX.zx1 hE11 fr1
 refine zq3 (zq1 (zq5 (zq5 (zq0 (wl_p I_ok rfl (wl (st_ldb I_ok hb1 rfl rfl (wl_p I_ok rfl (zq3 (zq1 (zx4 ?_)))))))))))
 refine zv3 (α := Nat) [1, 2, 53] rfl (fun z => [(54, .int .i64 (z : Int))]) (fun z u => (z ≤ (x.leaves.take 33).length ∧ Own u lp (x.leaves.take 33).length lc 56 33 ((upto cutLeaf8 z (x.leaves.take 33)).flatMap zj8.cells) ∧ Own u pp (x.parents.take 4).length pc 31 32 ((x.parents.take 4).flatMap zq6) ∧ Own u rp (x.rows.take 8).length rc 114 3 ((upto cutChg8 0 (x.rows.take 8)).flatMap ChgD.cells)) ∧ Blk u b1 46 (objC (cutO8 x) ⟨lp, lc, pp, pc, rp, rc⟩) ∧ Blk u b2 46 (cellsOf ti46.zero) ∧ Ext No w u) (fun z u => (x.leaves.take 33).length - z) (0) rfl ⟨⟨Nat.zero_le _, hol, hop, hor⟩, hb1, hb2, hX⟩ ?_
 rintro i w12 ⟨⟨hi, hol, hop, hor⟩, hb1, hb2, hX⟩
 refine zq5 (zq0 (wl_p I_ok rfl (zq3 (zq1 (zq5 (c_if rfl (fun hc => ?_) (fun hc => ?_)))))))
 ·have h33 : (x.leaves.take 33).length ≤ 33 := by rw [List.length_take]; omega
  have hi : i < (x.leaves.take 33).length := (by have h : i < (cutO8 x).leaves.length := (by omega); exact h)
  have hLid : ∀ r ∈ (x.leaves.take 33), r.id.length = 32 := fun r hr => (hx.leaves r (List.mem_of_mem_take hr)).2
  obtain ⟨bl, L, hp, hbl, hL, hnc, hcm, htk⟩ := hol.opened (by omega)
  have hrow := Own.row hol (upto_mem (fun r hr => zj8.len (hLid r hr)) (fun r h => h)) hp hi
  subst hp
  refine zx7 (zq1 (zq5 (zx4 (zq5 (zq0 (wl_p I_ok rfl (zq3 (zq1 ?_))))))))
  refine c_draw rfl 20 [(0, true), (1, true), (2, true), (3, true), (4, true), (5, true), (6, true), (7, true), (8, true), (9, true), (10, true), (11, true), (12, true), (13, true), (14, true), (15, true), (16, true), (17, true), (18, true), (19, true)] [20] (No) (by kernel_rfl) fun w13 hE13 hs13 => ?_
  have hd1 := hb1
  have hb1 := hb1.zq2 hE13
  have hb2 := hb2.zq2 hE13
  have hop := hop.ext hE13 fun _ _ => id
  have hor := hor.ext hE13 fun _ _ => id
  have hX := hX.zq4 hE13
  have hbl := hbl.zq2 hE13
  skip
  refine wd_k I_ok 1 rfl (wd_ld I_ok rfl rfl (fun w' hw' => (hd1.zq2 hw').cell rfl) ?_)
  refine wd_k I_ok 2 rfl (wd_ld I_ok rfl rfl (fun w' hw' => (hd1.zq2 hw').cell rfl) ?_)
  refine wd_k I_ok 1 rfl (wd_ix I_ok rfl rfl 33 rfl i rfl hi (0 + i * 33) rfl ?_)
  rw [Nat.zero_add]
  refine wd_k I_ok 1 rfl (wd_ld I_ok rfl rfl (fun w' hw' => ((hrow.zq2 hw') 0 _ rfl)) ?_)
  refine wd_k I_ok 1 rfl (wd_ld I_ok rfl rfl (fun w' hw' => (hd1.zq2 hw').cell rfl) ?_)
  refine wd_k I_ok 1 rfl (wd_ix I_ok rfl rfl 33 rfl i rfl hi (0 + i * 33) rfl ?_)
  rw [Nat.zero_add]
  refine wd_k I_ok 1 rfl (wd_ld I_ok rfl rfl (fun w' hw' => ((hrow.zq2 hw') 0 _ rfl)) ?_)
  refine wd_k I_ok 2 rfl (wd_ss I_ok rfl rfl 0 (min _ 60) (cutBds _ _) ?_)
  rw [strU_cut]
  refine wd_ix I_ok rfl rfl 33 rfl i rfl hi (0 + i * 33) rfl ?_
  rw [Nat.zero_add]
  refine wd_k I_ok 1 rfl (wd_sw ?_)
  have hblo := hbl
  have hXo := hX
  refine wb rfl (st_set I_ok hbl rfl rfl (by rw [hL]; have := Nat.mul_le_mul_right 33 hnc; omega) fun w14 hbl hE14 hs14 => ?_)
  have ne1 : b1 ≠ bl := hb1.ne hblo (by decide)
  have ne2 : b2 ≠ bl := hb2.ne hblo (by decide)
  have hb1 := hb1.ext1 hE14 ne1
  have hb2 := hb2.ext1 hE14 ne2
  have hX := hXo.zx1 hE14 (hnl bl rfl)
  have hop := hop.zx9 hE14 hblo (by decide)
  have hor := hor.zx9 hE14 hblo (by decide)
  have hol : Own w14 (some ⟨bl, 0, none⟩) (x.leaves.take 33).length lc 56 33 ((upto cutLeaf8 (i + 1) (x.leaves.take 33)).flatMap zj8.cells) := by
   rw [← leaf_cut8 hLid hi]; exact Own.setB hL hnc hcm htk hbl
  refine zv0 (zx6 (zq1 (zq0 (wl_p I_ok rfl ?_))))
  rw [IntWalk.i64_in _ (by omega)]
  refine zq3 ?_
  exact zv1 (i + 1) rfl ⟨⟨hi, hol, hop, hor⟩, hb1, hb2, hX⟩ (by first | omega | (dsimp only; omega))
 ·have hend : (x.leaves.take 33).length ≤ i := (by have h : (cutO8 x).leaves.length ≤ i := (by omega); exact h)
  refine c_exit (zx3 (zx3 (zz0 (zq1 (zq5 (zq5 (zq0 (wl_p I_ok rfl (wl (st_ld I_ok rfl (hb1.seg.obj (cutO8_in hx)).rows (wl_p I_ok rfl (zq3 (zq1 (zx4 ?_))))))))))))))
  refine zv3 (α := Nat) [1, 2, 81] rfl (fun z => [(82, .int .i64 (z : Int))]) (fun z u => (z ≤ (x.rows.take 8).length ∧ Own u lp (x.leaves.take 33).length lc 56 33 ((upto cutLeaf8 i (x.leaves.take 33)).flatMap zj8.cells) ∧ Own u pp (x.parents.take 4).length pc 31 32 ((x.parents.take 4).flatMap zq6) ∧ Own u rp (x.rows.take 8).length rc 114 3 ((upto cutChg8 z (x.rows.take 8)).flatMap ChgD.cells)) ∧ Blk u b1 46 (objC (cutO8 x) ⟨lp, lc, pp, pc, rp, rc⟩) ∧ Blk u b2 46 (cellsOf ti46.zero) ∧ Ext No w u) (fun z u => (x.rows.take 8).length - z) (0) rfl ⟨⟨Nat.zero_le _, hol, hop, hor⟩, hb1, hb2, hX⟩ ?_
  rintro j w15 ⟨⟨hj, hol, hop, hor⟩, hb1, hb2, hX⟩
  refine zq5 (zq0 (wl_p I_ok rfl (zq3 (zq1 (zq5 (c_if rfl (fun hc => ?_) (fun hc => ?_)))))))
  ·have h33 : (x.rows.take 8).length ≤ 8 := by rw [List.length_take]; omega
   have hj : j < (x.rows.take 8).length := (by have h : j < (cutO8 x).rows.length := (by omega); exact h)
   obtain ⟨bl, L, hp, hbl, hL, hnc, hcm, htk⟩ := hor.opened (by omega)
   have hrow := Own.row hor (fun r _ => r.len) hp hj
   subst hp
   refine zx7 (zq1 (zq5 (zx4 (zq5 (zq0 (wl_p I_ok rfl (zq3 (zq1 (zq5 (zq0 (wl_p I_ok rfl (wl (st_ld I_ok rfl (hb1.seg.obj (cutO8_in hx)).rows (wl_p I_ok rfl ?_))))))))))))))
   refine wl (st_ix I_ok rfl 3 rfl j rfl hj (0 + j * 3) rfl ?_)
   rw [Nat.zero_add]
   refine wl_p I_ok rfl (zq3 (zq1 ?_))
   refine c_drawL I_ok rfl [] 26 [1, 21, 22, 23] [(0, true), (2, true), (3, true), (4, true), (5, true), (6, true), (7, true), (8, true), (9, true), (10, true), (11, true), (12, true), (13, true), (14, true), (15, true), (16, true), (17, true), (18, true), (19, true), (20, true), (24, true), (25, true)] [31, 51, 52, 53, 26, 27, 28, 29] (No) (by kernel_rfl) rfl fun w16 hE16 hs16 => ?_
   have hb1 := hb1.zq2 hE16
   have hb2 := hb2.zq2 hE16
   have hol := hol.ext hE16 fun _ _ => id
   have hop := hop.ext hE16 fun _ _ => id
   have hX := hX.zq4 hE16
   have hbl := hbl.zq2 hE16
   refine wd_k I_ok 4 rfl (wd_ld I_ok rfl rfl (fun w' hw' => ((hrow.zq2 hw') 0 _ rfl)) ?_)
   refine wd_k I_ok 3 rfl (wd_ld I_ok rfl rfl (fun w' hw' => ((hrow.zq2 hw') 0 _ rfl)) ?_)
   refine wd_k I_ok 2 rfl (wd_ss I_ok rfl rfl 0 (min _ 60) (cutBds _ _) ?_)
   rw [strU_cut]
   refine wd_k I_ok 3 rfl (wd_ld I_ok rfl rfl (fun w' hw' => ((hrow.zq2 hw') 2 _ rfl)) ?_)
   refine wd_k I_ok 3 rfl (wd_ld I_ok rfl rfl (fun w' hw' => ((hrow.zq2 hw') 2 _ rfl)) ?_)
   refine wd_k I_ok 2 rfl (wd_sw (wbf I_ok (i := 1) rfl rfl rfl rfl rfl (by kernel_rfl) (wbf I_ok (i := 21) rfl rfl rfl rfl rfl (by kernel_rfl) (wbf I_ok (i := 22) rfl rfl rfl rfl rfl (by kernel_rfl) ?_))))
   refine wb_ss I_ok (i := 23) rfl rfl rfl 0 (min _ 257) (cutBds _ _) (by kernel_rfl) ?_
   rw [strU_cut]
   have hblo := hbl
   have hXo := hX
   refine wb rfl (st_set I_ok hbl rfl rfl (by rw [hL]; have := Nat.mul_le_mul_right 3 hnc; omega) fun w17 hbl1 hE17 hs17 => ?_)
   have ne1 : b1 ≠ bl := hb1.ne hblo (by decide)
   have ne2 : b2 ≠ bl := hb2.ne hblo (by decide)
   have hb1 := hb1.ext1 hE17 ne1
   have hb2 := hb2.ext1 hE17 ne2
   have hX := hXo.zx1 hE17 (hnr bl rfl)
   have hop := hop.zx9 hE17 hblo (by decide)
   have hol := hol.zx9 hE17 hblo (by decide)
   refine wb rfl (st_p I_ok rfl rfl rfl (wb rfl (st_p I_ok rfl rfl rfl ?_)))
   have hXo := hX
   refine wb rfl (st_set I_ok hbl1 rfl rfl (by show j * 3 + 2 < _; rw [List.length_set, hL]; have := Nat.mul_le_mul_right 3 hnc; omega) fun w18 hbl2 hE18 hs18 => ?_)
   have hb1 := hb1.ext1 hE18 ne1
   have hb2 := hb2.ext1 hE18 ne2
   have hX := hXo.zx1 hE18 (hnr bl rfl)
   have hop := hop.zx9 hE18 hbl1 (by decide)
   have hol := hol.zx9 hE18 hbl1 (by decide)
   have hor : Own w18 (some ⟨bl, 0, none⟩) (x.rows.take 8).length rc 114 3 ((upto cutChg8 (j + 1) (x.rows.take 8)).flatMap ChgD.cells) := by
    rw [← chg_cut8 hj]; exact Own.setB (by rw [List.length_set, hL]) hnc hcm (by rw [List.take_set, htk]) hbl2
   refine zv0 (zx6 (zq1 (zq0 (wl_p I_ok rfl ?_))))
   rw [IntWalk.i64_in _ (by omega)]
   refine zq3 ?_
   exact zv1 (j + 1) rfl ⟨⟨hj, hol, hop, hor⟩, hb1, hb2, hX⟩ (by first | omega | (dsimp only; omega))
  ·have hend2 : (x.rows.take 8).length ≤ j := (by have h : (cutO8 x).rows.length ≤ j := (by omega); exact h)
   refine c_exit (zx3 (zx3 (zz0 (zq1 (zq5 (zq0 (wl (zj2 I_ok hb1 rfl (zq7 (cutO8_in hx)) ?_))))))))
   have hb1o := hb2
   refine wl (zj1 (l' := objC (cutO8 x) ⟨lp, lc, pp, pc, rp, rc⟩) I_ok hb2 rfl rfl (zq7 (cutO8_in hx)) (by rw [zq7 (cutO8_in hx)]; rfl) OneC.h fun w19 hb2 hE19 hs19 => ?_)
   have hol := hol.zx9 hE19 hb1o (by decide)
   have hop := hop.zx9 hE19 hb1o (by decide)
   have hor := hor.zx9 hE19 hb1o (by decide)
   have hX := hX.zx1 hE19 fr2
   refine zq3 (zq1 (zj0 (f_ret [_] ⟨⟨b2, 0, rfl, ld_all I_ok rfl rfl hb2.seg (zq7 (cutO8_in hx))⟩, trivial⟩ ?_)))
   rw [upto_all hend] at hol
   rw [upto_all hend2] at hor
   exact ⟨⟨lp, lc, pp, pc, rp, rc⟩, by rw [objC_objO8]; rfl, ⟨by rw [show (objO8 x).leaves.length = (x.leaves.take 33).length from List.length_map ..]; exact hol, hop, by rw [show (objO8 x).rows.length = (x.rows.take 8).length from List.length_map ..]; exact hor, hnl, hnp, hnr⟩, hX⟩
theorem objO8_in {o : ObjD} (h : ObjIn o) : ObjIn (objO8 o) := ⟨h.tree, h.base, fun r hr => h.parents r (List.mem_of_mem_take hr), fun r hr => by
  obtain ⟨y, hy, rfl⟩ := List.mem_map.1 hr
  have := h.leaves y (List.mem_of_mem_take hy)
  exact ⟨Nat.le_trans (List.length_take_le _ _) (by decide), this.2⟩, fun r hr => by
  obtain ⟨y, hy, rfl⟩ := List.mem_map.1 hr
  exact ⟨Nat.le_trans (List.length_take_le _ _) (by decide), Nat.le_trans (List.length_take_le _ _) (by decide)⟩, h.number, h.author⟩
end Go.Proofs.YtpcdihkcenfgkaaGreatDoor
