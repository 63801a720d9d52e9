/-
  without a disk there is no store (StoreNil)
-/
import Derived.Test.YtpdiphfjmepijaaGreatDoorRows
import Derived.ProofKit
import Derived.LaidMore
import Derived.OpenShut
import Derived.Lib.LaidTab
import Derived.Test.YtpdiphfjmepijaaGreatDoorTie
import Derived.Test.YtpdiphfjmepijaaGreatDoorCards
import Derived.SevenTiedAt
import Derived.Test.YtpdiphfjmepijaaGreatDoorNiH
namespace Go.Proofs.YtpdiphfjmepijaaGreatDoor
open Go.Proofs.Tryz
open Go.Vc
abbrev Cs (l : List Bool) : List Value := l.map Value.bool
theorem tw_read {D : kg} (h1 : D.dead = false) (h2 : D.fault = -1) {i : Nat} (hi : i < D.secs.length) : D.read (i : Int) = ({ D with done := D.done + 1 }, D.now i, 0) := by
  have e : D.begin (i : Int) false = ({ D with done := D.done + 1 }, 0) := by
    unfold kg.begin
    rw [if_neg (by rw [h1]; decide), if_neg zo, if_neg (by rw [h2]; decide), if_neg zp]
    have e1 : uo D.fault = D.fault := by rw [h2]; rfl
    have e2 : yj false D.fuse = D.fuse := by simp [yj]
    rw [e1, e2]
  unfold kg.read
  dsimp only
  rw [e, Int.toNat_natCast]
  rfl
theorem fill_step {K j : Nat} (h : j < K) : (Cs (List.replicate j true ++ List.replicate (K - j) false)).set j (Value.bool true) = Cs (List.replicate (j + 1) true ++ List.replicate (K - (j + 1)) false) := by
  unfold Cs
  rw [List.map_append, List.map_append, List.map_replicate, List.map_replicate, List.map_replicate, List.map_replicate]
  apply List.ext_getElem
  · simp; omega
  · intro i h1 h2
    rw [List.getElem_set]
    by_cases e : j = i
    · subst e
      simp [List.getElem_replicate]
    · rw [if_neg e]
      simp only [List.getElem_append, List.length_replicate, List.getElem_replicate]
      by_cases h3 : i < j
      · rw [dif_pos h3, dif_pos zo]
      · rw [dif_neg h3, dif_neg zo]
theorem twins_calls (w : World) {d1 d2 m : Nat} {F1 F2 : Nat → Prop} {D : kg} (h1 : At w d1 F1 D) (h2 : At w d2 F2 D) (hok : D.Ok m) (hm : m + 5000 < 1000000000) :
    gp prog 24 [.pointer (some ⟨d1, 0, none⟩), .pointer (some ⟨d2, 0, none⟩)] w fun v w' => v = .bool true ∧ Ext No w w' := by
  refine gh func24 rfl rfl rfl rfl ?_
  have hX := Ext.refl No w
  have hA1 := h1
  have hA2 := h2
  have hF1 := h1.lt
  have hF2 := h2.lt
  have hfew := hok.few
  have hsize := hok.size
  refine jc rfl (km rfl (gi call74 rfl (zw6 w hA1 hok zo) fun v1 w1 hr1 => ?_))
  obtain ⟨p1, rfl, _, _, hE1⟩ := hr1
  have hA1 := hA1.ga hE1
  have hA2 := hA2.ga hE1
  have hX := hX.gb hE1
  refine j7 gc rfl (gi call74 rfl (zw6 w1 hA2 hok zo) fun v2 w2 hr2 => ?_)
  obtain ⟨p2, rfl, _, _, hE2⟩ := hr2
  have hA1 := hA1.ga hE2
  have hA2 := hA2.ga hE2
  have hX := hX.gb hE2
  refine ju rfl (gl (jv (α := Bool) [0, 1, 5] rfl (fun z => [(38, .bool z)]) (fun z u => (z = false ∧ At u d1 F1 D ∧ At u d2 F2 D) ∧ Ext No w u) ?_ ?_))
  · refine j1 ?_
    refine j7 gc rfl (gi call75 rfl (dk_ops w2 hA1) fun v3 w3 hr3 => ?_)
    obtain ⟨rfl, rfl⟩ := hr3
    refine j7 gc rfl (gi call75 rfl (dk_ops w3 hA2) fun v4 w4 hr4 => ?_)
    obtain ⟨rfl, rfl⟩ := hr4
    refine j7 gc rfl (jl 25 rfl (fun hg => ?_) (fun hg => ?_))
    · exact absurd rfl hg
    · refine j3 gc 1 rfl ?_
      refine gi call76 rfl (dk_dead w4 hA1) fun v5 w5 hr5 => ?_
      obtain ⟨rfl, rfl⟩ := hr5
      refine j3 gc 1 rfl (gi call76 rfl (dk_dead w5 hA2) fun v6 w6 hr6 => ?_)
      obtain ⟨rfl, rfl⟩ := hr6
      refine j3 gc 3 rfl (ua 32 rfl (fun hg => ?_) (fun hg => ?_))
      · simp at hg
      · refine j3 gc 6 rfl ?_
        refine gn ?_
        exact j4 (decide ((D.order.length : Int) ≠ (D.order.length : Int))) rfl ⟨⟨by simp, hA1, hA2⟩, hX⟩
  rintro z w7 ⟨⟨rfl, hA1, hA2⟩, hX⟩
  refine u3 rfl (j6 (gy (km rfl ?_)))
  have hX6 := hX.size
  refine gi call41 rfl (dk_copy w7 hA1 hok zo) fun v8 w8 hr8 => ?_
  obtain ⟨c1, rfl, hc1n, hcA, hE8⟩ := hr8
  have hA1 := hA1.ga hE8
  have hA2 := hA2.ga hE8
  have hX := hX.gb hE8
  have hwb := hE8.size
  generalize hFC1 : Grow _ _ _ = FC1 at hcA
  have hc1l : ∀ y, FC1 y → w.heap.size ≤ y ∧ y < w8.heap.size := fun y hy => by rw [← hFC1] at hy; exact hy.elim (fun e => e.elim) fun e => ⟨by omega, e.2⟩
  obtain ⟨nb1, hnb1⟩ : ∃ n, n = w8.heap.size := ⟨_, rfl⟩
  rw [← hnb1] at hc1l
  refine j7 gc rfl ?_
  have hX7 := hX.size
  have hnb1s : nb1 = w8.heap.size := hnb1
  refine gi call41 rfl (dk_copy w8 hA2 hok zo) fun v9 w9 hr9 => ?_
  obtain ⟨c2, rfl, hc2n, hcB, hE9⟩ := hr9
  have hA1 := hA1.ga hE9
  have hA2 := hA2.ga hE9
  have hcA := hcA.ga hE9
  have hX := hX.gb hE9
  generalize hFC2 : Grow _ _ _ = FC2 at hcB
  have hc2l : ∀ y, FC2 y → nb1 ≤ y := fun y hy => by rw [← hFC2] at hy; exact hy.elim (fun e => e.elim) fun e => by omega
  have hcl : ∀ y, FC1 y ∨ FC2 y → w.heap.size ≤ y := fun y hy => hy.elim (fun e => (hc1l y e).1) fun e => by have := hc2l y e; omega
  have hdj : ∀ y, FC1 y → ¬ FC2 y := fun y h1 h2 => by have := (hc1l y h1).2; have := hc2l y h2; omega
  refine ju rfl (gl (jc rfl (gu ?_)))
  refine jn (α := Nat × (Option Addr × Nat × Nat) × (Nat × Nat) × (Nat → Prop) × (Nat → Prop)) [0, 1] rfl (fun z => [(5, .slice z.2.1.1 z.2.1.2.1 z.2.1.2.2), (7, .pointer (some ⟨z.2.2.1.1, 0, none⟩)), (8, .pointer (some ⟨z.2.2.1.2, 0, none⟩)), (43, .int .i64 (z.1 : Int))]) (fun z u => ((z.1 ≤ 2 ∧ z.2.1.2.1 ≤ m) ∧ At u d1 F1 D ∧ At u d2 F2 D ∧ At u z.2.2.1.1 z.2.2.2.1 D ∧ At u z.2.2.1.2 z.2.2.2.2 D ∧ (∀ y, z.2.2.2.1 y ∨ z.2.2.2.2 y → w.heap.size ≤ y) ∧ (∀ y, z.2.2.2.1 y → ¬ z.2.2.2.2 y)) ∧ Ext No w u) (fun z u => 2 - z.1) (0, (some ⟨p1, 0, none⟩, D.order.length, D.order.length), (c1, c2), FC1, FC2) rfl ⟨⟨⟨Nat.zero_le _, hfew⟩, hA1, hA2, hcA, hcB, hcl, hdj⟩, hX⟩ ?_
  rintro ⟨k, ⟨pp, K, pc⟩, ⟨c1, c2⟩, FC1, FC2⟩ w10 ⟨⟨⟨hk2, hKm⟩, hA1, hA2, hcA, hcB, hcl, hdj⟩, hX⟩
  try dsimp only
  dsimp only at hk2 hKm hA1 hA2 hcA hcB hcl hdj
  refine jc rfl (gl (jp rfl (fun hc => ?_) (fun hc => ?_)))
  · have hkl : k < 2 := by omega
    refine xy (gu (km rfl ?_))
    have hla := hcA.lt
    have hlb := hcB.lt
    refine wl (Cg gc rfl K K 1 rfl rfl rfl zd rfl rfl (Nat.le_refl _) zo zr fun b47 w11 hn47 hb47 hE11 hs11 => ?_)
    have fr47 := Nat.le_trans hX.size hn47
    have hA1 := hA1.ga hE11
    have hA2 := hA2.ga hE11
    have hcA := hcA.ga hE11
    have hcB := hcB.ga hE11
    have hX := hX.gb hE11
    have hb47 : gz w11 b47 4 (Cs (List.replicate 0 true ++ List.replicate (K - 0) false)) := by (have e : Bw K (cellsOf ti4.zero) = Cs (List.replicate 0 true ++ List.replicate (K - 0) false) := by rw [show cellsOf ti4.zero = [Value.bool false] from rfl, rep_one, Cs]; simp); rw [← e]; exact hb47
    have nbA47 : ∀ y, FC1 y → y ≠ b47 := fun y hy e => by have := hla y hy; omega
    have nbB47 : ∀ y, FC2 y → y ≠ b47 := fun y hy e => by have := hlb y hy; omega
    refine ju rfl (gl (jc rfl (gu ?_)))
    refine jn (α := Nat) [0, 1, 7, 8, 9, 43, 49] rfl (fun z => [(50, .int .i64 (z : Int))]) (fun z u => (z ≤ K ∧ At u d1 F1 D ∧ At u d2 F2 D ∧ At u c1 FC1 D ∧ At u c2 FC2 D) ∧ gz u b47 4 (Cs (List.replicate z true ++ List.replicate (K - z) false)) ∧ Ext No w u) (fun z u => K - z) (0) rfl ⟨⟨Nat.zero_le _, hA1, hA2, hcA, hcB⟩, hb47, hX⟩ ?_
    rintro j w12 ⟨⟨hj, hA1, hA2, hcA, hcB⟩, hb47, hX⟩
    refine jc rfl (gl (jp rfl (fun hc => ?_) (fun hc => ?_)))
    · have hjK : j < K := by omega
      refine xy (gu (jc rfl (yu rfl (ka rfl 1 rfl j rfl hjK (0 + j * 1) rfl ?_))))
      refine wl (qz gc hb47 rfl rfl (by simp [Cs]; omega) fun w13 hb47 hE13 hs13 => ?_)
      have hA1 := hA1.ext hE13 fun y hy e => by have e : y = b47 := e; have := hF1 y hy; omega
      have hA2 := hA2.ext hE13 fun y hy e => by have e : y = b47 := e; have := hF2 y hy; omega
      have hcA := hcA.ext hE13 fun y hy e => by have e : y = b47 := e; exact nbA47 y hy e
      have hcB := hcB.ext hE13 fun y hy e => by have e : y = b47 := e; exact nbB47 y hy e
      have hX := hX.gj hE13 fr47
      have hb47 : gz w13 b47 4 (Cs (List.replicate (j + 1) true ++ List.replicate (K - (j + 1)) false)) := by (have e := hb47; rw [show 0 + j * 1 = j from by omega, fill_step hjK] at e; exact e)
      refine gn (B4 rfl ?_)
      rw [IntWalk.i64_in _ zo]
      refine gn ?_
      exact jm (j + 1) rfl ⟨⟨by omega, hA1, hA2, hcA, hcB⟩, hb47, hX⟩ zf
    · have hjK : j = K := by omega
      rw [hjK, Nat.sub_self, List.replicate_zero, List.append_nil] at hb47
      refine Bg (gl ?_)
      refine jv (α := Bool) [0, 1, 7, 8, 43] rfl (fun z => [(66, .bool z)]) (fun z u => (z = false ∧ At u d1 F1 D ∧ At u d2 F2 D ∧ At u c1 FC1 (D.D3 (List.replicate K true)) ∧ At u c2 FC2 (D.D3 (List.replicate K true))) ∧ Ext No w u) ?_ ?_
      · refine j1 ?_
        refine j7 gc rfl ?_
        refine gi call46 rfl (dk_crash w12 hcA hok zo (keep := List.replicate K true) zp ⟨by simp [], .inr ⟨b47, 0, rfl, hb47.ki⟩⟩ (fun b off e hF => by cases e; exact nbA47 _ hF rfl)) fun v14 w14 hr14 => ?_
        obtain ⟨rfl, hcA2, hE14⟩ := hr14
        have hX := hX.trans hE14 fun y hy e => by have := hcl y (.inl e); omega
        have hb47 := hb47.ext hE14 fun e => nbA47 _ e rfl
        have hA1 := hA1.ext hE14 fun y hy e => by have := hF1 y hy; have := hcl y (.inl e); omega
        have hA2 := hA2.ext hE14 fun y hy e => by have := hF2 y hy; have := hcl y (.inl e); omega
        have hcB := hcB.ext hE14 fun y hy e => hdj y e hy
        have hcA := hcA2
        refine j7 gc rfl (ua 61 rfl (fun hg => ?_) (fun hg => ?_))
        · cases hg
        · refine j3 gc 2 rfl ?_
          refine gi call46 rfl (dk_crash w14 hcB hok zo (keep := List.replicate K true) zp ⟨by simp [], .inr ⟨b47, 0, rfl, hb47.ki⟩⟩ (fun b off e hF => by cases e; exact nbB47 _ hF rfl)) fun v15 w15 hr15 => ?_
          obtain ⟨rfl, hcB2, hE15⟩ := hr15
          have hX := hX.trans hE15 fun y hy e => by have := hcl y (.inr e); omega
          have hb47 := hb47.ext hE15 fun e => nbB47 _ e rfl
          have hA1 := hA1.ext hE15 fun y hy e => by have := hF1 y hy; have := hcl y (.inr e); omega
          have hA2 := hA2.ext hE15 fun y hy e => by have := hF2 y hy; have := hcl y (.inr e); omega
          have hcA := hcA.ext hE15 fun y hy e => hdj y hy e
          have hcB := hcB2
          refine j3 gc 2 rfl (gn ?_)
          exact j4 (decide ((0 : Int) ≠ 0)) rfl ⟨⟨by simp, hA1, hA2, hcA, hcB⟩, hX⟩
      rintro z w16 ⟨⟨rfl, hA1, hA2, hcA, hcB⟩, hX⟩
      refine u3 rfl (xy (km rfl ?_))
      have hokc := hok.D3 (List.replicate K true)
      have hdd : (D.D3 (List.replicate K true)).dead = false := rfl
      have hdf : (D.D3 (List.replicate K true)).fault = -1 := rfl
      generalize D.D3 (List.replicate K true) = Dc at hcA hcB hokc hdd hdf ⊢
      have hszc := hokc.size
      refine gi call77 rfl (dk_len w16 hcA) fun v17 w17 hr17 => ?_
      obtain ⟨rfl, rfl⟩ := hr17
      refine ju rfl (gu ?_)
      refine jn (α := Nat × kg) [0, 1, 7, 8, 43, 68] rfl (fun z => [(69, .int .i64 (z.1 : Int))]) (fun z u => (z.1 ≤ Dc.secs.length ∧ At u d1 F1 D ∧ At u d2 F2 D ∧ At u c1 FC1 z.2 ∧ At u c2 FC2 z.2 ∧ z.2.dead = false ∧ z.2.fault = -1 ∧ z.2.secs.length = Dc.secs.length ∧ z.2.Ok (m + z.1)) ∧ Ext No w u) (fun z u => Dc.secs.length - z.1) (0, Dc) rfl ⟨⟨Nat.zero_le _, hA1, hA2, hcA, hcB, hdd, hdf, rfl, hokc⟩, hX⟩ ?_
      rintro ⟨i, E1⟩ w18 ⟨⟨hi, hA1, hA2, hcA, hcB, hd0, hf0, hs0, hokz⟩, hX⟩
      try dsimp only
      dsimp only at hi hA1 hA2 hcA hcB hd0 hf0 hs0 hokz
      refine jc rfl (gl (jp rfl (fun hc => ?_) (fun hc => ?_)))
      · have hil : i < Dc.secs.length := by omega
        have hrd := tw_read hd0 hf0 (i := i) zo
        have hB64 := Cv hokz i
        obtain ⟨Bn, hBn⟩ : ∃ B, B = E1.now i := ⟨_, rfl⟩
        rw [← hBn] at hrd hB64
        refine xy (gu (jc rfl (km rfl ?_)))
        refine gi call78 rfl (dkRead w18 hcA hokz zo (i : Int)) fun v19 w19 hr19 => ?_
        obtain ⟨rfl, hcA2, hE19⟩ := hr19
        rw [hrd] at hcA2
        rw [hrd]
        have hX := hX.trans hE19 fun y hy e => by have := hcl y (.inl e); omega
        have hA1 := hA1.ext hE19 fun y hy e => by have := hF1 y hy; have := hcl y (.inl e); omega
        have hA2 := hA2.ext hE19 fun y hy e => by have := hF2 y hy; have := hcl y (.inl e); omega
        have hcB := hcB.ext hE19 fun y hy e => hdj y e hy
        have hcA := hcA2
        refine j7 gc rfl ?_
        have hla := hcA.lt
        have hlb := hcB.lt
        refine gw rfl fun b12 w20 hn12 hb12 hE20 => ?_
        have fr12 := Nat.le_trans hX.size hn12
        have hA1 := hA1.ga hE20
        have hA2 := hA2.ga hE20
        have hcA := hcA.ga hE20
        have hcB := hcB.ga hE20
        have hX := hX.gb hE20
        have nbA12 : ∀ y, FC1 y → y ≠ b12 := fun y hy e => by have := hla y hy; omega
        have nbB12 : ∀ y, FC2 y → y ≠ b12 := fun y hy e => by have := hlb y hy; omega
        refine wl (j8 (l' := ge Bn) gc hb12 rfl rfl (by rw [gm, hB64]) (by rw [gm, hB64]; rfl) OneC.h fun w21 hb12 hE21 hs21 => ?_)
        have hA1 := hA1.ext hE21 fun y hy e => by have e : y = b12 := e; have := hF1 y hy; omega
        have hA2 := hA2.ext hE21 fun y hy e => by have e : y = b12 := e; have := hF2 y hy; omega
        have hcA := hcA.ext hE21 fun y hy e => by have e : y = b12 := e; exact nbA12 y hy e
        have hcB := hcB.ext hE21 fun y hy e => by have e : y = b12 := e; exact nbB12 y hy e
        have hX := hX.gj hE21 fr12
        have hb12 : gz w21 b12 165 (ge Bn) := hb12
        refine ju rfl (km rfl (gi call78 rfl (dkRead w21 hcB hokz zo (i : Int)) fun v22 w22 hr22 => ?_))
        obtain ⟨rfl, hcB2, hE22⟩ := hr22
        rw [hrd] at hcB2
        rw [hrd]
        have hX := hX.trans hE22 fun y hy e => by have := hcl y (.inr e); omega
        have hb12 := hb12.ext hE22 fun e => nbB12 _ e rfl
        have hA1 := hA1.ext hE22 fun y hy e => by have := hF1 y hy; have := hcl y (.inr e); omega
        have hA2 := hA2.ext hE22 fun y hy e => by have := hF2 y hy; have := hcl y (.inr e); omega
        have hcA := hcA.ext hE22 fun y hy e => hdj y hy e
        have hcB := hcB2
        refine j7 gc rfl ?_
        have hla := hcA.lt
        have hlb := hcB.lt
        refine gw rfl fun b14 w23 hn14 hb14 hE23 => ?_
        have ne12_14 : b12 ≠ b14 := Nat.ne_of_lt (Nat.lt_of_lt_of_le hb12.lt hn14)
        have fr14 := Nat.le_trans hX.size hn14
        have hb12 := hb12.ga hE23
        have hA1 := hA1.ga hE23
        have hA2 := hA2.ga hE23
        have hcA := hcA.ga hE23
        have hcB := hcB.ga hE23
        have hX := hX.gb hE23
        have nbA14 : ∀ y, FC1 y → y ≠ b14 := fun y hy e => by have := hla y hy; omega
        have nbB14 : ∀ y, FC2 y → y ≠ b14 := fun y hy e => by have := hlb y hy; omega
        refine wl (j8 (l' := ge Bn) gc hb14 rfl rfl (by rw [gm, hB64]) (by rw [gm, hB64]; rfl) OneC.h fun w24 hb14 hE24 hs24 => ?_)
        have hb12 := hb12.gk hE24 ne12_14
        have hA1 := hA1.ext hE24 fun y hy e => by have e : y = b14 := e; have := hF1 y hy; omega
        have hA2 := hA2.ext hE24 fun y hy e => by have e : y = b14 := e; have := hF2 y hy; omega
        have hcA := hcA.ext hE24 fun y hy e => by have e : y = b14 := e; exact nbA14 y hy e
        have hcB := hcB.ext hE24 fun y hy e => by have e : y = b14 := e; exact nbB14 y hy e
        have hX := hX.gj hE24 fr14
        have hb14 : gz w24 b14 165 (ge Bn) := hb14
        refine ju rfl (jv (α := Bool) [0, 1, 7, 8, 43, 68, 69] rfl (fun z => [(94, .bool z)]) (fun z u => u = w24 ∧ z = false) ?_ ?_)
        · refine j1 ?_
          refine j7 gc rfl (ua 86 rfl (fun hg => ?_) (fun hg => ?_))
          · cases hg
          · refine j3 gc 4 rfl ?_
            refine ua 90 rfl (fun hg => ?_) (fun hg => ?_)
            · cases hg
            · refine jh hb12 rfl (by rw [gm, hB64]) ?_
              refine jh hb14 rfl (by rw [gm, hB64]) (wl (st_eqA (xs := Dj Bn) (ys := Dj Bn) gc rfl zk (zq5 _) (zq5 _) (by rw [B0, hB64]) (by rw [B0, hB64]) (j7 gc rfl (gn ?_))))
              exact j4 (_) rfl ⟨rfl, by simp⟩
        rintro z w25 ⟨hu, rfl⟩
        have hu := hu.symm
        subst hu
        refine u3 rfl (j6 (B4 rfl ?_))
        rw [IntWalk.i64_in _ zo]
        refine gn ?_
        exact jm (i + 1, { E1 with done := E1.done + 1 }) rfl ⟨⟨by dsimp only; omega, hA1, hA2, hcA, hcB, hd0, hf0, hs0, by have e := hokz.read (i : Int); rw [hrd] at e; exact e⟩, hX⟩ zf
      · refine xw ?_
        refine qj (qj (uv (gy (yu rfl ?_))))
        have hX6 := hX.size
        refine gi call41 rfl (dk_copy w18 hA1 hok zo) fun v26 w26 hr26 => ?_
        obtain ⟨c1, rfl, hc1n, hcA, hE26⟩ := hr26
        have hA1 := hA1.ga hE26
        have hA2 := hA2.ga hE26
        have hX := hX.gb hE26
        have hwb := hE26.size
        generalize hFC1 : Grow _ _ _ = FC1 at hcA
        have hc1l : ∀ y, FC1 y → w.heap.size ≤ y ∧ y < w26.heap.size := fun y hy => by rw [← hFC1] at hy; exact hy.elim (fun e => e.elim) fun e => ⟨by omega, e.2⟩
        obtain ⟨nb1, hnb1⟩ : ∃ n, n = w26.heap.size := ⟨_, rfl⟩
        rw [← hnb1] at hc1l
        refine j7 gc rfl ?_
        have hX7 := hX.size
        have hnb1s : nb1 = w26.heap.size := hnb1
        refine gi call41 rfl (dk_copy w26 hA2 hok zo) fun v27 w27 hr27 => ?_
        obtain ⟨c2, rfl, hc2n, hcB, hE27⟩ := hr27
        have hA1 := hA1.ga hE27
        have hA2 := hA2.ga hE27
        have hcA := hcA.ga hE27
        have hX := hX.gb hE27
        generalize hFC2 : Grow _ _ _ = FC2 at hcB
        have hc2l : ∀ y, FC2 y → nb1 ≤ y := fun y hy => by rw [← hFC2] at hy; exact hy.elim (fun e => e.elim) fun e => by omega
        have hcl : ∀ y, FC1 y ∨ FC2 y → w.heap.size ≤ y := fun y hy => hy.elim (fun e => (hc1l y e).1) fun e => by have := hc2l y e; omega
        have hdj : ∀ y, FC1 y → ¬ FC2 y := fun y h1 h2 => by have := (hc1l y h1).2; have := hc2l y h2; omega
        refine j7 gc rfl (gn (B4 rfl ?_))
        rw [IntWalk.i64_in _ zo]
        refine gn ?_
        exact jm (k + 1, (none, 0, 0), (c1, c2), FC1, FC2) rfl ⟨⟨⟨by dsimp only; omega, Nat.zero_le _⟩, hA1, hA2, hcA, hcB, hcl, hdj⟩, hX⟩ zf
  · refine xw ?_
    refine qj (qj (uv (gy (jc rfl (gr (gv rfl rfl ?_))))))
    exact ⟨rfl, hX⟩
theorem Sl.mapAt {α : Type} {w : World} {p : Option Addr} {f : α → Value} {l : List α} (h : Sl w p l.length 1 (l.map f)) (h0 : 0 < l.length) : ∃ b off, p = some ⟨b, off, none⟩ ∧ Seg w b off (l.map f) := by
  obtain ⟨_, h1 | ⟨b, off, hp, hs⟩⟩ := h
  · omega
  · exact ⟨b, off, hp, hs⟩
theorem equalB_calls (w : World) {p q : Option Addr} {c d : Nat} {l m : List (UInt8)} (h : Sl w p l.length 1 (l.map Aa)) (h' : Sl w q m.length 1 (m.map Aa)) (hl : l.length < 1000000000) :
    gp prog 33 [.slice p l.length c, .slice q m.length d] w fun v w' => v = .bool (decide (l = m)) ∧ Ext No w w' := by
  refine gh func33 rfl rfl rfl rfl ?_
  have hX := Ext.refl No w
  refine jc rfl (gl (jc rfl (jp rfl (fun hc => ?_) (fun hc => ?_))))
  · refine gl ?_
    refine j1 (ju rfl (gr (gq (gv rfl rfl ?_))))
    exact ⟨congrArg Value.bool (by symm; rw [decide_eq_false_iff_not]; intro h; rw [h] at hc; exact hc rfl), hX⟩
  · have hlm : l.length = m.length := by omega
    refine xy (jc rfl (gu ?_))
    refine jn (α := Nat) [0, 1, 12] rfl (fun z => [(13, .int .i64 (z : Int))]) (fun z u => (z ≤ l.length ∧ ∀ k (hk : k < l.length), k < z → l[k] = m[k]'zo) ∧ Ext No w u) (fun z u => l.length - z) (0) rfl ⟨⟨Nat.zero_le _, fun k _ h => absurd h (Nat.not_lt_zero _)⟩, hX⟩ ?_
    rintro i w1 ⟨⟨hi, hok⟩, hX⟩
    refine jc rfl (gl (jp rfl (fun hc => ?_) (fun hc => ?_)))
    · have hi : i < l.length := by omega
      have him : i < m.length := by omega
      obtain ⟨b, off, rfl, hsa⟩ := Sl.mapAt h zo
      obtain ⟨b', off', rfl, hsb⟩ := Sl.mapAt h' zo
      have hca : ∀ u, Ext No w u → u.cell? ⟨b, off + i, none⟩ = some (Aa l[i]) := fun u hE => (hsa.ga hE) i _ (by rw [List.getElem?_map, List.getElem?_eq_getElem hi]; rfl)
      have hcb : ∀ u, Ext No w u → u.cell? ⟨b', off' + i, none⟩ = some (Aa m[i]) := fun u hE => (hsb.ga hE) i _ (by rw [List.getElem?_map, List.getElem?_eq_getElem him]; rfl)
      refine xy (gu (jc rfl (gl ?_)))
      refine jt rfl 9 [(0, true), (1, true), (2, true), (3, true), (4, true), (5, true), (6, true), (7, true), (8, true)] [] (No) zk fun w2 hE2 hs2 => ?_
      have hXd := hX
      have hX := hX.gb hE2
      have hC : Ext (No) _ w2 := hE2.no
      refine gx gc 2 rfl (qs gc rfl rfl 1 rfl i rfl zo (off + i) (by rw [Nat.mul_one]) (j5 gc rfl rfl (fun w' hw' => (hca w' (hXd.gb hw'))) ?_))
      refine gx gc 2 rfl (qs gc rfl rfl 1 rfl i rfl zo (off' + i) (by rw [Nat.mul_one]) (j5 gc rfl rfl (fun w' hw' => (hcb w' (hXd.gb hw'))) ?_))
      refine gx gc 1 rfl (jj (j9 (gy (jp rfl (fun hc => ?_) (fun hc => ?_)))))
      · refine gl ?_
        refine j1 (ju rfl (gr (ji (gq (gq (ji (gq (gv rfl rfl ?_))))))))
        exact ⟨congrArg Value.bool (by symm; rw [decide_eq_false_iff_not]; intro e; subst e; exact hc rfl), hX⟩
      · have hei : l[i] = m[i] := UInt8.toNat_inj.1 (by have e := Decidable.not_not.1 hc; omega)
        refine j6 (B4 rfl ?_)
        rw [IntWalk.i64_in _ zo]
        refine gn ?_
        exact jm (i + 1) rfl ⟨⟨by omega, fun k hk hlt => (by rcases Nat.lt_or_ge k i with h0 | h0; exact hok k hk h0; (have e : k = i := zo); subst e; exact hei)⟩, hX⟩ zf
    · have hall : l = m := C6 hlm fun k hk => hok k hk zo
      refine Bg (jc rfl (gr (gv rfl rfl ?_)))
      exact ⟨congrArg Value.bool (decide_eq_true hall).symm, hX⟩
theorem equalS_calls (w : World) {p q : Option Addr} {c d : Nat} {l m : List (Str)} (h : Sl w p l.length 1 (l.map xf)) (h' : Sl w q m.length 1 (m.map xf)) (hl : l.length < 1000000000) :
    gp prog 51 [.slice p l.length c, .slice q m.length d] w fun v w' => v = .bool (decide (l = m)) ∧ Ext No w w' := by
  refine gh func51 rfl rfl rfl rfl ?_
  have hX := Ext.refl No w
  refine jc rfl (gl (jc rfl (jp rfl (fun hc => ?_) (fun hc => ?_))))
  · refine gl ?_
    refine j1 (ju rfl (gr (gq (gv rfl rfl ?_))))
    exact ⟨congrArg Value.bool (by symm; rw [decide_eq_false_iff_not]; intro h; rw [h] at hc; exact hc rfl), hX⟩
  · have hlm : l.length = m.length := by omega
    refine xy (jc rfl (gu ?_))
    refine jn (α := Nat) [0, 1, 12] rfl (fun z => [(13, .int .i64 (z : Int))]) (fun z u => (z ≤ l.length ∧ ∀ k (hk : k < l.length), k < z → l[k] = m[k]'zo) ∧ Ext No w u) (fun z u => l.length - z) (0) rfl ⟨⟨Nat.zero_le _, fun k _ h => absurd h (Nat.not_lt_zero _)⟩, hX⟩ ?_
    rintro i w1 ⟨⟨hi, hok⟩, hX⟩
    refine jc rfl (gl (jp rfl (fun hc => ?_) (fun hc => ?_)))
    · have hi : i < l.length := by omega
      have him : i < m.length := by omega
      obtain ⟨b, off, rfl, hsa⟩ := Sl.mapAt h zo
      obtain ⟨b', off', rfl, hsb⟩ := Sl.mapAt h' zo
      have hca : ∀ u, Ext No w u → u.cell? ⟨b, off + i, none⟩ = some (xf l[i]) := fun u hE => (hsa.ga hE) i _ (by rw [List.getElem?_map, List.getElem?_eq_getElem hi]; rfl)
      have hcb : ∀ u, Ext No w u → u.cell? ⟨b', off' + i, none⟩ = some (xf m[i]) := fun u hE => (hsb.ga hE) i _ (by rw [List.getElem?_map, List.getElem?_eq_getElem him]; rfl)
      refine xy (gu (jc rfl (gl ?_)))
      refine jt rfl 9 [(0, true), (1, true), (2, true), (3, true), (4, true), (5, true), (6, true), (7, true), (8, true)] [] (No) zk fun w2 hE2 hs2 => ?_
      have hXd := hX
      have hX := hX.gb hE2
      have hC : Ext (No) _ w2 := hE2.no
      refine gx gc 2 rfl (qs gc rfl rfl 1 rfl i rfl zo (off + i) (by rw [Nat.mul_one]) (j5 gc rfl rfl (fun w' hw' => (hca w' (hXd.gb hw'))) ?_))
      refine gx gc 2 rfl (qs gc rfl rfl 1 rfl i rfl zo (off' + i) (by rw [Nat.mul_one]) (j5 gc rfl rfl (fun w' hw' => (hcb w' (hXd.gb hw'))) ?_))
      refine gx gc 1 rfl (jj (j9 (gy (jp rfl (fun hc => ?_) (fun hc => ?_)))))
      · refine gl ?_
        refine j1 (ju rfl (gr (ji (gq (gq (ji (gq (gv rfl rfl ?_))))))))
        exact ⟨congrArg Value.bool (by symm; rw [decide_eq_false_iff_not]; intro e; subst e; exact hc rfl), hX⟩
      · have hei : l[i] = m[i] := Am (Decidable.not_not.1 hc)
        refine j6 (B4 rfl ?_)
        rw [IntWalk.i64_in _ zo]
        refine gn ?_
        exact jm (i + 1) rfl ⟨⟨by omega, fun k hk hlt => (by rcases Nat.lt_or_ge k i with h0 | h0; exact hok k hk h0; (have e : k = i := zo); subst e; exact hei)⟩, hX⟩ zf
    · have hall : l = m := C6 hlm fun k hk => hok k hk zo
      refine Bg (jc rfl (gr (gv rfl rfl ?_)))
      exact ⟨congrArg Value.bool (decide_eq_true hall).symm, hX⟩
theorem brO_known {row fr : List jk} {o : jk} (h : Ac o ∈ ur row) : brO (some (row, fr)) o = some (row, fr) := if_pos h
theorem bring_known (o : jk) : y9 [o] [o] = some ([o], []) := brO_known (List.mem_map_of_mem (List.mem_singleton.2 rfl))
theorem bring_new {o : jk} (h : qx o = []) : y9 [] [o] = some ([o], [o]) := by
  show brO (some ([], [])) o = _
  simp [brO, ur, h]
def swO : jk := { ut with kind := 1, text := [97] }
def swS : yk := ⟨[107], false, true, [], [7]⟩
def swB : Bx := ⟨[swO], [swS]⟩
def swC : Bytes := up swB
def swA : Wl := Wl.fresh (uz (kg.fresh 42) 20).1 20
def swX : Wl := (swA.append swC).1
def swP : De := ⟨[swO], [([107], [7])]⟩
theorem sw1 : (uz (kg.fresh 42) 20).2 = 0 := by decide +kernel
theorem sw2 : (swA.append swC).2 = 0 := by decide +kernel
theorem sw3 : (uf (swX.D.D3 [])).2 = (0, 0, 20, [[], swC]) := by decide +kernel
theorem sw4 : Ba swB := by decide +kernel
theorem sw5 : vj swC = (swB, 0) := by decide +kernel
theorem sw6 : js yq9 swB = (swP, swB, 0) := by
  have h0 : qx swO = [] := by decide +kernel
  have h1 : y9 yq9.row swB.objs = some ([swO], [swO]) := bring_new h0
  have h2 : Ab yq9.vals swB.sets = some [([107], [7])] := by decide +kernel
  rw [after_three h1 h2]
  exact if_neg zd
theorem sw7 : (js swP swB).2.2 = 200 := by
  have h1 : y9 swP.row swB.objs = some ([swO], []) := bring_known swO
  have h2 : Ab swP.vals swB.sets = none := by decide +kernel
  exact after_no2 h1 h2
theorem sw8 : swC.length ≤ 40000 ∧ (kj swC.length : Int) ≤ (swA.size : Int) - swA.used := by decide +kernel
theorem sw9 : y0 ⟨swA, yq9⟩ swB = (⟨swX, swP⟩, 0) := by
  have h1 : up swB = swC := rfl
  unfold y0
  rw [if_neg zd, if_neg (fun e => e sw4), sw6]
  rw [if_neg zd, h1]
  unfold Ct
  rw [if_pos sw8, sw2]
  rfl
theorem sw10 : y0 ⟨swX, swP⟩ swB = (⟨swX, swP⟩, 200) := by
  have hb : swX.broken = false := by decide +kernel
  unfold y0
  rw [if_neg (by rw [hb]; decide), if_neg (fun e => e sw4), sw7]
  exact if_pos (.inl zd)
theorem open_eq {D : kg} {s : De} (h1 : (uf D).2.1 = 0) (h4 : saidD (Wl.opened (uf D)).pieces = some s) : yv9 D = ((uf D).1, 0, some ⟨Wl.opened (uf D), s⟩) := by
  unfold yv9
  rw [if_neg (fun e => e h1), h4]
theorem opn_err {x : kg × Int × Nat × Nat × List Bytes} {e : Int} {t n : Nat} {ps : List Bytes} (h : x.2 = (e, t, n, ps)) : x.2.1 = e := by rw [h]
theorem opn_pieces {x : kg × Int × Nat × Nat × List Bytes} {e : Int} {t n : Nat} {ps : List Bytes} (h : x.2 = (e, t, n, ps)) : (Wl.opened x).pieces = ps := by show x.2.2.2.2 = _; rw [h]
theorem said_two {c : Bytes} {s : De} (h : ux yq9 c = some s) : saidD [[], c] = some s := h
theorem said_eq {s t : De} {c : Bytes} {b : Bx} (h1 : vj c = (b, 0)) (h2 : js s b = (t, b, 0)) : ux s c = some t := by
  unfold ux
  rw [h1]
  dsimp only
  rw [h2]
  exact if_pos ⟨rfl, rfl, rfl⟩
def swD : kg := swX.D.D3 []
def swW : Wl := Wl.opened (uf swD)
theorem sw11 : yv9 swD = ((uf swD).1, 0, some ⟨swW, swP⟩) := by
  have h1 : (uf swD).2.1 = 0 := opn_err sw3
  have h2 : (Wl.opened (uf swD)).pieces = [[], swC] := opn_pieces sw3
  have h3 : ux yq9 swC = some swP := said_eq sw5 sw6
  have h4 : saidD (Wl.opened (uf swD)).pieces = some swP := by rw [h2]; exact said_two h3
  exact open_eq h1 h4
abbrev swBX (b23 b24 b26 : Nat) : uk := ⟨some ⟨b23, 0, none⟩, 1, [(swO, noP)], some ⟨b26, 0, none⟩, 1, [(swS, ⟨none, 0, some ⟨b24, 0, none⟩, 1⟩)]⟩
theorem Av : u5 swO := ⟨by decide, by decide, fun _ h => (by cases h), fun _ h => (by cases h), fun _ h => (by cases h), by decide, by decide⟩
theorem swO_short : Bf swO := ⟨by decide, by decide, by decide, fun _ h => (by cases h), fun _ h => (by cases h)⟩
theorem swO_l (w : World) : B3 w swO noP := ⟨Sl.nil _ _ _, Sl.nil _ _ _, Sl.nil _ _ _⟩
theorem sw_bat {u : World} {b23 b24 b26 : Nat} (h23 : gz u b23 37 (Aq (swO, noP))) (h24 : gz u b24 5 (ge [7])) (h26 : gz u b26 91 (xt (swS, ⟨none, 0, some ⟨b24, 0, none⟩, 1⟩))) : Dk u (swBX b23 b24 b26) := by
  refine ⟨⟨by rw [List.flatMap_singleton]; exact gt Av, .inr ⟨b23, 0, rfl, by rw [List.flatMap_singleton]; exact h23.ki⟩⟩, ⟨rfl, .inr ⟨b26, 0, rfl, h26.ki⟩⟩, fun x hx => ?_, fun x hx => ?_, (by show 1 < 1000000; decide), (by show 1 < 1000000; decide)⟩
  · rw [List.mem_singleton.1 hx]
    exact ⟨Av, swO_short, swO_l u⟩
  · rw [List.mem_singleton.1 hx]
    exact ⟨Sl.nil _ _ _, ⟨rfl, .inr ⟨b24, 0, rfl, h24.ki⟩⟩, (by show 1 < 1000000000; decide), (by show 0 < 1000000000; decide), (by show 1 < 1000000000; decide)⟩
theorem mem_ids (o : jk) : Ac o ∈ ur [o] := List.mem_map_of_mem (List.mem_singleton.2 rfl)
theorem swP_ok : De.Ok swP := by
  have h := (after_ok yv3 sw4).1
  rw [sw6] at h; exact h
theorem swO_b : BytesIn swO := ⟨.inl rfl, fun _ => by decide, fun e => absurd e zd, fun e => absurd e zd, fun e => absurd e zd, fun e => absurd e zd⟩
theorem lwakes_calls (w : World) (hr : Rt w) :
    gp prog 9 [] w fun v w' => v = .bool true ∧ Ext No w w' := by
  refine gh func9 rfl rfl rfl rfl ?_
  have hX := Ext.refl No w
  have hr0 := hr.lt
  have hrt := hr
  have hX0 := Nat.le_refl w.heap.size
  refine jc rfl (kz (gi call22 rfl (new_calls w (n := 42) zd) fun v1 w1 hr1 => ?_))
  obtain ⟨d, F1, rfl, hA, hFn, hE1⟩ := hr1
  have hrt := Rt.ext hrt hE1 id
  have hX := hX.gb hE1
  have hok0 : (kg.fresh 42).Ok 0 := kg.Ok.fresh zd
  have hok1 : swA.D.Ok (0 + 6000) := (xq4 hok0 20).1
  have hW1 : Wl.Ok swA := (format_fine (a := 20) sw1 hok0).1
  obtain ⟨hok2, hW2⟩ := append_fine (W := swA) hok1 hW1 swC
  have hok3 : swD.Ok _ := hok2.D3 []
  refine ju rfl (gl (jc rfl (u3 rfl (j6 (gy (km rfl ?_))))))
  have hXf := hX.size
  refine gi call13 rfl (yw4 w1 hA hok0 zd 20 zd hrt (fun e => by have := hFn 0 e; omega)) fun v2 w2 hr2 => ?_
  obtain ⟨so, F2, rfl, hA2, hE2, hFs2, hno, hnw⟩ := hr2
  have hX := hX.trans hE2 fun y hy e => by have := hFn y e; omega
  have hrt := Rt.ext hrt hE2 fun e => by have := hFn 0 e; omega
  obtain ⟨sp, x, H, K, h, rfl, k, hnk⟩ := hnw sw1
  have k : StA w2 sp x d F2 H K ⟨swA, yq9⟩ h := k
  have hkl := k.lt
  obtain ⟨nF, hnF⟩ : ∃ n, n = w2.heap.size := ⟨_, rfl⟩
  rw [← hnF] at hkl
  have hlo : ∀ y, StB F2 H K sp y → w.heap.size ≤ y := fun y hy => by
    rcases hy with hy | hy
    · exact (hFs2 y hy).elim (hFn y) fun e => by omega
    · have := hnk y hy; omega
  rw [sw1]
  have hSf0 := Nat.le_refl w2.heap.size
  refine ju rfl (kz (qa rfl ⟨⟨rfl, by decide⟩, ⟨rfl, by decide⟩, trivial⟩ (l' := jq swO noP) zk (gw rfl fun b4 w3 hn4 hb4 hE3 => ?_)))
  have fr4 := Nat.le_trans hX.size hn4
  have frhSf04 := Nat.le_trans hSf0 hn4
  have hrt := Rt.ext hrt hE3 id
  have k := k.ga hE3
  have hSf0 := Nat.le_trans hSf0 hE3.size
  have hX := hX.gb hE3
  refine wl (j8 (l' := jq swO noP) gc hb4 rfl rfl (gt Av) (by rw [gt Av]; rfl) OneC.h fun w4 hb4 hE4 hs4 => ?_)
  have hrt := Rt.ext hrt hE4 (fun e => by have e : 0 = b4 := e; omega)
  have k := k.ext hE4 (yc hkl (hnF ▸ frhSf04))
  have hSf0 := Nat.le_trans hSf0 hE4.size
  have hX := hX.gj hE4 fr4
  refine ql (kz (jh hb4 rfl (gt Av) ?_))
  refine wl (qc gc rfl 73 rfl objZc (gt qd) zd zd ⟨⟨by rw [jf]; exact gt Av, by decide⟩, trivial⟩ (l' := Aq (swO, noP)) (xw0 Av) fun b23 w5 hn23 hb23 hE5 hs5 => ?_)
  have ne4_23 : b4 ≠ b23 := Nat.ne_of_lt (Nat.lt_of_lt_of_le hb4.lt hn23)
  have fr23 := Nat.le_trans hX.size hn23
  have frhSf023 := Nat.le_trans hSf0 hn23
  have hb4 := hb4.ga hE5
  have hrt := Rt.ext hrt hE5 id
  have k := k.ga hE5
  have hSf0 := Nat.le_trans hSf0 hE5.size
  have hX := hX.gb hE5
  refine wl (qc gc rfl 1 rfl rfl rfl zd zd zt (l' := ge [7]) rfl fun b24 w6 hn24 hb24 hE6 hs6 => ?_)
  have ne4_24 : b4 ≠ b24 := Nat.ne_of_lt (Nat.lt_of_lt_of_le hb4.lt hn24)
  have ne23_24 : b23 ≠ b24 := Nat.ne_of_lt (Nat.lt_of_lt_of_le hb23.lt hn24)
  have fr24 := Nat.le_trans hX.size hn24
  have frhSf024 := Nat.le_trans hSf0 hn24
  have hb4 := hb4.ga hE6
  have hb23 := hb23.ga hE6
  have hrt := Rt.ext hrt hE6 id
  have k := k.ga hE6
  have hSf0 := Nat.le_trans hSf0 hE6.size
  have hX := hX.gb hE6
  refine qa rfl ⟨⟨rfl, by decide⟩, ⟨rfl, by decide⟩, ⟨rfl, by decide⟩, trivial⟩ (l' := xt (swS, ⟨none, 0, some ⟨b24, 0, none⟩, 1⟩)) rfl ?_
  refine wl (qc gc rfl 5 rfl setZc rfl zd zd ⟨⟨rfl, by decide⟩, trivial⟩ (l' := xt (swS, ⟨none, 0, some ⟨b24, 0, none⟩, 1⟩)) (set_put _) fun b26 w7 hn26 hb26 hE7 hs7 => ?_)
  have ne4_26 : b4 ≠ b26 := Nat.ne_of_lt (Nat.lt_of_lt_of_le hb4.lt hn26)
  have ne23_26 : b23 ≠ b26 := Nat.ne_of_lt (Nat.lt_of_lt_of_le hb23.lt hn26)
  have ne24_26 : b24 ≠ b26 := Nat.ne_of_lt (Nat.lt_of_lt_of_le hb24.lt hn26)
  have fr26 := Nat.le_trans hX.size hn26
  have frhSf026 := Nat.le_trans hSf0 hn26
  have hb4 := hb4.ga hE7
  have hb23 := hb23.ga hE7
  have hb24 := hb24.ga hE7
  have hrt := Rt.ext hrt hE7 id
  have k := k.ga hE7
  have hSf0 := Nat.le_trans hSf0 hE7.size
  have hX := hX.gb hE7
  refine qa rfl ⟨⟨rfl, by decide⟩, ⟨rfl, by decide⟩, trivial⟩ (l' := [.slice (some ⟨b23, 0, none⟩) 1 1, .slice (some ⟨b26, 0, none⟩) 1 1]) rfl (gw rfl fun b5 w8 hn5 hb5 hE8 => ?_)
  have ne4_5 : b4 ≠ b5 := Nat.ne_of_lt (Nat.lt_of_lt_of_le hb4.lt hn5)
  have ne23_5 : b23 ≠ b5 := Nat.ne_of_lt (Nat.lt_of_lt_of_le hb23.lt hn5)
  have ne24_5 : b24 ≠ b5 := Nat.ne_of_lt (Nat.lt_of_lt_of_le hb24.lt hn5)
  have ne26_5 : b26 ≠ b5 := Nat.ne_of_lt (Nat.lt_of_lt_of_le hb26.lt hn5)
  have fr5 := Nat.le_trans hX.size hn5
  have frhSf05 := Nat.le_trans hSf0 hn5
  have hb4 := hb4.ga hE8
  have hb23 := hb23.ga hE8
  have hb24 := hb24.ga hE8
  have hb26 := hb26.ga hE8
  have hrt := Rt.ext hrt hE8 id
  have k := k.ga hE8
  have hSf0 := Nat.le_trans hSf0 hE8.size
  have hX := hX.gb hE8
  refine wl (j8 (l' := [.slice (some ⟨b23, 0, none⟩) 1 1, .slice (some ⟨b26, 0, none⟩) 1 1]) gc hb5 rfl rfl rfl rfl OneC.h fun w9 hb5 hE9 hs9 => ?_)
  have hb4 := hb4.gk hE9 ne4_5
  have hb23 := hb23.gk hE9 ne23_5
  have hb24 := hb24.gk hE9 ne24_5
  have hb26 := hb26.gk hE9 ne26_5
  have hrt := Rt.ext hrt hE9 (fun e => by have e : 0 = b5 := e; omega)
  have k := k.ext hE9 (yc hkl (hnF ▸ frhSf05))
  have hSf0 := Nat.le_trans hSf0 hE9.size
  have hX := hX.gj hE9 fr5
  refine ql (gl (jv (α := Bool × (Nat → Prop)) [1, 4] rfl (fun z => [(46, .bool z.1)]) (fun z u => (z.1 = false ∧ At u d z.2 swD ∧ (∀ y, z.2 y → w.heap.size ≤ y ∧ y ≠ b4) ∧ Rt u) ∧ gz u b4 37 (jq swO noP) ∧ Ext No w u) ?_ ?_))
  · refine j1 ?_
    refine j7 gc rfl (ua 30 rfl (fun hg => ?_) (fun hg => ?_))
    · cases hg
    · refine j3 gc 1 rfl ?_
      refine jh hb5 rfl rfl ?_
      have hh0 : h.hs.length + 5000 < 1000000 := by have e := congrArg (fun s => s.row.length) k.eq; dsimp only [u7.s] at e; rw [List.length_map] at e; rw [e]; decide
      have hst : ∀ y, StS F2 H sp y → StB F2 H K sp y := fun y e => e.imp id fun e => e.imp id .inr
      have nout : ∀ b, nF ≤ b → ¬ StS F2 H sp b := fun b hb e => Nat.lt_irrefl _ (Nat.lt_of_lt_of_le (hkl b (hst b e)) hb)
      obtain ⟨n5, hn5⟩ : ∃ n, n = w9.heap.size := ⟨_, rfl⟩
      have l4 := hb4.lt
      have l5 := hb5.lt
      have l23 := hb23.lt
      have l24 := hb24.lt
      have l26 := hb26.lt
      have hXc := hX.size
      refine gi call15 rfl (yw1 w9 (B := (swBX b23 b24 b26)) k hok1 zd hW1 hrt (fun e => by have := hlo 0 (.inl e); omega) (sw_bat hb23 hb24 hb26) yv3 hh0) fun v10 w10 hr10 => ?_
      obtain ⟨rfl, hcq, hE10⟩ := hr10
      have hb4 := hb4.ext hE10 (nout b4 (hnF ▸ frhSf04))
      have hb23 := hb23.ext hE10 (nout b23 (hnF ▸ frhSf023))
      have hb24 := hb24.ext hE10 (nout b24 (hnF ▸ frhSf024))
      have hb26 := hb26.ext hE10 (nout b26 (hnF ▸ frhSf026))
      have hb5 := hb5.ext hE10 (nout b5 (hnF ▸ frhSf05))
      have hSf0 := Nat.le_trans hSf0 hE10.size
      have hX := hX.trans hE10 fun y hy e => by have := hlo y (hst y e); omega
      have hrt := Rt.ext hrt hE10 fun e => by have := hlo 0 (hst 0 e); omega
      rw [← hn5] at l4 l5 l23 l24 l26 hXc
      rw [show (y0 ⟨swA, yq9⟩ (uk.d (swBX b23 b24 b26))) = _ from sw9] at hcq ⊢
      obtain ⟨F3, H3, K3, h3, k3, hF3, hH3, hK3⟩ := hcq
      rw [← hn5] at hF3 hH3 hK3
      have hst3 : ∀ y, StS F3 H3 sp y → StB F3 H3 K3 sp y := fun y e => e.imp id fun e => e.imp id .inr
      have nout3 : ∀ b, nF ≤ b → b < n5 → ¬ StS F3 H3 sp b := fun b hb hl e => by
        rcases e with e | e | e
        · exact (hF3 b e).elim (fun e => nout b hb (.inl e)) fun e => by omega
        · exact (hH3 b e).elim (fun e => nout b hb (.inr (.inl e))) fun e => by omega
        · exact nout b hb (.inr (.inr e))
      have hlo3 : ∀ y, StB F3 H3 K3 sp y → w.heap.size ≤ y := fun y hy => by
        rcases hy with hy | hy | hy | hy
        · exact (hF3 y hy).elim (fun e => hlo y (.inl e)) fun e => by omega
        · exact (hH3 y hy).elim (fun e => hlo y (.inr (.inl e))) fun e => by omega
        · exact (hK3 y hy).elim (fun e => hlo y (.inr (.inr (.inl e)))) fun e => by omega
        · exact hlo y (.inr (.inr (.inr hy)))
      refine j3 gc 3 rfl (ua 36 rfl (fun hg => ?_) (fun hg => ?_))
      · cases hg
      · refine j3 gc 1 rfl ?_
        refine jh hb5 rfl rfl ?_
        have hh3 : h3.hs.length + 5000 < 1000000 := by have e := congrArg (fun s => s.row.length) k3.eq; dsimp only [u7.s] at e; rw [List.length_map] at e; rw [e]; decide
        have m4 := hb4.lt
        have hXd := hX.size
        refine gi call15 rfl (yw1 w10 (B := (swBX b23 b24 b26)) k3 hok2 zd hW2 hrt (fun e => by have := hlo3 0 (.inl e); omega) (sw_bat hb23 hb24 hb26) swP_ok hh3) fun v11 w11 hr11 => ?_
        obtain ⟨rfl, hcq2, hE11⟩ := hr11
        have hb4 := hb4.ext hE11 (nout3 b4 (hnF ▸ frhSf04) l4)
        have hb23 := hb23.ext hE11 (nout3 b23 (hnF ▸ frhSf023) l23)
        have hb24 := hb24.ext hE11 (nout3 b24 (hnF ▸ frhSf024) l24)
        have hb26 := hb26.ext hE11 (nout3 b26 (hnF ▸ frhSf026) l26)
        have hb5 := hb5.ext hE11 (nout3 b5 (hnF ▸ frhSf05) l5)
        have hSf0 := Nat.le_trans hSf0 hE11.size
        have hX := hX.trans hE11 fun y hy e => by have := hlo3 y (hst3 y e); omega
        have hrt := Rt.ext hrt hE11 fun e => by have := hlo3 0 (hst3 0 e); omega
        rw [show (y0 ⟨swX, swP⟩ (uk.d (swBX b23 b24 b26))) = _ from sw10] at hcq2 ⊢
        obtain ⟨F4, H4, K4, h4, k4, hF4, hH4, hK4⟩ := hcq2
        have hlo4 : ∀ y, F4 y → w.heap.size ≤ y := fun y hy => (hF4 y hy).elim (fun e => hlo3 y (.inl e)) fun e => by omega
        have n44 : ∀ y, F4 y → y ≠ b4 := fun y hy e => by
          rw [e] at hy
          exact (hF4 b4 hy).elim (fun e => nout3 b4 (hnF ▸ frhSf04) l4 (.inl e)) fun e => by omega
        have hA4 := k4.disk
        refine j3 gc 3 rfl (ua 42 rfl (fun hg => ?_) (fun hg => ?_))
        · cases hg
        · refine j3 gc 1 rfl ?_
          refine gi call46 rfl (dk_crash w11 (n := 0) (c := 0) (kp := none) (keep := []) hA4 hok2 zd rfl (Sl.nil _ _ _) (fun _ _ e => by cases e)) fun v12 w12 hr12 => ?_
          obtain ⟨rfl, hA5, hE12⟩ := hr12
          have hb4 := hb4.ext hE12 (fun e => n44 _ e rfl)
          have hSf0 := Nat.le_trans hSf0 hE12.size
          have hX := hX.trans hE12 fun y hy e => by have := hlo4 y e; omega
          have hrt := Rt.ext hrt hE12 fun e => by have := hlo4 0 e; omega
          refine j3 gc 2 rfl (gn ?_)
          exact j4 (false, F4) rfl ⟨⟨rfl, hA5, fun y hy => ⟨hlo4 y hy, n44 y hy⟩, hrt⟩, hb4, hX⟩
  rintro ⟨z, F5⟩ w13 ⟨⟨rfl, hA5, hF5, hrt⟩, hb4, hX⟩
  try dsimp only
  dsimp only at hA5 hF5
  refine u3 rfl (j6 (gy (km rfl ?_)))
  have hXo := hX.size
  refine gi call14 rfl (sopen_calls w13 hA5 hok3 zd hrt (fun e => by have := (hF5 0 e).1; omega)) fun v14 w14 hr14 => ?_
  obtain ⟨so, F6, rfl, hA6, hE14, hF6, hso0, hso⟩ := hr14
  have hb4 := hb4.ext hE14 (fun e => (hF5 _ e).2 rfl)
  have hX := hX.trans hE14 fun y hy e => by have := (hF5 y e).1; omega
  have hrt := Rt.ext hrt hE14 fun e => by have := (hF5 0 e).1; omega
  obtain ⟨sp6, x6, H6, K6, h6, rfl, k6, hn6⟩ := hso ⟨swW, swP⟩ (by rw [sw11])
  have hk6 := k6.lt
  obtain ⟨nG, hnG⟩ : ∃ n, n = w14.heap.size := ⟨_, rfl⟩
  rw [← hnG] at hk6
  rw [show (yv9 swD).2.1 = 0 from by rw [sw11]]
  have hSg := Nat.le_refl w14.heap.size
  refine ju rfl (gl (jc rfl (u3 rfl (j6 (gy (km rfl (jh hb4 rfl (gt Av) ?_)))))))
  refine gi call50 rfl (id6_calls w14 Av (swO_l _) swO_b) fun v15 w15 hr15 => ?_
  obtain ⟨rfl, hE15⟩ := hr15
  have hb4 := hb4.ga hE15
  have hrt := Rt.ext hrt hE15 id
  have k6 := k6.ga hE15
  have hSg := Nat.le_trans hSg hE15.size
  have hX := hX.gb hE15
  obtain ⟨idv, hidv⟩ : ∃ i, i = Ac swO := ⟨_, rfl⟩
  rw [← hidv]
  have hidl : vd idv := by rw [hidv]; exact vf _
  have hin : idv ∈ ur swP.row := by rw [hidv]; exact mem_ids swO
  have hX7 := hX.size
  refine gi call10 rfl (sget_calls w15 k6 hidl) fun v16 w16 hr16 => ?_
  obtain ⟨o7, a7, rfl, hg1, hg2, hE16⟩ := hr16
  have hb4 := hb4.ga hE16
  have hrt := Rt.ext hrt hE16 id
  have k6 := k6.ga hE16
  have hSg := Nat.le_trans hSg hE16.size
  have hX := hX.gb hE16
  obtain ⟨ho7, _, hok7, hN⟩ := hg1 hin
  have ho7 : o7 = swO := List.mem_singleton.1 ho7
  subst ho7
  have hN := hN.older (W0 := w) hX7
  rw [if_pos hin]
  refine j7 gc rfl (gw rfl fun b7 w17 hn7 hb7 hE17 => ?_)
  have ne4_7 : b4 ≠ b7 := Nat.ne_of_lt (Nat.lt_of_lt_of_le hb4.lt hn7)
  have fr7 := Nat.le_trans hX.size hn7
  have frhSg7 := Nat.le_trans hSg hn7
  have hb4 := hb4.ga hE17
  have hrt := Rt.ext hrt hE17 id
  have k6 := k6.ga hE17
  have hN := hN.ga hE17
  have hSg := Nat.le_trans hSg hE17.size
  have hX := hX.gb hE17
  have hb7o := hb7
  refine wl (j8 (l' := jq swO a7) gc hb7 rfl rfl (gt Av) (by rw [gt Av]; rfl) OneC.h fun w18 hb7 hE18 hs18 => ?_)
  have hb4 := hb4.gk hE18 ne4_7
  have hrt := Rt.ext hrt hE18 (fun e => by have e : 0 = b7 := e; omega)
  have k6 := k6.ext hE18 (yc hk6 (hnG ▸ frhSg7))
  have hN := hN.gk hE18 hb7o zd zd zd
  have hSg := Nat.le_trans hSg hE18.size
  have hX := hX.gj hE18 fr7
  refine ju rfl (km rfl ?_)
  have hX8 := hX.size
  refine gi call11 rfl (svalue_calls w18 k6 swP_ok.rise (n := [107])) fun v19 w19 hr19 => ?_
  obtain ⟨q8, c8, b8, rfl, hb8, ho8, hE19⟩ := hr19
  have hb4 := hb4.ga hE19
  have hb7 := hb7.ga hE19
  have hrt := Rt.ext hrt hE19 id
  have k6 := k6.ga hE19
  have hN := hN.ga hE19
  have hSg := Nat.le_trans hSg hE19.size
  have hX := hX.gb hE19
  have hb8 : b8 = [7] := hb8
  subst hb8
  rw [show (zz3 swP.vals [107]).isSome = true from rfl]
  refine ju rfl (jv (α := Bool) [] rfl (fun z => [(0, .bool z)]) (fun z u => (z = true) ∧ Ext No w u) ?_ ?_)
  · refine j1 ?_
    refine j7 gc rfl (ua 68 rfl (fun hg => ?_) (fun hg => ?_))
    · refine jh hb7 rfl (gt Av) ?_
      refine jh hb4 rfl (gt Av) (gi call17 rfl (same6_calls w19 Av Av hN.l (swO_l _) swO_short) fun v20 w20 hr20 => ?_)
      obtain ⟨rfl, hE20⟩ := hr20
      have hb4 := hb4.ga hE20
      have hb7 := hb7.ga hE20
      have hrt := Rt.ext hrt hE20 id
      have k6 := k6.ga hE20
      have hN := hN.ga hE20
      have ho8 := ho8.ga hE20
      have hSg := Nat.le_trans hSg hE20.size
      have hX := hX.gb hE20
      rw [show decide (swO = swO) = true from decide_eq_true rfl]
      refine j7 gc rfl (ua 73 rfl (fun hg => ?_) (fun hg => ?_))
      · refine j3 gc 3 rfl ?_
        refine ua 76 rfl (fun hg => ?_) (fun hg => ?_)
        · refine j3 gc 1 rfl ?_
          refine wl (qc gc rfl 1 rfl rfl rfl zd zd zt (l' := ge [7]) rfl fun b78 w21 hn78 hb78 hE21 hs21 => ?_)
          have ne4_78 : b4 ≠ b78 := Nat.ne_of_lt (Nat.lt_of_lt_of_le hb4.lt hn78)
          have ne7_78 : b7 ≠ b78 := Nat.ne_of_lt (Nat.lt_of_lt_of_le hb7.lt hn78)
          have fr78 := Nat.le_trans hX.size hn78
          have frhSg78 := Nat.le_trans hSg hn78
          have hb4 := hb4.ga hE21
          have hb7 := hb7.ga hE21
          have hrt := Rt.ext hrt hE21 id
          have k6 := k6.ga hE21
          have hN := hN.ga hE21
          have ho8 := ho8.ga hE21
          have hSg := Nat.le_trans hSg hE21.size
          have hX := hX.gb hE21
          refine gi call33 rfl (equalB_calls w21 (l := [7]) (m := [7]) ho8.sl ⟨rfl, .inr ⟨b78, 0, rfl, hb78.ki⟩⟩ zd) fun v22 w22 hr22 => ?_
          obtain ⟨rfl, hE22⟩ := hr22
          have hb4 := hb4.ga hE22
          have hb7 := hb7.ga hE22
          have hb78 := hb78.ga hE22
          have hrt := Rt.ext hrt hE22 id
          have k6 := k6.ga hE22
          have hN := hN.ga hE22
          have ho8 := ho8.ga hE22
          have hSg := Nat.le_trans hSg hE22.size
          have hX := hX.gb hE22
          rw [show decide (([7] : List UInt8) = [7]) = true from decide_eq_true rfl]
          refine j7 gc rfl (ua 81 rfl (fun hg => ?_) (fun hg => ?_))
          · refine j3 gc 1 rfl ?_
            refine gi call18 rfl (snames_calls w22 k6) fun v23 w23 hr23 => ?_
            obtain ⟨q9, c9, rfl, hq9, hE23⟩ := hr23
            have hb4 := hb4.ga hE23
            have hb7 := hb7.ga hE23
            have hb78 := hb78.ga hE23
            have hrt := Rt.ext hrt hE23 id
            have k6 := k6.ga hE23
            have hN := hN.ga hE23
            have ho8 := ho8.ga hE23
            have hSg := Nat.le_trans hSg hE23.size
            have hX := hX.gb hE23
            refine wl (qc gc rfl 1 rfl rfl rfl zd zd zt (l' := [xf [107]]) rfl fun b84 w24 hn84 hb84 hE24 hs24 => ?_)
            have ne4_84 : b4 ≠ b84 := Nat.ne_of_lt (Nat.lt_of_lt_of_le hb4.lt hn84)
            have ne7_84 : b7 ≠ b84 := Nat.ne_of_lt (Nat.lt_of_lt_of_le hb7.lt hn84)
            have ne78_84 : b78 ≠ b84 := Nat.ne_of_lt (Nat.lt_of_lt_of_le hb78.lt hn84)
            have fr84 := Nat.le_trans hX.size hn84
            have frhSg84 := Nat.le_trans hSg hn84
            have hb4 := hb4.ga hE24
            have hb7 := hb7.ga hE24
            have hb78 := hb78.ga hE24
            have hrt := Rt.ext hrt hE24 id
            have k6 := k6.ga hE24
            have hN := hN.ga hE24
            have ho8 := ho8.ga hE24
            have hq9 := hq9.ga hE24
            have hSg := Nat.le_trans hSg hE24.size
            have hX := hX.gb hE24
            refine gi call51 rfl (equalS_calls w24 (l := [[107]]) (m := [[107]]) hq9.sl ⟨rfl, .inr ⟨b84, 0, rfl, hb84.ki⟩⟩ zd) fun v25 w25 hr25 => ?_
            obtain ⟨rfl, hE25⟩ := hr25
            have hb4 := hb4.ga hE25
            have hb7 := hb7.ga hE25
            have hb78 := hb78.ga hE25
            have hb84 := hb84.ga hE25
            have hrt := Rt.ext hrt hE25 id
            have k6 := k6.ga hE25
            have hN := hN.ga hE25
            have ho8 := ho8.ga hE25
            have hq9 := hq9.ga hE25
            have hSg := Nat.le_trans hSg hE25.size
            have hX := hX.gb hE25
            rw [show decide (([[107]] : List Str) = [[107]]) = true from decide_eq_true rfl]
            refine j7 gc rfl (gn ?_)
            exact j4 (true) rfl ⟨rfl, hX⟩
          · cases hg
        · cases hg
      · cases hg
    · cases hg
  rintro z w26 ⟨rfl, hX⟩
  refine gr (gv rfl rfl ?_)
  exact ⟨rfl, hX⟩
def u64N (i : Int) : Nat := (IntKind.u64.wrap i).toNat
theorem u64N_eq (i : Int) : IntKind.u64.wrap i = (u64N i : Int) := by
  have h : 0 ≤ IntKind.u64.wrap i := by rw [IntKind.wrap_u64]; omega
  unfold u64N
  omega
theorem u64_mod (i : Int) (k : Nat) (hk : 0 < k) (hk2 : k < 1000000) : IntKind.i64.wrap ((IntKind.u64.wrap i).tmod (k : Int)) = ((u64N i % k : Nat) : Int) := by
  rw [u64N_eq, Int.tmod_eq_emod_of_nonneg (Int.natCast_nonneg _), ← Int.natCast_emod]
  have := Nat.mod_lt (u64N i) hk
  exact IntWalk.i64_in _ zo
theorem idZc : cellsOf ti30.zero = ge Ce := by kernel_rfl
theorem storenil_calls (w : World) (hr : Rt w) {B : uk} (hB : BatArg w B) (n area : Int) (har : -9223372036854775808 ≤ area ∧ area < 9223372036854775808) :
    gp prog 3 [B.v, .int .i64 n, .int .i64 area] w fun v w' => v = .bool true ∧ Ext No w w' := by
  refine gh func3 rfl rfl rfl rfl ?_
  have hX := Ext.refl No w
  have hr0 := hr.lt
  have hrt := hr
  have h300 := Nat.mod_lt (u64N n) (by decide : 0 < 300)
  refine kz (gw rfl fun b3 w1 hn3 hb3 hE1 => ?_)
  have fr3 := Nat.le_trans hX.size hn3
  have hrt := Rt.ext hrt hE1 id
  have hX := hX.gb hE1
  have hb3 : gz w1 b3 25 (B.c) := hb3
  refine ju rfl (gl (kz (gi call9 rfl (lwakes_calls w1 hrt) fun v2 w2 hr2 => ?_)))
  obtain ⟨rfl, hE2⟩ := hr2
  have hb3 := hb3.ga hE2
  have hrt := Rt.ext hrt hE2 id
  have hX := hX.gb hE2
  refine ju rfl (u3 rfl (j6 (gy (jc rfl (km rfl (qa rfl trivial (l' := ge Ce) idZc ?_))))))
  refine gi call10 rfl (sget_nil w2 (id := Ce) Cb) fun v3 w3 hr3 => ?_
  obtain ⟨rfl, hE3⟩ := hr3
  have hb3 := hb3.ga hE3
  have hrt := Rt.ext hrt hE3 id
  have hX := hX.gb hE3
  refine j7 gc rfl (gw rfl fun b8 w4 hn8 hb8 hE4 => ?_)
  have ne3_8 : b3 ≠ b8 := Nat.ne_of_lt (Nat.lt_of_lt_of_le hb3.lt hn8)
  have fr8 := Nat.le_trans hX.size hn8
  have hb3 := hb3.ga hE4
  have hrt := Rt.ext hrt hE4 id
  have hX := hX.gb hE4
  refine wl (j8 (l' := jq ut noP) gc hb8 rfl rfl (gt qd) (by rw [gt qd]; rfl) OneC.h fun w5 hb8 hE5 hs5 => ?_)
  have hb3 := hb3.gk hE5 ne3_8
  have hrt := Rt.ext hrt hE5 (fun e => by have e : 0 = b8 := e; omega)
  have hX := hX.gj hE5 fr8
  refine ju rfl (km rfl (gi call11 rfl (svalue_nil w5 (n := ([97] : Str))) fun v6 w6 hr6 => ?_))
  obtain ⟨rfl, hE6⟩ := hr6
  have hb3 := hb3.ga hE6
  have hb8 := hb8.ga hE6
  have hrt := Rt.ext hrt hE6 id
  have hX := hX.gb hE6
  refine ju rfl (km rfl (qa rfl trivial (l' := ge Ce) idZc ?_))
  refine wl (qc gc rfl 32 rfl idZc Cb.len zd zd ⟨⟨by rw [jf]; exact Cb.len, by decide⟩, trivial⟩ (l' := ge Ce) zk fun b39 w7 hn39 hb39 hE7 hs7 => ?_)
  have ne3_39 : b3 ≠ b39 := Nat.ne_of_lt (Nat.lt_of_lt_of_le hb3.lt hn39)
  have ne8_39 : b8 ≠ b39 := Nat.ne_of_lt (Nat.lt_of_lt_of_le hb8.lt hn39)
  have fr39 := Nat.le_trans hX.size hn39
  have hb3 := hb3.ga hE7
  have hb8 := hb8.ga hE7
  have hrt := Rt.ext hrt hE7 id
  have hX := hX.gb hE7
  refine gi call12 rfl (ssweep_nil w7) fun v8 w8 hr8 => ?_
  obtain ⟨rfl, hE8⟩ := hr8
  have hb3 := hb3.ga hE8
  have hb8 := hb8.ga hE8
  have hb39 := hb39.ga hE8
  have hrt := Rt.ext hrt hE8 id
  have hX := hX.gb hE8
  refine ju rfl (kz (gi call13 rfl (sformat_nil w8 20) fun v9 w9 hr9 => ?_))
  obtain ⟨rfl, hE9⟩ := hr9
  have hb3 := hb3.ga hE9
  have hb8 := hb8.ga hE9
  have hb39 := hb39.ga hE9
  have hrt := Rt.ext hrt hE9 id
  have hX := hX.gb hE9
  refine ju rfl (kz (gi call14 rfl (sopen_nil w9) fun v10 w10 hr10 => ?_))
  obtain ⟨rfl, hE10⟩ := hr10
  have hb3 := hb3.ga hE10
  have hb8 := hb8.ga hE10
  have hb39 := hb39.ga hE10
  have hrt := Rt.ext hrt hE10 id
  have hX := hX.gb hE10
  refine ju rfl (gl (jv (α := Bool) [1, 2, 7, 8, 10] rfl (fun z => [(86, .bool z)]) (fun z u => (z = false ∧ Rt u) ∧ gz u b8 37 (jq ut noP) ∧ Ext No w u) ?_ ?_))
  · refine j1 ?_
    refine j7 gc rfl (jl 53 rfl (fun hg => ?_) (fun hg => ?_))
    · exact absurd rfl hg
    · refine j3 gc 4 rfl ?_
      refine jl 57 rfl (fun hg => ?_) (fun hg => ?_)
      · exact absurd rfl hg
      · refine j3 gc 4 rfl ?_
        refine jl 61 rfl (fun hg => ?_) (fun hg => ?_)
        · exact absurd rfl hg
        · refine j3 gc 4 rfl ?_
          refine jl 65 rfl (fun hg => ?_) (fun hg => ?_)
          · exact absurd rfl hg
          · refine j3 gc 1 rfl ?_
            refine jh hb3 rfl rfl (gi call16 rfl (lbatch_calls w10 (hB.ga hX)) fun v11 w11 hr11 => ?_)
            obtain ⟨B2, rfl, _, _, hE11⟩ := hr11
            have hb3 := hb3.ga hE11
            have hb8 := hb8.ga hE11
            have hb39 := hb39.ga hE11
            have hrt := Rt.ext hrt hE11 id
            have hX := hX.gb hE11
            refine gi call15 rfl (scommit_nil w11 B2) fun v12 w12 hr12 => ?_
            obtain ⟨rfl, hE12⟩ := hr12
            have hb3 := hb3.ga hE12
            have hb8 := hb8.ga hE12
            have hb39 := hb39.ga hE12
            have hrt := Rt.ext hrt hE12 id
            have hX := hX.gb hE12
            refine j3 gc 3 rfl (jl 72 rfl (fun hg => ?_) (fun hg => ?_))
            · exact absurd rfl hg
            · refine j3 gc 4 rfl ?_
              refine ua 76 rfl (fun hg => ?_) (fun hg => ?_)
              · cases hg
              · refine j3 gc 4 rfl ?_
                refine ua 80 rfl (fun hg => ?_) (fun hg => ?_)
                · cases hg
                · refine j3 gc 4 rfl ?_
                  refine ua 84 rfl (fun hg => ?_) (fun hg => ?_)
                  · cases hg
                  · refine j3 gc 2 rfl ?_
                    refine gn ?_
                    exact j4 (false) rfl ⟨⟨rfl, hrt⟩, hb8, hX⟩
  rintro z w13 ⟨⟨rfl, hrt⟩, hb8, hX⟩
  refine u3 rfl (xy (jv (α := Bool) [1, 2] rfl (fun z => [(113, .bool z)]) (fun z u => (z = false ∧ Rt u) ∧ Ext No w u) ?_ ?_))
  · refine j1 ?_
    refine jh hb8 rfl (gt qd) (qa rfl trivial (l' := jq ut noP) objZc ?_)
    refine gi call17 rfl (same6_calls w13 qd qd (objZ_l _) (objZ_l _) ⟨by decide, by decide, by decide, fun _ h => absurd h List.not_mem_nil, fun _ h => absurd h List.not_mem_nil⟩) fun v14 w14 hr14 => ?_
    obtain ⟨rfl, hE14⟩ := hr14
    have hb8 := hb8.ga hE14
    have hrt := Rt.ext hrt hE14 id
    have hX := hX.gb hE14
    rw [show decide (ut = ut) = true from decide_eq_true rfl]
    refine j7 gc rfl (ua 91 rfl (fun hg => ?_) (fun hg => ?_))
    · cases hg
    · refine j3 gc 3 rfl ?_
      refine gi call18 rfl (snames_nil w14) fun v15 w15 hr15 => ?_
      obtain ⟨rfl, hE15⟩ := hr15
      have hb8 := hb8.ga hE15
      have hrt := Rt.ext hrt hE15 id
      have hX := hX.gb hE15
      refine j3 gc 3 rfl ?_
      rw [IntWalk.i64_in _ zo]
      refine gi call19 rfl (sheap_nil w15) fun v16 w16 hr16 => ?_
      obtain ⟨rfl, hE16⟩ := hr16
      have hb8 := hb8.ga hE16
      have hrt := Rt.ext hrt hE16 id
      have hX := hX.gb hE16
      refine wl (st_fd gc rfl rfl (j3 gc 5 rfl ?_))
      rw [IntWalk.i64_in _ zo]
      refine ua 105 rfl (fun hg => ?_) (fun hg => ?_)
      · cases hg
      · refine j3 gc 1 rfl ?_
        refine gi call20 rfl (sbroken_nil w16) fun v17 w17 hr17 => ?_
        obtain ⟨rfl, hE17⟩ := hr17
        have hb8 := hb8.ga hE17
        have hrt := Rt.ext hrt hE17 id
        have hX := hX.gb hE17
        refine j7 gc rfl (ua 109 rfl (fun hg => ?_) (fun hg => ?_))
        · cases hg
        · refine j3 gc 1 rfl ?_
          refine gi call21 rfl (swal_nil w17) fun v18 w18 hr18 => ?_
          obtain ⟨rfl, hE18⟩ := hr18
          have hb8 := hb8.ga hE18
          have hrt := Rt.ext hrt hE18 id
          have hX := hX.gb hE18
          refine j3 gc 2 rfl (gn ?_)
          exact j4 (false) rfl ⟨⟨rfl, hrt⟩, hX⟩
  rintro z w19 ⟨⟨rfl, hrt⟩, hX⟩
  refine u3 rfl (j6 (gy (km rfl ?_)))
  rw [show IntKind.i64.wrap ((IntKind.u64.wrap n).tmod 300) = ((u64N n % 300 : Nat) : Int) from u64_mod n 300 zd zd]
  refine j7 gc rfl ?_
  rw [IntWalk.i64_in _ zo]
  obtain ⟨S, hS⟩ : ∃ S, S = 1 + u64N n % 300 := ⟨_, rfl⟩
  have hS1 : 1 ≤ S ∧ S ≤ 2048 := by omega
  rw [show (1 : Int) + ((u64N n % 300 : Nat) : Int) = (S : Int) from by omega]
  refine ju rfl (km rfl ?_)
  have hX1 := hX.size
  refine gi call22 rfl (new_calls w19 (n := S) hS1) fun v20 w20 hr20 => ?_
  obtain ⟨d1, F1, rfl, hA1, hF1, hE20⟩ := hr20
  have hrt := Rt.ext hrt hE20 id
  have hX := hX.gb hE20
  have hA1l := hA1.lt
  have hok0 : (kg.fresh S).Ok 0 := kg.Ok.fresh hS1
  refine ju rfl (km rfl ?_)
  have hX2 := hX.size
  refine gi call22 rfl (new_calls w20 (n := S) hS1) fun v21 w21 hr21 => ?_
  obtain ⟨d2, F2, rfl, hA2, hF2, hE21⟩ := hr21
  have hrt := Rt.ext hrt hE21 id
  have hA1 := hA1.ga hE21
  have hX := hX.gb hE21
  have hA2l := hA2.lt
  have hdj : ∀ y, F1 y → ¬ F2 y := fun y h1 h2 => by have := hA1l y h1; have := hF2 y h2; omega
  refine ju rfl (gl (jv (α := Bool) [2, 19, 20] rfl (fun z => [(134, .bool z)]) (fun z u => (z = false ∧ Rt u ∧ At u d1 F1 (kg.fresh S) ∧ At u d2 F2 (kg.fresh S)) ∧ Ext No w u) ?_ ?_))
  · refine j1 ?_
    refine j7 gc rfl (ua 131 rfl (fun hg => ?_) (fun hg => ?_))
    · cases hg
    · refine j3 gc 3 rfl ?_
      refine gn ?_
      exact j4 (false) rfl ⟨⟨rfl, hrt, hA1, hA2⟩, hX⟩
  rintro z w22 ⟨⟨rfl, hrt, hA1, hA2⟩, hX⟩
  refine u3 rfl (j6 (gy (km rfl ?_)))
  have hX3 := hX.size
  have hA2m := hA2.lt
  refine gi call13 rfl (yw4 w22 hA1 hok0 zd area har hrt (fun e => by have := hF1 0 e; omega)) fun v23 w23 hr23 => ?_
  obtain ⟨so, F3, rfl, hA3, hE23, hFs3, hno3, hnw3⟩ := hr23
  have hX := hX.trans hE23 fun y hy e => by have := hF1 y e; omega
  have hrt := Rt.ext hrt hE23 fun e => by have := hF1 0 e; omega
  have hA2 := hA2.ext hE23 fun y hy e => hdj y e hy
  have hF3 : ∀ y, F3 y → w.heap.size ≤ y := fun y hy => (hFs3 y hy).elim (fun e => by have := hF1 y e; omega) fun e => by omega
  have hdj3 : ∀ y, F3 y → ¬ F2 y := fun y h1 h2 => (hFs3 y h1).elim (fun e => hdj y e h2) fun e => by have := hA2m y h2; omega
  refine ju rfl (km rfl ?_)
  have hX4 := hX.size
  have hA3m := hA3.lt
  refine gi call23 rfl (xv6 w23 hA2 hok0 zd area har hrt (fun e => by have := hF2 0 e; omega)) fun v24 w24 hr24 => ?_
  obtain ⟨xo, F4, rfl, hA4, hE24, hFs4, hno4, hnw4⟩ := hr24
  have hX := hX.trans hE24 fun y hy e => by have := hF2 y e; omega
  have hA3 := hA3.ext hE24 fun y hy e => hdj3 y hy e
  obtain ⟨⟨D4, e4⟩, hD4⟩ : ∃ r, r = uz (kg.fresh S) area := ⟨_, rfl⟩
  have hok4 := (xq4 hok0 area).1
  have hnn : (so = none ∧ xo = none) ∨ ∃ a b, so = some a ∧ xo = some b := by
    by_cases h0 : (uz (kg.fresh S) area).2 = 0
    · obtain ⟨_, _, _, _, _, h1, _⟩ := hnw3 h0
      obtain ⟨_, _, h2, _⟩ := hnw4 h0
      exact .inr ⟨_, _, h1, h2⟩
    · exact .inl ⟨hno3 h0, hno4 h0⟩
  rcases hnn with ⟨rfl, rfl⟩ | ⟨a0, x0, rfl, rfl⟩
  all_goals
    refine ju rfl (jv (α := Bool) [] rfl (fun z => [(6, .bool z)]) (fun z u => (z = true) ∧ Ext No w u) ?_ ?_)
    · refine j1 ?_
      refine j7 gc rfl (jl 150 rfl (fun hg => ?_) (fun hg => ?_))
      · refine j3 gc 7 rfl ?_
        refine ua 157 rfl (fun hg => ?_) (fun hg => ?_)
        · refine j3 gc 2 rfl ?_
          refine gi call24 rfl (twins_calls w24 hA3 hA4 hok4 zd) fun v25 w25 hr25 => ?_
          obtain ⟨rfl, hE25⟩ := hr25
          have hA3 := hA3.ga hE25
          have hA4 := hA4.ga hE25
          have hX := hX.gb hE25
          refine j7 gc rfl (gn ?_)
          exact j4 (true) rfl ⟨rfl, hX⟩
        · cases hg
      · exact absurd rfl hg
    rintro z w26 ⟨rfl, hX⟩
    refine gr (gv rfl rfl ?_)
    exact ⟨rfl, hX⟩
open Go.Vc Go.WideShapes Go.ChangeShapes Go.ChangeAt Go.RowKit
theorem own : ownKnob prog.godebug = none := by kernel_rfl
theorem gRoots : prog.globalNamed "confluence/sha.roots" = some 0 := by kernel_rfl
abbrev laidR : List (String × DataW Unit) := [("confluence/sha.roots", Rows.laid_confluence_sha_roots)]
theorem roots_of {W : World} (h : laidMetH prog laidR W) : Seg W 0 0 (jr qg) := by
  rw [MakeChecks.laidMetH_plain _ _ _ zk] at h
  have h : laidMet prog [("confluence/sha.roots", Lib.tabData .u32 (qg.map fun x => (x.toNat : Int)))] W := h
  have ht := Lib.tabIs_of_head gRoots (t := 313) (e := 35) (n := 64) zk zk zk zk zk h
  intro i v hi
  have hlt : i < qg.length := by
    have := (List.getElem?_eq_some_iff.1 hi).1
    simpa [jr] using this
  have hc := ht.cell gRoots i (by rw [List.length_map]; exact hlt)
  rw [Nat.zero_add, hc, ← hi, A1 qg hlt]
  rw [List.getD_eq_getElem?_getD, List.getElem?_map, List.getElem?_eq_getElem hlt]
  rfl
theorem door_met (os : Os) (args : Array Value) : laidMetH prog laidR ((World.doorLaid prog 400 os).forCall (fun _ _ => 0) ⟨#[], args, []⟩).memory :=
  laidMetH_of_parts3 (fuel := 70) (laidMet_of_run' 70 zk zk) zk zk
open Go.Vc Go.WideShapes Go.ChangeShapes
section
variable {H : Type} {enc : TypeId × Value → H} {W : World} {sp : Nat → Bool} {held : Bool}
theorem list_of {α β : Type} {R : α → β → Prop} : ∀ (L : List β), (∀ r ∈ L, ∃ a, R a r) → ∃ l : List α, l.length = L.length ∧ ∀ (i : Nat) (a : α) (r : β), l[i]? = some a → L[i]? = some r → R a r
  | [], _ => ⟨[], rfl, fun i a r h => by simp at h⟩
  | r :: L, h => by
    obtain ⟨a, ha⟩ := h r zp
    obtain ⟨l, h1, h2⟩ := list_of L fun x hx => h x (by simp [hx])
    refine ⟨a :: l, by simp [h1], fun i b x hb hx => ?_⟩
    cases i with
    | zero => simp at hb hx; subst hb; subst hx; exact ha
    | succ i => exact h2 i b x (by simpa using hb) (by simpa using hx)
theorem open_list {α : Type} {cells : α → List Value} {ok : α → Prop} {fuel t e m : Nat} {cs : List Value} {x : DataW H × List MemPlace} (ht : prog.underlying t = some (.slice e)) (hm : prog.cellsOf e = m) (hm0 : 0 < m)
    (hrow : ∀ {k : Nat} {r : List Value} {y : DataW H × List MemPlace}, DataW.trod enc prog W 0 sp held k e r = some y → ∃ a, r = cells a ∧ ok a)
    (h : DataW.trod enc prog W 0 sp held fuel t cs = some x) :
    ∃ (p : Option Addr) (l : List α) (c : Nat), cs = [.slice p l.length c] ∧ l.length ≤ c ∧ c ≤ maxLen ∧ Sl W p l.length m (l.flatMap cells) ∧ (∀ a ∈ l, ok a) ∧ (l ≠ [] → ∀ b off, p = some ⟨b, off, none⟩ → b < W.heap.size) := by
  obtain ⟨p, n, c, L, rfl, hn, hc, hL, hu, hs, hlt, hr⟩ := open_rows ht hm hm0 h
  obtain ⟨l, h1, h2⟩ := list_of (R := fun a r => r = cells a ∧ ok a) L fun r hr' => by
    obtain ⟨k, y, hy⟩ := hr r hr'
    exact hrow hy
  have e : L = l.map cells := by
    apply List.ext_getElem?
    intro i
    rw [List.getElem?_map]
    by_cases hi : i < l.length
    · have hi' : i < L.length := by omega
      have := (h2 i l[i] L[i] zp zp).1
      simp [hi, hi', this]
    · rw [List.getElem?_eq_none zo, List.getElem?_eq_none zo]; rfl
  have hln : l.length = n := by omega
  subst hln
  refine ⟨p, l, c, rfl, hn, hc, by rw [List.flatMap_def, ← e]; exact hs, fun a ha => ?_, fun hne => hlt fun h0 => hne (List.eq_nil_of_length_eq_zero h0)⟩
  obtain ⟨i, hi, rfl⟩ := List.mem_iff_getElem.1 ha
  have hi' : i < L.length := by omega
  exact (h2 i l[i] L[i] zp zp).2
theorem open_byte {fuel : Nat} {cs : List Value} {x : DataW H × List MemPlace} (h : DataW.trod enc prog W 0 sp held fuel 5 cs = some x) : ∃ b : UInt8, cs = [Aa b] := by
  obtain ⟨n, rfl, _, hw⟩ := DataW.trod_int Tryz.underlying5 h
  have hw : 0 ≤ n ∧ n ≤ 255 := by simpa [Lit.wf, IntKind.min, IntKind.max, IntKind.signed, IntKind.bits] using hw
  refine ⟨UInt8.ofNat n.toNat, ?_⟩
  show _ = [Value.int .u8 ((UInt8.ofNat n.toNat).toNat : Int)]
  have e : (UInt8.ofNat n.toNat).toNat = n.toNat := UInt8.toNat_ofNat_of_lt' (by show n.toNat < 256; omega)
  rw [e, Int.toNat_of_nonneg hw.1]
theorem zz9 {fuel : Nat} {cs : List Value} {x : DataW H × List MemPlace} (h : DataW.trod enc prog W 0 sp held fuel 9 cs = some x) : ∃ s : Str, cs = [xf s] ∧ s.length ≤ maxLen := by
  obtain ⟨s, rfl, _, hw⟩ := DataW.trod_string Tryz.underlying9 h
  exact ⟨s.data.toList, by show _ = [Value.string (um s.data.toList)]; rw [strU_of], hw⟩
theorem open_id {fuel : Nat} {cs : List Value} {x : DataW H × List MemPlace} (h : DataW.trod enc prog W 0 sp held fuel 30 cs = some x) : ∃ l : List UInt8, cs = ge l ∧ l.length = 32 := by
  obtain ⟨xs, m, rfl, _, hlen, hn, hel⟩ := DataW.trod_array Tryz.underlying30 h
  have c5 : prog.cellsOf 5 = 1 := by kernel_rfl
  have c26 : prog.cellsOf 30 = 32 := by kernel_rfl
  rw [c26] at hlen
  obtain ⟨l, h1, h2⟩ := list_of (R := fun (b : UInt8) v => v = Aa b) cs fun v hv => by
    obtain ⟨i, hi, rfl⟩ := List.mem_iff_getElem.1 hv
    have hi32 : i < 32 := by omega
    have h0 := hel i hi32
    rw [c5, Nat.mul_one, List.getElem?_eq_getElem (show i < xs.length by rw [hn]; exact hi32)] at h0
    obtain ⟨b, hb⟩ := open_byte h0
    rw [List.drop_eq_getElem_cons hi, List.take_succ_cons, List.take_zero] at hb
    exact ⟨b, (List.cons.inj hb).1⟩
  refine ⟨l, ?_, by omega⟩
  apply List.ext_getElem?
  intro i
  rw [ge, List.getElem?_map]
  by_cases hi : i < l.length
  · have hi' : i < cs.length := by omega
    have := h2 i l[i] cs[i] zp zp
    simp [hi, hi', this]
  · rw [List.getElem?_eq_none zo, List.getElem?_eq_none zo]; rfl
theorem uj (cs : List Value) (o n : Nat) : cs.drop o = (cs.drop o).take n ++ cs.drop (o + n) := by
  rw [← List.drop_drop, List.take_append_drop]
theorem open_leaf {fuel : Nat} {cs : List Value} {x : DataW H × List MemPlace} (h : DataW.trod enc prog W 0 sp held fuel 148 cs = some x) : ∃ r : je, cs = r.cells ∧ r.path.length ≤ maxLen ∧ r.id.length = 32 := by
  obtain ⟨xs, k, rfl, _, hlen, hxs, hf⟩ := DataW.trod_struct Tryz.underlying148 h
  have k76 : prog.cellsOf 148 = 33 := by kernel_rfl
  have k9 : prog.cellsOf 9 = 1 := by kernel_rfl
  have k26 : prog.cellsOf 30 = 32 := by kernel_rfl
  have hxs : xs.length = 2 := hxs
  have g0 : DataW.trod enc prog W 0 sp held k 9 ((cs.drop 0).take (prog.cellsOf 9)) = _ := hf 0 _ rfl
  have g1 : DataW.trod enc prog W 0 sp held k 30 ((cs.drop 1).take (prog.cellsOf 30)) = _ := hf 1 _ rfl
  rw [k9, List.getElem?_eq_getElem zo] at g0
  rw [k26, List.getElem?_eq_getElem zo] at g1
  obtain ⟨s, e0, h0⟩ := zz9 g0
  obtain ⟨l, e1, h1⟩ := open_id g1
  rw [k76] at hlen
  refine ⟨⟨s, l⟩, ?_, h0, h1⟩
  have e : cs = cs.drop 0 := rfl
  rw [e, uj cs 0 1, e0, uj cs (0 + 1) 32, e1, List.drop_eq_nil_of_le zo, List.append_nil]
  rfl
theorem open_chg {fuel : Nat} {cs : List Value} {x : DataW H × List MemPlace} (h : DataW.trod enc prog W 0 sp held fuel 150 cs = some x) : ∃ r : ud, cs = r.cells ∧ r.path.length ≤ maxLen ∧ r.text.length ≤ maxLen := by
  obtain ⟨xs, k, rfl, _, hlen, hxs, hf⟩ := DataW.trod_struct Tryz.underlying150 h
  have k82 : prog.cellsOf 150 = 3 := by kernel_rfl
  have k9 : prog.cellsOf 9 = 1 := by kernel_rfl
  have k4 : prog.cellsOf 4 = 1 := by kernel_rfl
  have hxs : xs.length = 3 := hxs
  have g0 : DataW.trod enc prog W 0 sp held k 9 ((cs.drop 0).take (prog.cellsOf 9)) = _ := hf 0 _ rfl
  have g1 : DataW.trod enc prog W 0 sp held k 4 ((cs.drop 1).take (prog.cellsOf 4)) = _ := hf 1 _ rfl
  have g2 : DataW.trod enc prog W 0 sp held k 9 ((cs.drop 2).take (prog.cellsOf 9)) = _ := hf 2 _ rfl
  rw [k9, List.getElem?_eq_getElem zo] at g0 g2
  rw [k4, List.getElem?_eq_getElem zo] at g1
  obtain ⟨s, e0, h0⟩ := zz9 g0
  obtain ⟨b, e1, _⟩ := DataW.trod_bool Tryz.underlying4 g1
  obtain ⟨t, e2, h2⟩ := zz9 g2
  rw [k82] at hlen
  refine ⟨⟨s, b, t⟩, ?_, h0, h2⟩
  have e : cs = cs.drop 0 := rfl
  rw [e, uj cs 0 1, e0, uj cs (0 + 1) 1, e1, uj cs (0 + 1 + 1) 1, e2, List.drop_eq_nil_of_le zo, List.append_nil]
  rfl
theorem open_u32 {fuel : Nat} {cs : List Value} {x : DataW H × List MemPlace} (h : DataW.trod enc prog W 0 sp held fuel 35 cs = some x) : ∃ n : Nat, cs = [.int .u32 (n : Int)] ∧ n < 2 ^ 32 := by
  obtain ⟨n, rfl, _, hw⟩ := DataW.trod_int Tryz.underlying35 h
  have hw : 0 ≤ n ∧ n ≤ 4294967295 := by simpa [Lit.wf, IntKind.min, IntKind.max, IntKind.signed, IntKind.bits] using hw
  exact ⟨n.toNat, by rw [Int.toNat_of_nonneg hw.1], by omega⟩
theorem open_obj {fuel : Nat} {cs : List Value} {x : DataW H × List MemPlace} (h : DataW.trod enc prog W 0 sp held fuel 37 cs = some x) : ∃ (o : jk) (a : vb), cs = jq o a ∧ ArgO W (o, a) := by
  obtain ⟨xs, k, rfl, _, hlen, hxs, hf⟩ := DataW.trod_struct Tryz.underlying37 h
  have k33 : prog.cellsOf 37 = 73 := by kernel_rfl
  have k3 : prog.cellsOf 3 = 1 := by kernel_rfl
  have k9 : prog.cellsOf 9 = 1 := by kernel_rfl
  have k24 : prog.cellsOf 28 = 1 := by kernel_rfl
  have k27 : prog.cellsOf 31 = 1 := by kernel_rfl
  have k26 : prog.cellsOf 30 = 32 := by kernel_rfl
  have k30 : prog.cellsOf 34 = 1 := by kernel_rfl
  have k28 : prog.cellsOf 32 = 1 := by kernel_rfl
  have k31 : prog.cellsOf 35 = 1 := by kernel_rfl
  have hxs : xs.length = 11 := hxs
  have g0 : DataW.trod enc prog W 0 sp held k 3 ((cs.drop 0).take (prog.cellsOf 3)) = _ := hf 0 _ rfl
  have g1 : DataW.trod enc prog W 0 sp held k 9 ((cs.drop 1).take (prog.cellsOf 9)) = _ := hf 1 _ rfl
  have g2 : DataW.trod enc prog W 0 sp held k 28 ((cs.drop 2).take (prog.cellsOf 28)) = _ := hf 2 _ rfl
  have g3 : DataW.trod enc prog W 0 sp held k 3 ((cs.drop 3).take (prog.cellsOf 3)) = _ := hf 3 _ rfl
  have g4 : DataW.trod enc prog W 0 sp held k 30 ((cs.drop 4).take (prog.cellsOf 30)) = _ := hf 4 _ rfl
  have g5 : DataW.trod enc prog W 0 sp held k 30 ((cs.drop 36).take (prog.cellsOf 30)) = _ := hf 5 _ rfl
  have g6 : DataW.trod enc prog W 0 sp held k 31 ((cs.drop 68).take (prog.cellsOf 31)) = _ := hf 6 _ rfl
  have g7 : DataW.trod enc prog W 0 sp held k 34 ((cs.drop 69).take (prog.cellsOf 34)) = _ := hf 7 _ rfl
  have g8 : DataW.trod enc prog W 0 sp held k 35 ((cs.drop 70).take (prog.cellsOf 35)) = _ := hf 8 _ rfl
  have g9 : DataW.trod enc prog W 0 sp held k 35 ((cs.drop 71).take (prog.cellsOf 35)) = _ := hf 9 _ rfl
  have g10 : DataW.trod enc prog W 0 sp held k 9 ((cs.drop 72).take (prog.cellsOf 9)) = _ := hf 10 _ rfl
  rw [k3, List.getElem?_eq_getElem zo] at g0 g3
  rw [k9, List.getElem?_eq_getElem zo] at g1 g10
  rw [k24, List.getElem?_eq_getElem zo] at g2
  rw [k26, List.getElem?_eq_getElem zo] at g4 g5
  rw [k27, List.getElem?_eq_getElem zo] at g6
  rw [k30, List.getElem?_eq_getElem zo] at g7
  rw [k31, List.getElem?_eq_getElem zo] at g8 g9
  obtain ⟨kind, e0, _, _⟩ := DataW.trod_int Tryz.underlying3 g0
  obtain ⟨tx, e1, _⟩ := zz9 g1
  obtain ⟨lp, ll, lc, e2, hlc, _, hls, hli, _⟩ := open_list (cells := je.cells) (ok := fun r => r.path.length ≤ maxLen ∧ r.id.length = 32) Tryz.underlying28 (by kernel_rfl : prog.cellsOf 148 = 33) zd (fun h => open_leaf h) g2
  obtain ⟨st, e3, _, _⟩ := DataW.trod_int Tryz.underlying3 g3
  obtain ⟨tree, e4, ht⟩ := open_id g4
  obtain ⟨base, e5, hb⟩ := open_id g5
  obtain ⟨pp, pl, pc, e6, hpc, _, hps, hpi, _⟩ := open_list (cells := ge) (ok := fun r => r.length = 32) Tryz.underlying31 k26 zd (fun h => open_id h) g6
  obtain ⟨xs2, k2, _, _, hlen2, hxs2, hf2⟩ := DataW.trod_struct Tryz.underlying34 g7
  have hxs2 : xs2.length = 1 := hxs2
  have g7' : DataW.trod enc prog W 0 sp held k2 32 (((((cs.drop 69).take 1)).drop 0).take (prog.cellsOf 32)) = _ := hf2 0 _ rfl
  rw [k28, List.getElem?_eq_getElem zo] at g7'
  obtain ⟨rp, rl, rc, e7, hrc, _, hrs, hri, _⟩ := open_list (cells := ud.cells) (ok := fun r => r.path.length ≤ maxLen ∧ r.text.length ≤ maxLen) Tryz.underlying32 (by kernel_rfl : prog.cellsOf 150 = 3) zd (fun h => open_chg h) g7'
  have e7 : (cs.drop 69).take 1 = [.slice rp rl.length rc] := by rw [← e7, List.drop_zero, List.take_take]; rfl
  obtain ⟨nu, e8, h8⟩ := open_u32 g8
  obtain ⟨au, e9, h9⟩ := open_u32 g9
  obtain ⟨no, e10, _⟩ := zz9 g10
  rw [k33] at hlen
  refine ⟨⟨kind, tx, ll, st, tree, base, pl, rl, nu, au, no⟩, ⟨lp, lc, pp, pc, rp, rc⟩, ?_, ⟨⟨ht, hb, hpi, hli, hri, h8, h9⟩, ⟨hls, hps, hrs⟩, ⟨hlc, hpc, hrc⟩⟩⟩
  have e : cs = cs.drop 0 := rfl
  rw [e, uj cs 0 1, e0, uj cs (0 + 1) 1, e1, uj cs (0 + 1 + 1) 1, e2, uj cs (0 + 1 + 1 + 1) 1, e3, uj cs (0 + 1 + 1 + 1 + 1) 32, e4, uj cs (0 + 1 + 1 + 1 + 1 + 32) 32, e5,
    uj cs (0 + 1 + 1 + 1 + 1 + 32 + 32) 1, e6, uj cs (0 + 1 + 1 + 1 + 1 + 32 + 32 + 1) 1, e7, uj cs (0 + 1 + 1 + 1 + 1 + 32 + 32 + 1 + 1) 1, e8, uj cs (0 + 1 + 1 + 1 + 1 + 32 + 32 + 1 + 1 + 1) 1, e9,
    uj cs (0 + 1 + 1 + 1 + 1 + 32 + 32 + 1 + 1 + 1 + 1) 1, e10, List.drop_eq_nil_of_le zo, List.append_nil]
  rfl
theorem open_bytes {fuel : Nat} {cs : List Value} {x : DataW H × List MemPlace} (h : DataW.trod enc prog W 0 sp held fuel 41 cs = some x) : ∃ (p : Option Addr) (l : Bytes) (c : Nat), cs = [.slice p l.length c] ∧ l.length ≤ c ∧ x3 W p l := by
  obtain ⟨p, l, c, e, hc, _, hs, _, _⟩ := open_list (cells := fun b => [Aa b]) (ok := fun _ => True) Tryz.underlying41 (by kernel_rfl : prog.cellsOf 5 = 1) zd (fun h => by obtain ⟨b, hb⟩ := open_byte h; exact ⟨b, hb, trivial⟩) h
  have e2 : l.flatMap (fun b => [Aa b]) = ge l := by rw [ge, List.map_eq_flatMap]
  rw [e2] at hs
  exact ⟨p, l, c, e, hc, hs⟩
theorem open_set {fuel : Nat} {cs : List Value} {x : DataW H × List MemPlace} (h : DataW.trod enc prog W 0 sp held fuel 91 cs = some x) : ∃ s : C9, cs = xt s ∧ ArgS W s := by
  obtain ⟨xs, k, rfl, _, hlen, hxs, hf⟩ := DataW.trod_struct Tryz.underlying91 h
  have k5 : prog.cellsOf 91 = 5 := by kernel_rfl
  have k9 : prog.cellsOf 9 = 1 := by kernel_rfl
  have k4 : prog.cellsOf 4 = 1 := by kernel_rfl
  have k41 : prog.cellsOf 41 = 1 := by kernel_rfl
  have hxs : xs.length = 5 := hxs
  have g0 : DataW.trod enc prog W 0 sp held k 9 ((cs.drop 0).take (prog.cellsOf 9)) = _ := hf 0 _ rfl
  have g1 : DataW.trod enc prog W 0 sp held k 4 ((cs.drop 1).take (prog.cellsOf 4)) = _ := hf 1 _ rfl
  have g2 : DataW.trod enc prog W 0 sp held k 4 ((cs.drop 2).take (prog.cellsOf 4)) = _ := hf 2 _ rfl
  have g3 : DataW.trod enc prog W 0 sp held k 41 ((cs.drop 3).take (prog.cellsOf 41)) = _ := hf 3 _ rfl
  have g4 : DataW.trod enc prog W 0 sp held k 41 ((cs.drop 4).take (prog.cellsOf 41)) = _ := hf 4 _ rfl
  rw [k9, List.getElem?_eq_getElem zo] at g0
  rw [k4, List.getElem?_eq_getElem zo] at g1 g2
  rw [k41, List.getElem?_eq_getElem zo] at g3 g4
  obtain ⟨s, e0, _⟩ := zz9 g0
  obtain ⟨q1, e1, _⟩ := DataW.trod_bool Tryz.underlying4 g1
  obtain ⟨q2, e2, _⟩ := DataW.trod_bool Tryz.underlying4 g2
  obtain ⟨op, ol, oc, e3, hoc, hos⟩ := open_bytes g3
  obtain ⟨np, nl, nc, e4, hnc, hns⟩ := open_bytes g4
  rw [k5] at hlen
  refine ⟨(⟨s, q1, q2, ol, nl⟩, ⟨op, oc, np, nc⟩), ?_, ⟨hos, hns, hoc, hnc⟩⟩
  have e : cs = cs.drop 0 := rfl
  rw [e, uj cs 0 1, e0, uj cs (0 + 1) 1, e1, uj cs (0 + 1 + 1) 1, e2, uj cs (0 + 1 + 1 + 1) 1, e3, uj cs (0 + 1 + 1 + 1 + 1) 1, e4, List.drop_eq_nil_of_le zo, List.append_nil]
  rfl
theorem open_bat {fuel : Nat} {cs : List Value} {x : DataW H × List MemPlace} (h : DataW.trod enc prog W 0 sp held fuel 25 cs = some x) : ∃ B : uk, cs = B.c ∧ BatArg W B := by
  obtain ⟨xs, k, rfl, _, hlen, hxs, hf⟩ := DataW.trod_struct Tryz.underlying25 h
  have k2 : prog.cellsOf 25 = 2 := by kernel_rfl
  have k22 : prog.cellsOf 22 = 1 := by kernel_rfl
  have k23 : prog.cellsOf 23 = 1 := by kernel_rfl
  have hxs : xs.length = 2 := hxs
  have g0 : DataW.trod enc prog W 0 sp held k 22 ((cs.drop 0).take (prog.cellsOf 22)) = _ := hf 0 _ rfl
  have g1 : DataW.trod enc prog W 0 sp held k 23 ((cs.drop 1).take (prog.cellsOf 23)) = _ := hf 1 _ rfl
  rw [k22, List.getElem?_eq_getElem zo] at g0
  rw [k23, List.getElem?_eq_getElem zo] at g1
  obtain ⟨op, os, oc, e0, hoc, _, hos, hoi, _⟩ := open_list (cells := Aq) (ok := ArgO W) Tryz.underlying22 (by kernel_rfl : prog.cellsOf 37 = 73) zd (fun h => by obtain ⟨o, a, e, h⟩ := open_obj h; exact ⟨(o, a), e, h⟩) g0
  obtain ⟨sp, ss, sc, e1, hsc, _, hss, hsi, _⟩ := open_list (cells := xt) (ok := ArgS W) Tryz.underlying23 (by kernel_rfl : prog.cellsOf 91 = 5) zd (fun h => open_set h) g1
  rw [k2] at hlen
  refine ⟨⟨op, oc, os, sp, sc, ss⟩, ?_, ⟨hos, hss, hoi, hsi, hoc, hsc⟩⟩
  have e : cs = cs.drop 0 := rfl
  rw [e, uj cs 0 1, e0, uj cs (0 + 1) 1, e1, List.drop_eq_nil_of_le zo, List.append_nil]
  rfl
end
open Go.Vc Go.ChangeShapes Go.WideShapes Go.ChangeAt Go.RowKit Go
set_option maxRecDepth 100000 in
theorem nil_lifted (os : Os) (started : os.Started) (H : Type) (enc : TypeId × Value → H) :
    ReturnsInHanded {} Tryz.checked os 3 .any (fun w args => (Rows.storeNilSpec.pre enc prog Tryz.f3 [] false w args ∧ laidMetH prog laidR w) ∧ sizedMet enc prog Tryz.f3 (OpenSpec.ofChange Rows.storeNilSpec) false w args)
      (Rows.storeNilSpec.post enc prog Tryz.f3 false true false false) := by
  refine returnsInHanded_of_change_and (C := Tryz.checked) (X := fun w _ => laidMetH prog laidR w) (fun _ _ _ hh h => h.of_heap hh) own started zk func3
    (ChangeSpec.witness_shaped (enc := enc) (C := Tryz.checked) (os := os) (X := fun w _ => laidMetH prog laidR w) false (World.doorLaid prog 400 os) #[.agg #[.slice none 0 0, .slice none 0 0], .int .i64 0, .int .i64 0] 40 rfl (World.shaped_of_RefB zk zk) zk zk zk (door_met os _)) ?_
  intro W base args ds gs before hval0 hW _ _ hL _
  have hval : ∀ (j : Nat) t v, Tryz.f3.params[j]? = some t → args[j]? = some v → Value.okWide prog W .any base t v := hval0
  have hW' := hW
  obtain ⟨p, q, hA0, hV, rfl, hfz, hnd⟩ := hW
  have hA : DataW.TrodAll enc prog W 0 (fun _ => true) true Tryz.f3.params.toList args.toList ds p := hA0
  rw [Tryz.params3] at hA hval
  obtain ⟨v0, vs0, d0, ds0, p0, q0, hargs, rfl, rfl, h0, r0⟩ := trodAll_cons hA
  obtain ⟨v1, vs1, d1, ds1, p1, q1, rfl, rfl, rfl, h1, r1⟩ := trodAll_cons r0
  obtain ⟨v2, vs2, d2, ds2, p2, q2, rfl, rfl, rfl, h2, r2⟩ := trodAll_cons r1
  obtain ⟨rfl, rfl, rfl⟩ := trodAll_nil r2
  obtain rfl : args = #[v0, v1, v2] := by cases args; simp_all
  obtain ⟨rfl, rfl⟩ := trodVars_none hV
  have w0 := hval 0 25 v0 rfl rfl
  have w1 := hval 1 3 v1 rfl rfl
  have w2 := hval 2 3 v2 rfl rfl
  obtain ⟨k0, h0⟩ := h0
  obtain ⟨k1, h1⟩ := h1
  obtain ⟨k2, h2⟩ := h2
  obtain ⟨c0, rfl, _⟩ := okWide_struct Tryz.underlying25 w0
  obtain ⟨n1, rfl⟩ := okWide_int Tryz.underlying3 w1
  obtain ⟨n2, rfl⟩ := okWide_int Tryz.underlying3 w2
  obtain ⟨B, e0, hB⟩ := open_bat h0
  obtain rfl : c0 = B.c.toArray := by apply Array.ext'; exact e0
  obtain ⟨n9, e2, _, hw2⟩ := DataW.trod_int Tryz.underlying3 h2
  simp only [Value.cells, List.cons.injEq, and_true, Value.int.injEq, true_and] at e2
  subst e2
  have hw2 : -9223372036854775808 ≤ n2 ∧ n2 ≤ 9223372036854775807 := by simpa [Lit.wf, IntKind.min, IntKind.max, IntKind.signed, IntKind.bits] using hw2
  clear hA0 hval0
  simp only [List.append_nil] at hW'
  refine Calls.mono (storenil_calls W (roots_of hL) hB n1 n2 ⟨hw2.1, by omega⟩) fun e W' he => ?_
  cases e with
  | returned v =>
    obtain ⟨rfl, hE⟩ : v = .bool true ∧ Ext No W W' := he
    refine ⟨_, rfl, post_true zk zk zk hW' rfl zk zk Tryz.underlying4 rfl rfl rfl hE⟩
  | panicked _ => exact he.elim
  | outgrown => exact he.elim
theorem nil_row : Rows.StoreNilSaid :=
  OpenClaim.holds_of_wide 3 Tryz.f3 rfl rfl rfl rfl rfl rfl rfl ⟨rfl, rfl, rfl, rfl, rfl⟩ rfl rfl rfl rfl rfl zk func3 zk
    (of_decide_eq_true zk) (by unfold Func.isWrapper; first | (rw [if_pos zq]; kernel_rfl) | (rw [if_neg zq]; exact ⟨rfl, rfl⟩))
    (fun os started H enc _ => nil_lifted os started H enc)
theorem nil_holds : Rows.StoreNilCardSaid :=
  Claim7.holds_tied_plain_at .later [] [.data] true Rows.storeNilCard.stood.harness false
    nil_row (fun _ h => by cases h) zk (fun _ h => by cases h) storeNil_row_tie rfl ⟨rfl, rfl⟩ zk rfl
    (fun f fn hf hfn => by
      obtain rfl : f = 3 := Option.some.inj ((show prog.funcNamed "confluence/confluencelaw10.StoreNil" = some 3 by kernel_rfl).symm.trans hf) |>.symm
      obtain rfl : fn = Tryz.f3 := (Option.some.inj (func3.symm.trans hfn)).symm
      exact ⟨by kernel_rfl, fun j t ht => by
        rw [Tryz.params3] at ht
        have hm : t ∈ [25, 3, 3] := by have := Array.mem_of_getElem? ht; simpa using this
        have hall : ([25, 3, 3].all fun u => !prog.wantsStandIn u) = true := by kernel_rfl
        exact (show prog.wantsStandIn t = false by simpa using List.all_eq_true.1 hall t hm)⟩)
    zk
end Go.Proofs.YtpdiphfjmepijaaGreatDoor
