/- ObjectDecodes -/
import Derived.Test.YtjghckniloikgaaDoorV2
namespace Go.Proofs.YtjghckniloikgaaDoor
open Go.Vc
/-- bytes that are given -/
structure BSl where
  p : Option Addr
  l : List UInt8
  c : Nat
def BSl.cell (r : BSl) : List Value := [.slice r.p r.l.length r.c]
theorem _root_.Go.Vc.Sl.cutB {w : World} {p : Option Addr} {l : List UInt8} (h : SlB w p l) (k : Nat) : SlB w p (l.take k) := by
  have h1 := h.slice 0 (min l.length k) (min l.length k) (Nat.zero_le _) (Nat.le_refl _) (by omega)
  have e : ((bytesU l).drop (0 * 1)).take ((min l.length k - 0) * 1) = bytesU (l.take k) := by
    rw [Nat.zero_mul, List.drop_zero, Nat.sub_zero, Nat.mul_one, bytesU, bytesU, List.map_take, List.take_eq_take_iff, List.length_map]
    omega
  rw [e, slBase_zero, Nat.sub_zero, min_take] at h1
  exact h1
theorem _root_.Go.Vc.Own.tyU {w : World} {p : Option Addr} {n c sz : Nat} {xs : List Value} (h : Own w p n c 5 sz xs) : TyU w p := fun a ha => by
  rcases h with ⟨rfl, _⟩ | ⟨b, l, rfl, hb, _⟩
  · cases ha
  · cases ha; exact ⟨l, hb⟩
theorem _root_.Go.Vc.Own.neT {w : World} {p q : Option Addr} {n c T sz m d U sy : Nat} {xs ys : List Value} (h : Own w p n c T sz xs) (k : Own w q m d U sy ys) (hT : T ≠ U) {x : Nat} (hx : OwnB p x) (hy : OwnB q x) : False := by
  obtain ⟨L1, h1⟩ := h.blkAt hx
  obtain ⟨L2, h2⟩ := k.blkAt hy
  exact hT (h1.uniq h2).2
theorem ObjNew.keep {W0 w w' : World} {o : ObjD} {a : ObjP} (h : ObjNew W0 w o a) {p : Option Addr} {n c sz : Nat} {xs : List Value} (k : Own w p n c 5 sz xs) (hE : Ext (ObjF a) w w') : Own w' p n c 5 sz xs :=
  k.ext hE fun _ hx hF => hF.elim (fun h1 => k.neT h.ol (by decide) hx h1) fun hF => hF.elim (fun h1 => k.neT h.op (by decide) hx h1) fun h1 => k.neT h.or (by decide) hx h1
theorem ObjNew.foot {W0 w w' : World} {o : ObjD} {a : ObjP} (h : ObjNew W0 w o a) (hX : Ext No W0 w) (hE : Ext (ObjF a) w w') : Ext No W0 w' :=
  hX.trans hE fun y hy hF => hF.elim (fun h1 => absurd (h.nl y h1) (Nat.not_le.2 hy)) fun hF => hF.elim (fun h1 => absurd (h.np y h1) (Nat.not_le.2 hy)) fun h1 => absurd (h.nr y h1) (Nat.not_le.2 hy)
theorem objectDecodes_calls (w : World) {p : Option Addr} {c : Nat} {rows : List BSl} (hs : Sl w p rows.length 1 (rows.flatMap BSl.cell)) (hin : ∀ r ∈ rows, SlB w r.p r.l ∧ r.l.length ≤ r.c) (hr : Seg w 0 0 (wordsV rootsW)) :
    CallsV Tryd.prog 4 [.slice p rows.length c] w fun v w' => v = .bool true ∧ Ext No w w' := by
  refine calls_enter Tryd.func4 rfl rfl rfl rfl ?_
  have hX := Ext.refl No w
  refine c_seq (c_region (wl_p I_ok rfl (wl_nil (f_then (c_seq (c_seq (c_region (wl (st_call Tryd.call9 rfl rfl rfl rfl rfl rfl (wakes_calls w (hr.extNo hX)) fun v1 w1 hr1 => ?_)))))))))
  obtain ⟨rfl, hE1⟩ := hr1
  have hX := hX.thenNo hE1
  refine wl_p I_ok rfl (wl_nil (f_then (c_condF rfl (c_skip (f_then (c_cutK (α := Unit) [] rfl (fun z => []) (fun z u => (True) ∧ Ext No w u) ?_ ?_))))))
  · refine c_seq ?_
    refine c_region (wl_p I_ok rfl (wl_nil (f_then (c_block ?_))))
    refine c_loopK (α := Nat) [14, 15] rfl (fun z => [(16, .int .i64 (z : Int))]) (fun z u => (z ≤ rows.length ∧ z ≤ 16) ∧ Ext No w u) (fun z u => rows.length - z) (0) rfl ⟨⟨Nat.zero_le _, Nat.zero_le _⟩, hX⟩ ?_
    rintro i w2 ⟨⟨hi, hi16⟩, hX⟩
    refine c_seq (c_region (wl_p I_ok rfl (wl_nil (f_then (c_seq (c_if rfl (fun hc => ?_) (fun hc => ?_)))))))
    · have hi : i < rows.length := by omega
      obtain ⟨qb, qoff, hp, hsq⟩ := hs.rowAll (fun r _ => rfl) (by omega)
      rw [hp]
      have hxi := hin _ (List.getElem_mem hi)
      have hl1 : ((rows[i]).l.take 1000).length ≤ 1000 := by rw [List.length_take]; omega
      have hd := dec_ok (l := ((rows[i]).l.take 1000)) (by omega)
      refine c_skip (f_then (c_seq (c_block (c_seq (c_region (wl_p I_ok rfl (wl (st_ix I_ok rfl 1 rfl i rfl hi (qoff + i * 1) rfl (wl (st_ld I_ok rfl (((hsq i hi).extNo hX) 0 _ rfl) (wl_p I_ok rfl (wl_nil (f_then (c_seq (c_seq ?_)))))))))))))))
      refine c_region (wl_p I_ok rfl (wl_nil (f_then (c_if rfl (fun hc => ?_) (fun hc => ?_)))))
      · refine c_exit ?_
        exact f_thenE (f_blockE' rfl (f_thenE (f_thenE (f_blockE (f_cut (()) rfl ⟨trivial, hX⟩)))))
      · have h16 : i < 16 := by omega
        refine c_skip (f_then (c_seq (c_region (wl (st_bs I_ok rfl 1 rfl rfl rfl (by decide) (by decide) trivial (l' := []) rfl fun b23 w3 hn23 hb23 hE3 hs3 => ?_)))))
        have fr23 := Nat.le_trans hX.size hn23
        have hX := hX.thenNo hE3
        refine wl_p I_ok rfl (wl (st_sl I_ok rfl 0 (min (rows[i]).l.length 1000) (rows[i]).c 1 rfl (.inr ⟨rfl, rfl⟩) (.inl (congrArg some (minI _ _))) (.inr ⟨rfl, rfl⟩) (Nat.zero_le _) (by have := hxi.2; omega) (Nat.le_refl _) ?_))
        rw [slBase_zero, Nat.sub_zero, Nat.sub_zero, min_take]
        have hX0 := hX
        have hbo := hb23
        refine wl (st_app I_ok rfl 1 1 rfl rfl rfl (by decide) (Own.blk (n := 0) (c := 0) hb23 1 rfl (Nat.le_refl _) (by decide)) (Src.slice ((hxi.1.cutB 1000).extNo hX) OneC.h) (by dsimp only [maxLen]; omega) (by dsimp only; omega) fun p4 c4 w4 ho4 hE4 hB4 => ?_)
        dsimp only at ho4 hE4 hB4 ⊢
        have hX := hX0.trans hE4 fun y hy hF => by have e : b23 = y := congrArg Addr.block (Option.some.inj hF); omega
        obtain ⟨q1, k1, e1, e2, hq1⟩ : ∃ q1 k1, q1 = p4 ∧ k1 = c4 ∧ Own w4 q1 ((rows[i]).l.take 1000).length k1 5 1 (bytesU ((rows[i]).l.take 1000)) := ⟨_, _, rfl, rfl, by have h := ho4; rw [Nat.zero_add] at h; exact h⟩
        rw [← e1, ← e2, Nat.zero_add]
        refine wl_p I_ok rfl (wl_nil (f_then (c_seq (c_region ?_))))
        have hq10 := hq1
        refine wl (st_bs I_ok rfl 1 rfl rfl rfl (by decide) (by decide) trivial (l' := []) rfl fun b30 w5 hn30 hb30 hE5 hs5 => ?_)
        have fr30 := Nat.le_trans hX.size hn30
        have hq1 := hq1.ext hE5 fun _ _ => id
        have hX := hX.thenNo hE5
        have ne30 : ∀ x, OwnB q1 x → x ≠ b30 := fun x hx => Nat.ne_of_lt (Nat.lt_of_lt_of_le (hq10.lt hx) hn30)
        refine wl_p I_ok rfl ?_
        have hX0 := hX
        have hbo := hb30
        refine wl (st_app I_ok rfl 1 1 rfl rfl rfl (by decide) (Own.blk (n := 0) (c := 0) hb30 1 rfl (Nat.le_refl _) (by decide)) (Src.slice hq1.sl OneC.h) (by dsimp only [maxLen]; omega) (by dsimp only; omega) fun p6 c6 w6 ho6 hE6 hB6 => ?_)
        dsimp only at ho6 hE6 hB6 ⊢
        have hq1 := hq1.ext hE6 (fun x hx hF => ne30 x hx (by have e : b30 = x := congrArg Addr.block (Option.some.inj hF); exact e.symm))
        have hX := hX0.trans hE6 fun y hy hF => by have e : b30 = y := congrArg Addr.block (Option.some.inj hF); omega
        obtain ⟨q2, k2, e1, e2, hq2⟩ : ∃ q2 k2, q2 = p6 ∧ k2 = c6 ∧ Own w6 q2 ((rows[i]).l.take 1000).length k2 5 1 (bytesU ((rows[i]).l.take 1000)) := ⟨_, _, rfl, rfl, by have h := ho6; rw [Nat.zero_add] at h; exact h⟩
        rw [← e1, ← e2, Nat.zero_add]
        refine wl_p I_ok rfl (wl_nil (f_then (c_seq (c_region (wl_p I_ok rfl (wl_nil (f_then (c_block ?_))))))))
        refine c_loopK (α := Nat) [5, 6, 14, 15, 16] rfl (fun z => [(7, .int .i64 (z : Int))]) (fun z u => (z ≤ 2 ∧ Own u q1 ((rows[i]).l.take 1000).length k1 5 1 (bytesU ((rows[i]).l.take 1000)) ∧ Own u q2 ((rows[i]).l.take 1000).length k2 5 1 (bytesU ((rows[i]).l.take 1000))) ∧ Ext No w u) (fun z u => 2 - z) (0) rfl ⟨⟨Nat.zero_le _, hq1, hq2⟩, hX⟩ ?_
        rintro j w7 ⟨⟨hj, hq1, hq2⟩, hX⟩
        refine c_seq (c_seq (c_region (wl_p I_ok rfl (wl_nil (f_then (c_if rfl (fun hc => ?_) (fun hc => ?_)))))))
        · have hj : j < 2 := by omega
          refine c_skip (f_then (c_seq (c_block (c_seq (c_region (wl_p I_ok rfl ?_))))))
          have hX0 := hX
          refine wl (st_call Tryd.call22 rfl rfl rfl rfl rfl rfl (decode_calls w7 hq1.sl (by omega)) fun v8 w8 hr8 => ?_)
          obtain ⟨a1, rfl, hN1, hE8⟩ := hr8
          have hq1 := hq1.ext hE8 fun _ _ => id
          have hq2 := hq2.ext hE8 fun _ _ => id
          have hX := hX.thenNo hE8
          have hN1 := hN1.older hX0.size
          refine wl_p I_ok rfl (wl (st_al I_ok rfl fun b8 w9 hn8 hb8 hE9 => ?_))
          have fr8 := Nat.le_trans hX.size hn8
          have hq1 := hq1.ext hE9 fun _ _ => id
          have hq2 := hq2.ext hE9 fun _ _ => id
          have hN1 := hN1.extNo hE9
          have hX := hX.thenNo hE9
          have hb8o := hb8
          refine wl (st_stW (l' := objC (decB ((rows[i]).l.take 1000)).1 a1) I_ok hb8 rfl rfl (objC_len hd.1) (by rw [(objC_len hd.1)]; rfl) OneC.h fun w10 hb8 hE10 hs10 => ?_)
          have hq1 := hq1.extTy hE10 hb8o (by decide)
          have hq2 := hq2.extTy hE10 hb8o (by decide)
          have hN1 := hN1.ext1 hE10 hb8o (by decide) (by decide) (by decide)
          have hX := hX.thenNew hE10 fr8
          refine wl_p I_ok rfl (wl_nil (f_then (c_seq (c_region (wl_p I_ok rfl (wl (st_call Tryd.call23 rfl rfl rfl rfl rfl rfl (decode6_calls w10 hq2.sl hq2.tyU hq2.cap (by omega)) fun v11 w11 hr11 => ?_)))))))
          obtain ⟨a2, rfl, hN2, hE11⟩ := hr11
          have hb8 := hb8.extNo hE11
          have hq1 := hq1.ext hE11 fun _ _ => id
          have hq2 := hq2.ext hE11 fun _ _ => id
          have hN1 := hN1.extNo hE11
          have hX := hX.thenNo hE11
          refine wl_p I_ok rfl (wl (st_al I_ok rfl fun b10 w12 hn10 hb10 hE12 => ?_))
          have ne8_10 : b8 ≠ b10 := Nat.ne_of_lt (Nat.lt_of_lt_of_le hb8.lt hn10)
          have fr10 := Nat.le_trans hX.size hn10
          have hb8 := hb8.extNo hE12
          have hq1 := hq1.ext hE12 fun _ _ => id
          have hq2 := hq2.ext hE12 fun _ _ => id
          have hN1 := hN1.extNo hE12
          have hN2 := hN2.extNo hE12
          have hX := hX.thenNo hE12
          have hb10o := hb10
          refine wl (st_stW (l' := objC (decB ((rows[i]).l.take 1000)).1 a2) I_ok hb10 rfl rfl (objC_len hd.1) (by rw [(objC_len hd.1)]; rfl) OneC.h fun w13 hb10 hE13 hs13 => ?_)
          have hb8 := hb8.ext1 hE13 ne8_10
          have hq1 := hq1.extTy hE13 hb10o (by decide)
          have hq2 := hq2.extTy hE13 hb10o (by decide)
          have hN1 := hN1.ext1 hE13 hb10o (by decide) (by decide) (by decide)
          have hN2 := hN2.ext1 hE13 hb10o (by decide) (by decide) (by decide)
          have hX := hX.thenNew hE13 fr10
          refine wl_p I_ok rfl (wl_nil (f_then (c_seq ?_)))
          refine c_cutK (α := Bool) [5, 6, 7, 8, 14, 15, 16] rfl (fun z => [(61, .bool z)]) (fun z u => (z = false ∧ Own u q1 ((rows[i]).l.take 1000).length k1 5 1 (bytesU ((rows[i]).l.take 1000)) ∧ Own u q2 ((rows[i]).l.take 1000).length k2 5 1 (bytesU ((rows[i]).l.take 1000)) ∧ ObjNew w u (decB ((rows[i]).l.take 1000)).1 a1) ∧ Blk u b8 33 (objC (decB ((rows[i]).l.take 1000)).1 a1) ∧ Ext No w u) ?_ ?_
          · refine c_region ?_
            refine wl_p I_ok rfl (wl_caseD 50 rfl (fun hg => ?_) (fun hg => ?_))
            · exact absurd rfl hg
            · refine wl (st_ldB I_ok hb8 rfl (objC_len hd.1) ?_)
              refine wl (st_ldB I_ok hb10 rfl (objC_len hd.1) (wl (st_call Tryd.call15 rfl rfl rfl rfl rfl rfl (same6_calls w13 hd.1 hd.1 hN1.l hN2.l hd.2) fun v14 w14 hr14 => ?_)))
              obtain ⟨rfl, hE14⟩ := hr14
              have hb8 := hb8.extNo hE14
              have hb10 := hb10.extNo hE14
              have hq1 := hq1.ext hE14 fun _ _ => id
              have hq2 := hq2.ext hE14 fun _ _ => id
              have hN1 := hN1.extNo hE14
              have hN2 := hN2.extNo hE14
              have hX := hX.thenNo hE14
              refine wl_pk I_ok 3 rfl (wl_case 56 rfl (fun hg => ?_) (fun hg => ?_))
              · exact absurd hg (by simp)
              · refine wl_pk I_ok 2 rfl ?_
                refine wl (st_call Tryd.call17 rfl rfl rfl rfl rfl rfl (bytesEqual_calls w14 hq1.sl hq2.sl) fun v15 w15 hr15 => ?_)
                obtain ⟨rfl, rfl⟩ := hr15
                refine wl_pk I_ok 2 rfl (wl_nil ?_)
                exact f_cut (_) rfl ⟨⟨by simp, hq1, hq2, hN1⟩, hb8, hX⟩
          rintro z w16 ⟨⟨rfl, hq1, hq2, hN1⟩, hb8, hX⟩
          refine c_condF rfl (c_skip (f_then (c_region (wl (st_ldB I_ok hb8 rfl (objC_len hd.1) ?_)))))
          have hX1 := hX
          refine wl (st_call Tryd.call24 rfl rfl rfl rfl rfl rfl (spoil_calls w16 hd.1 ⟨_, hN1.ol⟩ ⟨_, hN1.op⟩ ⟨_, hN1.or⟩ hd.2.leaves hd.2.parents hd.2.rows) fun v17 w17 hr17 => ?_)
          obtain ⟨rfl, hE17⟩ := hr17
          have hq1 := hN1.keep hq1 hE17
          have hq2 := hN1.keep hq2 hE17
          have hX := hN1.foot hX1 hE17
          refine wl_nil (f_blockN (f_then (c_region (wl_p I_ok rfl ?_))))
          rw [IntWalk.i64_in _ (by omega)]
          refine wl_nil ?_
          exact f_round (j + 1) rfl ⟨⟨hj, hq1, hq2⟩, hX⟩ (by first | omega | (dsimp only; omega))
        · refine c_exit ?_
          refine f_thenE (f_thenE (f_blockE (f_blockN (f_then (c_region (wl_p I_ok rfl ?_))))))
          rw [IntWalk.i64_in _ (by omega)]
          refine wl_nil ?_
          exact f_round (i + 1) rfl ⟨⟨hi, h16⟩, hX⟩ (by first | omega | (dsimp only; omega))
    · refine c_exit ?_
      exact f_thenE (f_thenE (f_blockE (f_cut (()) rfl ⟨trivial, hX⟩)))
  rintro _ w18 ⟨_, hX⟩
  refine c_seq (c_region (wl_p I_ok rfl (wl_nil (f_then (c_ret (f_ret1 rfl rfl ?_))))))
  exact ⟨rfl, hX⟩
end Go.Proofs.YtjghckniloikgaaDoor
