/- ObjectBack -/
import Derived.Test.YtjghckniloikgaaDoorV8
import Derived.Test.YtjghckniloikgaaDoorV4
namespace Go.Proofs.YtjghckniloikgaaDoor
open Go.Vc
theorem rem_op {n : Int} {m : Nat} (h0 : 0 < m) (h1 : m < 1000000000) : intBin .rem .u64 (IntKind.u64.wrap n) (IntKind.u64.wrap (m : Int)) = some (.int .u64 (((IntKind.u64.wrap n).toNat % m : Nat) : Int)) := by
  have e : IntKind.u64.wrap (m : Int) = (m : Int) := IntWalk.u64_in _ (by omega)
  have h2 : 0 ≤ IntKind.u64.wrap n := by rw [IntKind.wrap_u64]; omega
  have e2 : IntKind.u64.wrap n = ((IntKind.u64.wrap n).toNat : Int) := (Int.toNat_of_nonneg h2).symm
  have e3 : decide ((m : Int) = 0) = false := decide_eq_false (by omega)
  rw [e]
  show (match decide ((m : Int) = 0) with | true => none | false => some (Value.int .u64 ((IntKind.u64.wrap n).tmod (m : Int)))) = _
  rw [e3]
  show some (Value.int .u64 ((IntKind.u64.wrap n).tmod (m : Int))) = _
  rw [Int.tmod_eq_emod_of_nonneg h2]
  rw [show (((IntKind.u64.wrap n).toNat % m : Nat) : Int) = ((IntKind.u64.wrap n).toNat : Int) % (m : Int) from Int.natCast_emod _ _, Int.toNat_of_nonneg h2]
theorem laid_pos (o : ObjD) : 0 < (laidB o).length := by rw [laidB, List.length_append, be_len]; omega
theorem objectBack_calls (w : World) {x : ObjD} {a : ObjP} (hx : ObjArg w x a) {p : Option Addr} {c : Nat} {l : List UInt8} (hb : SlB w p l) (hc0 : l.length ≤ c) (n : Int) (hr : Seg w 0 0 (wordsV rootsW)) :
    CallsV Tryd.prog 7 [.agg (objC x a).toArray, .slice p l.length c, .int .i64 n] w fun v w' => v = .bool true ∧ Ext No w w' := by
  have hsi : ObjIn (shortO x) := shortO_in hx.i
  have hss : Short (shortO x) := shortO_sh _
  have hbl : (l.take 1000).length ≤ 1000 := by rw [List.length_take]; omega
  have hd := dec_ok (l := (l.take 1000)) (by omega)
  refine calls_enter Tryd.func7 rfl rfl rfl rfl ?_
  have hX := Ext.refl No w
  refine c_seq (c_region (wl (st_al I_ok rfl fun b3 w1 hn3 hb3 hE1 => ?_)))
  have fr3 := Nat.le_trans hX.size hn3
  have hX := hX.thenNo hE1
  have hb3 : Blk w1 b3 33 (objC x a) := hb3
  refine wl_p I_ok rfl (wl_nil (f_then (c_seq (c_seq (c_region (wl (st_call Tryd.call9 rfl rfl rfl rfl rfl rfl (wakes_calls w1 (hr.extNo hX)) fun v2 w2 hr2 => ?_)))))))
  obtain ⟨rfl, hE2⟩ := hr2
  have hb3 := hb3.extNo hE2
  have hX := hX.thenNo hE2
  refine wl_p I_ok rfl (wl_nil (f_then (c_condF rfl (c_skip (f_then (c_seq (c_region (wl (st_ldB I_ok hb3 rfl (objC_len hx.i) (wl (st_call Tryd.call10 rfl rfl rfl rfl rfl rfl (shortA (hx.extNo hX)) fun v3 w3 hr3 => ?_)))))))))))
  obtain ⟨a1, rfl, hN1, hE3⟩ := hr3
  have hb3 := hb3.extNo hE3
  have hX := hX.thenNo hE3
  have hb3o := hb3
  refine wl (st_stW (l' := objC (shortO x) a1) I_ok hb3 rfl rfl (objC_len hsi) (by rw [objC_len hx.i, (objC_len hsi)]) OneC.h fun w4 hb3 hE4 hs4 => ?_)
  have hN1 := hN1.ext1 hE4 hb3o (by decide) (by decide) (by decide)
  have hX := hX.thenNew hE4 fr3
  refine wl_nil (f_then (c_seq (c_region (wl (st_ldB I_ok hb3 rfl (objC_len hsi) (wl (st_call Tryd.call11 rfl rfl rfl rfl rfl rfl (encode_calls w4 hsi hN1.l hss) fun v5 w5 hr5 => ?_)))))))
  obtain ⟨q1, k1, rfl, hq1, hqn1, hE5⟩ := hr5
  have hb3 := hb3.extNo hE5
  have hN1 := hN1.extNo hE5
  have hX := hX.thenNo hE5
  refine wl_p I_ok rfl (wl_nil (f_then (c_cutK (α := Unit) [1] rfl (fun z => []) (fun z u => (True) ∧ Ext No w u) ?_ ?_)))
  · refine c_seq ?_
    refine c_region (wl_p I_ok rfl (wl_nil (f_then (c_if rfl (fun hc => ?_) (fun hc => ?_)))))
    · have hk : ObjOk (shortO x) := (if_zero (by decide)).1 hc
      obtain ⟨e1, e2, e3⟩ := objYes hk
      have e0 : objE (shortO x) = 0 := hc
      have hl8 := hk.2
      have hl0 := laid_pos (shortO x)
      have hdec := dec_laid hsi hk
      rw [e1] at hq1
      rw [e0, e1]
      refine c_seq (c_region (wl_p I_ok rfl (wl (st_call Tryd.call22 rfl rfl rfl rfl rfl rfl (decode_calls w5 hq1.sl (by omega)) fun v6 w6 hr6 => ?_))))
      obtain ⟨a2, rfl, hN2, hE6⟩ := hr6
      have hb3 := hb3.extNo hE6
      have hN1 := hN1.extNo hE6
      have hq1 := hq1.ext hE6 fun _ _ => id
      have hX := hX.thenNo hE6
      rw [hdec] at hN2 ⊢
      dsimp only at hN2 ⊢
      refine wl_p I_ok rfl (wl (st_al I_ok rfl fun b9 w7 hn9 hb9 hE7 => ?_))
      have ne3_9 : b3 ≠ b9 := Nat.ne_of_lt (Nat.lt_of_lt_of_le hb3.lt hn9)
      have fr9 := Nat.le_trans hX.size hn9
      have hb3 := hb3.extNo hE7
      have hN1 := hN1.extNo hE7
      have hq1 := hq1.ext hE7 fun _ _ => id
      have hN2 := hN2.extNo hE7
      have hX := hX.thenNo hE7
      have hb9o := hb9
      refine wl (st_stW (l' := objC (shortO x) a2) I_ok hb9 rfl rfl (objC_len hsi) (by rw [(objC_len hsi)]; rfl) OneC.h fun w8 hb9 hE8 hs8 => ?_)
      have hb3 := hb3.ext1 hE8 ne3_9
      have hN1 := hN1.ext1 hE8 hb9o (by decide) (by decide) (by decide)
      have hq1 := hq1.extTy hE8 hb9o (by decide)
      have hN2 := hN2.ext1 hE8 hb9o (by decide) (by decide) (by decide)
      have hX := hX.thenNew hE8 fr9
      refine wl_p I_ok rfl (wl_nil (f_then (c_seq (c_region (wl (st_ldB I_ok hb3 rfl (objC_len hsi) (wl (st_call Tryd.call12 rfl rfl rfl rfl rfl rfl (idObj_calls w8 hsi hN1.l hss (hr.extNo hX)) fun v9 w9 hr9 => ?_))))))))
      obtain ⟨rfl, hE9⟩ := hr9
      have hb3 := hb3.extNo hE9
      have hb9 := hb9.extNo hE9
      have hN1 := hN1.extNo hE9
      have hq1 := hq1.ext hE9 fun _ _ => id
      have hN2 := hN2.extNo hE9
      have hX := hX.thenNo hE9
      rw [e0, e2]
      refine wl_p I_ok rfl ?_
      have hN10 := hN1
      have hN20 := hN2
      refine wl (st_al I_ok rfl fun b11 w10 hn11 hb11 hE10 => ?_)
      have ne3_11 : b3 ≠ b11 := Nat.ne_of_lt (Nat.lt_of_lt_of_le hb3.lt hn11)
      have ne9_11 : b9 ≠ b11 := Nat.ne_of_lt (Nat.lt_of_lt_of_le hb9.lt hn11)
      have fr11 := Nat.le_trans hX.size hn11
      have hb3 := hb3.extNo hE10
      have hb9 := hb9.extNo hE10
      have hN1 := hN1.extNo hE10
      have hq1 := hq1.ext hE10 fun _ _ => id
      have hN2 := hN2.extNo hE10
      have hX := hX.thenNo hE10
      have ne1 : ∀ x, OwnB a1.pp x → x ≠ b11 := fun x hx => Nat.ne_of_lt (Nat.lt_of_lt_of_le (hN10.op.lt hx) hn11)
      have ne2 : ∀ x, OwnB a2.pp x → x ≠ b11 := fun x hx => Nat.ne_of_lt (Nat.lt_of_lt_of_le (hN20.op.lt hx) hn11)
      have hb11o := hb11
      refine wl (st_stW (l' := bytesU (idOf (shortO x))) I_ok hb11 rfl rfl (by rw [bytesU_len, idOf_len]) (by rw [bytesU_len, idOf_len]; rfl) OneC.h fun w11 hb11 hE11 hs11 => ?_)
      have hb3 := hb3.ext1 hE11 ne3_11
      have hb9 := hb9.ext1 hE11 ne9_11
      have hN1 := hN1.extF hE11 hb11o ne1
      have hq1 := hq1.extTy hE11 hb11o (by decide)
      have hN2 := hN2.extF hE11 hb11o ne2
      have hX := hX.thenNew hE11 fr11
      refine wl_p I_ok rfl (wl_nil (f_then (c_seq (c_cutK (α := Bool) [1, 2, 7] rfl (fun z => [(56, .bool z)]) (fun z u => (z = false ∧ Own u q1 (laidB (shortO x)).length k1 5 1 (bytesU (laidB (shortO x)))) ∧ Ext No w u) ?_ ?_))))
      · refine c_draw rfl 18 [(0, true), (1, true), (2, true), (3, true), (4, true), (5, true), (6, true), (7, true), (8, true), (9, false), (10, true), (11, true), (12, true), (13, true), (14, true), (15, false), (16, true), (17, true)] [] (No) (by kernel_rfl) fun w12 hE12 hs12 => ?_
        have hd3 := hb3
        have hd9 := hb9
        have hd11 := hb11
        have hN1d := hN1
        have hq1d := hq1
        have hN2d := hN2
        have hXd := hX
        have hb3 := hb3.extNo hE12
        have hb9 := hb9.extNo hE12
        have hb11 := hb11.extNo hE12
        have hN1 := hN1.extNo hE12
        have hq1 := hq1.ext hE12 fun _ _ => id
        have hN2 := hN2.extNo hE12
        have hX := hX.thenNo hE12
        have hC : Ext (No) _ w12 := hE12.no
        refine wd_k I_ok 3 rfl (wd_caseD 41 rfl (fun hg => ?_) (fun hg => ?_))
        · first | exact absurd rfl hg | exact absurd trivial hg
        · refine wd_k I_ok 4 rfl ?_
          refine wd_caseD 45 rfl (fun hg => ?_) (fun hg => ?_)
          · first | exact absurd rfl hg | exact absurd trivial hg
          · refine wd_ldN I_ok rfl rfl (fun w' hw' => (hd3.extNo hw').seg) (objC_len hsi) ?_
            refine wd_ldN I_ok rfl rfl (fun w' hw' => (hd9.extNo hw').seg) (objC_len hsi) ?_
            refine wd_l rfl (st_call Tryd.call31 rfl rfl rfl rfl rfl rfl (sameObj_calls w12 hsi hsi hN1.l hN2.l hss) fun v13 w13 hr13 => ⟨(by obtain ⟨rfl, hE13⟩ := hr13; exact hC.thenNo hE13), ?_⟩)
            obtain ⟨rfl, hE13⟩ := hr13
            have hb3 := hb3.extNo hE13
            have hb9 := hb9.extNo hE13
            have hb11 := hb11.extNo hE13
            have hN1 := hN1.extNo hE13
            have hq1 := hq1.ext hE13 fun _ _ => id
            have hN2 := hN2.extNo hE13
            have hX := hX.thenNo hE13
            have hC := hC.thenNo hE13
            refine wd_k I_ok 3 rfl (wd_case 51 rfl (fun hg => ?_) (fun hg => ?_))
            · exact absurd hg (by simp)
            · refine wd_ldN I_ok rfl rfl (fun w' hw' => (hd11.extNo hw').seg) (by rw [bytesU_len, idOf_len]) ?_
              refine wd_k I_ok 1 rfl (wd_l rfl (st_call Tryd.call32 rfl rfl rfl rfl rfl rfl (sum_calls w13 hq1.sl (by omega) (hr.extNo hX)) fun v14 w14 hr14 => ⟨(by obtain ⟨rfl, hE14⟩ := hr14; exact hC.thenNo hE14), ?_⟩))
              obtain ⟨rfl, hE14⟩ := hr14
              have hb3 := hb3.extNo hE14
              have hb9 := hb9.extNo hE14
              have hb11 := hb11.extNo hE14
              have hN1 := hN1.extNo hE14
              have hq1 := hq1.ext hE14 fun _ _ => id
              have hN2 := hN2.extNo hE14
              have hX := hX.thenNo hE14
              have hC := hC.thenNo hE14
              refine wd_eqK rfl rfl gId 10 (by decide) kId (idForm (idOf_len _)) (idForm (sumW_len _)) (idKey (idOf_len _)) (idKey (sumW_len _)) idLits_inj ?_
              simp only [Bool.false_eq_true, if_false]
              refine wd_k I_ok 1 rfl (wd_sw (wb_nil ?_))
              exact f_cut (_) rfl ⟨⟨decide_eq_false (fun h => h rfl), hq1⟩, hX⟩
      rintro z w15 ⟨⟨rfl, hq1⟩, hX⟩
      refine c_condF rfl (c_skip (f_then (c_seq (c_region (wl_pk I_ok 5 rfl (wl (st_p (v := .int .u64 (((IntKind.u64.wrap n).toNat % (laidB (shortO x)).length : Nat) : Int)) I_ok rfl rfl (by exact rem_op hl0 (by omega)) (wl_p I_ok rfl ?_))))))))
      rw [IntWalk.i64_in _ (by have := Nat.mod_lt (IntKind.u64.wrap n).toNat hl0; omega)]
      obtain ⟨k, hk1, hk2⟩ : ∃ k, k = (IntKind.u64.wrap n).toNat % (laidB (shortO x)).length ∧ k < (laidB (shortO x)).length := ⟨_, rfl, Nat.mod_lt _ hl0⟩
      rw [← hk1]
      have hkl : ((laidB (shortO x)).take k).length = k := by rw [List.length_take]; omega
      refine wl_p I_ok rfl (wl_nil (f_then (c_seq (c_region (wl_p I_ok rfl (wl (st_sl I_ok rfl 0 k k1 1 rfl (.inr ⟨rfl, rfl⟩) (.inl rfl) (.inr ⟨rfl, rfl⟩) (Nat.zero_le _) (by have := hq1.cap; omega) (Nat.le_refl _) ?_)))))))
      rw [slBase_zero, Nat.sub_zero, Nat.sub_zero]
      refine wl (st_call Tryd.call22 rfl rfl rfl rfl rfl rfl ((hkl ▸ decode_calls w15 (l := (laidB (shortO x)).take k) (hq1.sl.cutB k) (by omega))) fun v16 w16 hr16 => ?_)
      obtain ⟨a3, rfl, hN3, hE16⟩ := hr16
      have hq1 := hq1.ext hE16 fun _ _ => id
      have hX := hX.thenNo hE16
      rw [dec_less hsi hk.1 hk2] at hN3 ⊢
      dsimp only at hN3 ⊢
      refine wl_p I_ok rfl (wl (st_al I_ok rfl fun b14 w17 hn14 hb14 hE17 => ?_))
      have fr14 := Nat.le_trans hX.size hn14
      have hq1 := hq1.ext hE17 fun _ _ => id
      have hX := hX.thenNo hE17
      have hb14o := hb14
      refine wl (st_stW (l' := objC objZ a3) I_ok hb14 rfl rfl (objC_len objZ_in) (by rw [objC_len objZ_in]; rfl) OneC.h fun w18 hb14 hE18 hs18 => ?_)
      have hq1 := hq1.extTy hE18 hb14o (by decide)
      have hX := hX.thenNew hE18 fr14
      refine wl_p I_ok rfl (wl_nil (f_then (c_seq (c_region (wl_p I_ok rfl (wl_nil (f_then (c_if rfl (fun hc => ?_) (fun hc => ?_)))))))))
      · exact absurd rfl hc
      · refine c_skip ?_
        exact f_cut (()) rfl ⟨trivial, hX⟩
    · refine c_skip ?_
      exact f_cut (()) rfl ⟨trivial, hX⟩
  rintro _ w19 ⟨_, hX⟩
  refine c_seq (c_region (wl_p I_ok rfl (wl (st_sl I_ok rfl 0 (min l.length 1000) c 1 rfl (.inr ⟨rfl, rfl⟩) (.inl (congrArg some (minI _ _))) (.inr ⟨rfl, rfl⟩) (Nat.zero_le _) (by omega) (Nat.le_refl _) ?_))))
  rw [slBase_zero, Nat.sub_zero, Nat.sub_zero, min_take]
  refine wl_p I_ok rfl (wl_nil (f_then (c_seq (c_region (wl_p I_ok rfl (wl (st_call Tryd.call22 rfl rfl rfl rfl rfl rfl (decode_calls w19 ((hb.cutB 1000).extNo hX) (by omega)) fun v20 w20 hr20 => ?_)))))))
  obtain ⟨a4, rfl, hN4, hE20⟩ := hr20
  have hX := hX.thenNo hE20
  refine wl_p I_ok rfl (wl (st_al I_ok rfl fun b16 w21 hn16 hb16 hE21 => ?_))
  have fr16 := Nat.le_trans hX.size hn16
  have hN4 := hN4.extNo hE21
  have hX := hX.thenNo hE21
  have hb16o := hb16
  refine wl (st_stW (l' := objC (decB (l.take 1000)).1 a4) I_ok hb16 rfl rfl (objC_len hd.1) (by rw [(objC_len hd.1)]; rfl) OneC.h fun w22 hb16 hE22 hs22 => ?_)
  have hN4 := hN4.ext1 hE22 hb16o (by decide) (by decide) (by decide)
  have hX := hX.thenNew hE22 fr16
  refine wl_p I_ok rfl (wl_nil (f_then (c_seq (c_seq (c_region (wl_p I_ok rfl (wl_nil (f_then (c_if rfl (fun hc => ?_) (fun hc => ?_))))))))))
  · obtain ⟨ez, e7⟩ := dec_err hc
    rw [ez] at hb16 hN4
    refine c_cutK (α := Bool) [] rfl (fun z => [(6, .bool z)]) (fun z u => (z = true) ∧ Ext No w u) ?_ ?_
    · refine c_region ?_
      refine wl (st_ldB I_ok hb16 rfl (objC_len objZ_in) (wl (st_bd I_ok rfl trivial (l' := objC objZ noP) objZ_c.symm ?_)))
      refine wl (st_call Tryd.call31 rfl rfl rfl rfl rfl rfl (sameObj_calls w22 objZ_in objZ_in hN4.l ⟨Sl.nil _ _ _, Sl.nil _ _ _, Sl.nil _ _ _⟩ objZ_sh) fun v23 w23 hr23 => ?_)
      obtain ⟨rfl, hE23⟩ := hr23
      have hb16 := hb16.extNo hE23
      have hN4 := hN4.extNo hE23
      have hX := hX.thenNo hE23
      refine wl_p I_ok rfl (wl_case 88 rfl (fun hg => ?_) (fun hg => ?_))
      · refine wl_pk I_ok 3 rfl ?_
        refine wl_caseD 91 rfl (fun hg => ?_) (fun hg => ?_)
        · refine wl_pk I_ok 5 rfl ?_
          refine wl_nil ?_
          exact f_cut (true) rfl ⟨rfl, hX⟩
        · refine wl_pk I_ok 5 rfl ?_
          refine wl_nil ?_
          exact f_cut (_) rfl ⟨decide_eq_true (e7.resolve_left hg), hX⟩
      · exact absurd hg (by simp)
    rintro z w24 ⟨rfl, hX⟩
    refine c_ret (f_thenR (f_ret1 rfl rfl ?_))
    exact ⟨rfl, hX⟩
  · have h0 : (decB (l.take 1000)).2 = 0 := Decidable.not_not.1 hc
    obtain ⟨hok, hla⟩ := dec_back h0
    have e5 : objE (decB (l.take 1000)).1 = 0 := if_pos hok
    have e6 : encB (decB (l.take 1000)).1 = (l.take 1000) := (objYes hok).1.trans hla
    refine c_skip (f_then (c_seq (c_region (wl (st_ldB I_ok hb16 rfl (objC_len hd.1) (wl (st_call Tryd.call11 rfl rfl rfl rfl rfl rfl (encode_calls w22 hd.1 hN4.l hd.2) fun v25 w25 hr25 => ?_)))))))
    obtain ⟨q5, k5, rfl, hq5, hqn5, hE25⟩ := hr25
    have hb16 := hb16.extNo hE25
    have hN4 := hN4.extNo hE25
    have hX := hX.thenNo hE25
    rw [e6] at hq5
    rw [e5, e6]
    refine wl_p I_ok rfl (wl_nil (f_then (c_cutK (α := Bool) [] rfl (fun z => [(6, .bool z)]) (fun z u => (z = true) ∧ Ext No w u) ?_ ?_)))
    · refine c_region ?_
      refine wl_p I_ok rfl (wl_caseD 103 rfl (fun hg => ?_) (fun hg => ?_))
      · refine wl_pk I_ok 2 rfl ?_
        refine wl (st_call Tryd.call17 rfl rfl rfl rfl rfl rfl (bytesEqual_calls w25 hq5.sl ((hb.cutB 1000).extNo hX)) fun v26 w26 hr26 => ?_)
        obtain ⟨rfl, rfl⟩ := hr26
        refine wl_p I_ok rfl (wl_case 108 rfl (fun hg => ?_) (fun hg => ?_))
        · refine wl (st_ldB I_ok hb16 rfl (objC_len hd.1) ?_)
          refine wl (st_call Tryd.call14 rfl rfl rfl rfl rfl rfl (checkObj_calls w26 hd.1 hN4.l hd.2) fun v27 w27 hr27 => ?_)
          obtain ⟨rfl, hE27⟩ := hr27
          have hb16 := hb16.extNo hE27
          have hN4 := hN4.extNo hE27
          have hq5 := hq5.ext hE27 fun _ _ => id
          have hX := hX.thenNo hE27
          rw [e5]
          refine wl_pk I_ok 3 rfl (wl_nil ?_)
          exact f_cut (_) rfl ⟨rfl, hX⟩
        · exact absurd hg (by simp)
      · exact absurd rfl hg
    rintro z w28 ⟨rfl, hX⟩
    refine c_ret (f_ret1 rfl rfl ?_)
    exact ⟨rfl, hX⟩
end Go.Proofs.YtjghckniloikgaaDoor
