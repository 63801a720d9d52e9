/- a disk with a fuse: the walk -/
import Derived.Test.YtoldbdocgimpnaaF0
namespace Go.Proofs.Ytoldbdocgimpnaa
open Go.Vc
structure FS where
  i : Nat
  n : Int
  B : Dsk
  F : Nat → Prop
  Fc : Nat → Prop
abbrev Dsk.gone (B : Dsk) : Dsk := { B with fuse := -1, dead := true }
theorem gone_crash (B : Dsk) (kp : List Bool) : B.gone.crash kp = B.crash kp := rfl
theorem fuse_calls (w : World) {p p2 : Option Addr} {c c2 : Nat} {l l2 : List PAct} (n : Int) {G : Nat → Prop} (hcap : l.length ≤ c) (hl : ActsSl w G p l) (hcap2 : l2.length ≤ c2) (hl2 : ActsSl w G p2 l2) :
    CallsV Try.prog 5 [.slice p l.length c, .slice p2 l2.length c2, .int .i64 n] w fun v w' => v = .bool true ∧ Ext No w w' := by
  refine calls_enter Try.func5 rfl rfl rfl rfl ?_
  have hX := Ext.refl No w
  refine c_seq (c_region (wl_p I_ok rfl (wl_nil (f_then (c_seq (c_seq (c_region (wl (st_call Try.call10 rfl rfl rfl rfl rfl rfl (wakes_calls w) fun v1 w1 hr1 => ?_)))))))))
  obtain ⟨rfl, hE1⟩ := hr1
  have hX := hX.thenNo hE1
  refine wl_p I_ok rfl (wl_nil (f_then (c_condF rfl (c_skip (f_then (c_seq (c_region (wl_p I_ok rfl ?_))))))))
  have hX1 := hX
  refine wl (st_call Try.call26 rfl rfl rfl rfl rfl rfl (used_calls w1 hcap (hl.extNo hX)) fun v2 w2 hr2 => ?_)
  obtain ⟨d, B, F, rfl, hA, hcalm, hok, hnew, hE2⟩ := hr2
  have hX := hX.thenNo hE2
  have hnew : ∀ y, F y → w.heap.size ≤ y := fun y hy => Nat.le_trans hX1.size (hnew y hy)
  have hY := Ext.refl No w2
  refine wl_p I_ok rfl (wl_nil (f_then (c_seq (c_seq (c_region (wl_p I_ok rfl (wl_nil (f_then (c_condF rfl (c_skip (f_then (c_seq (c_region (wl_p I_ok rfl ?_))))))))))))))
  have hX2 := hX
  have hYs := hY.size
  refine wl (st_call Try.call27 rfl rfl rfl rfl rfl rfl (copy_calls w2 (hA.ext hY fun _ _ => id) hok (by decide)) fun v3 w3 hr3 => ?_)
  obtain ⟨cd, rfl, hcd, hAc, hE3⟩ := hr3
  have hY := hY.thenNo hE3
  have hX := hX.thenNo hE3
  have hI : FI w w3 d cd 200 B F B (Grow No w2 w3) := ⟨hok, hok, hA.ext hY fun _ _ => id, hAc, hnew, fun y hy => hy.elim False.elim fun h => Nat.le_trans hX2.size h.1, fun t h1 h2 => h2.elim id fun h => by have := hA.lt t h1; omega⟩
  generalize Grow No w2 w3 = Fc at hI
  have hY := Ext.refl No w3
  refine wl_p I_ok rfl (wl_nil (f_then (c_seq (c_region (wl_p I_ok rfl ?_)))))
  rw [show IntKind.i64.wrap ((IntKind.u64.wrap n).tmod 30) = (n % 18446744073709551616) % 30 from by rw [IntKind.wrap_u64, IntWalk.rem_in _ _ (by omega), IntWalk.i64_in _ (by omega)]]
  obtain ⟨N, hN⟩ : ∃ N, N = (n % 18446744073709551616) % 30 := ⟨_, rfl⟩
  have hN0 : 0 ≤ N ∧ N < 30 := by omega
  rw [← hN]
  refine wl_nil (f_then (c_seq (c_seq (c_region (wl_p I_ok rfl ?_)))))
  have hI := hI.ext hY
  refine wl (st_call Try.call28 rfl rfl rfl rfl rfl rfl (arm_calls w3 hI.atD N) fun v4 w4 hr4 => ?_)
  obtain ⟨rfl, hA2, hE4⟩ := hr4
  have hX := hX.trans hE4 fun y hy hF => by have := hI.newD y hF; omega
  have harm : B.arm N = (B.fu N, 0) := by
    simp only [Dsk.arm, hcalm.dead]
    rw [if_neg (by decide)]
    simp only [setTo]
    rw [if_neg (by omega)]
    simp only [Dsk.fu, hcalm.dead]
  rw [harm] at hA2 ⊢
  have hI := hI.leftF hA2 hE4 (Nat.le_refl _) (hok.fu ⟨by omega, by omega⟩)
  have hY := Ext.refl No w4
  refine wl_p I_ok rfl (wl_nil (f_then (c_if rfl (fun hc => ?_) (fun hc => ?_))))
  · exact absurd rfl hc
  · refine c_skip ?_
    refine f_then (c_seq (c_seq (c_region (wl_p I_ok rfl (wl (st_call Try.call12 rfl rfl rfl rfl rfl rfl (someActs_calls w4 hcap2 hl2) fun v5 w5 hr5 => ?_))))))
    obtain ⟨rfl, hl2, hE5⟩ := hr5
    have hY := hY.thenNo hE5
    have hX := hX.thenNo hE5
    have hl100 : (l2.take 100).length ≤ 100 := by simp; omega
    generalize l2.take 100 = l2 at hl2 hl100
    refine wl_p I_ok rfl (wl_nil (f_then (c_block ?_)))
    refine c_loopK (α := FS) [7, 9, 48, 49] rfl (fun z => [(2, .int .i64 z.n), (50, .int .i64 (z.i : Int))]) (fun z u => (z.i ≤ l2.length ∧ (0 ≤ z.n ∧ z.n < 30) ∧ z.B.Calm ∧ FI w u d cd (200 + 2 * z.i) (z.B.fu z.n) z.F z.B z.Fc) ∧ Ext No w u) (fun z u => l2.length - z.i) (⟨0, N, B, F, Fc⟩) rfl ⟨⟨Nat.zero_le _, hN0, hcalm, hI.ext hY⟩, hX⟩ ?_
    rintro ⟨i, N, B, F, Fc⟩ w6 ⟨⟨hi, hn, hcalm, hI⟩, hX⟩
    dsimp only
    dsimp only at hi hn hcalm hI
    have hY := Ext.refl No w6
    refine c_seq (c_region (wl_p I_ok rfl (wl_nil (f_then (c_seq (c_if rfl (fun hc => ?_) (fun hc => ?_)))))))
    · have hi' : i < l2.length := by omega
      obtain ⟨bl, off, r, hp, hseg, hr4, hat⟩ := hl2.get2 (Ext.refl No w) hi'
      have hnb := hat.nb
      have hat0 := hat
      obtain ⟨q, qc, rfl, hrest⟩ := hat
      subst hp
      refine c_skip (f_then (c_cutK (α := FS) [7, 9, 48, 49, 50] rfl (fun z => [(2, .int .i64 z.n)]) (fun z u => ((0 ≤ z.n ∧ z.n < 30) ∧ z.B.Calm ∧ FI w u d cd (200 + 2 * (i + 1)) (z.B.fu z.n) z.F z.B z.Fc) ∧ Ext No w u) ?_ ?_))
      · refine c_block ?_
        refine c_seq (c_region (wl (st_ix I_ok rfl 4 rfl i rfl hi' (off + i * 4) rfl (wl (st_ldN I_ok rfl (hseg.extNo hX) rfl (wl (st_al I_ok rfl fun b11 w7 hn11 hb11 hE7 => ?_)))))))
        have fr11 := Nat.le_trans hX.size hn11
        have frhY11 := Nat.le_trans hY.size hn11
        have hY := hY.thenNo hE7
        have hX := hX.thenNo hE7
        have hF11 : ¬ F b11 := fun e => by have := hI.atD.lt b11 e; omega
        have hc11 : ¬ Fc b11 := fun e => by have := hI.atE.lt b11 e; omega
        refine wl (st_stW (l' := actV l2[i] q qc) I_ok hb11 rfl rfl rfl rfl OneC.h fun w8 hb11 hE8 hs8 => ?_)
        have hY := hY.thenNew hE8 frhY11
        have hX := hX.thenNew hE8 fr11
        refine wl_nil (f_then (c_seq (c_seq (c_region (wl (st_ldB I_ok hb11 rfl rfl (wl (st_call Try.call13 rfl rfl rfl rfl rfl rfl (which_calls w8 l2[i] q qc) fun v9 w9 hr9 => ?_))))))))
        obtain ⟨rfl, hE9⟩ := hr9
        have hb11 := hb11.extNo hE9
        have hY := hY.thenNo hE9
        have hX := hX.thenNo hE9
        refine wl_p I_ok rfl (wl_nil (f_then (c_if rfl (fun hc => ?_) (fun hc => ?_))))
        · refine c_exit ?_
          exact f_thenE (f_blockE (f_cut (⟨i, N, B, F, Fc⟩) rfl ⟨⟨hn, hcalm, (hI.ext hY).up (by omega)⟩, hX⟩))
        · have hk : whichN (l2[i]).k < 4 := by omega
          refine c_skip (f_then (c_cutK (α := Bool) [2, 7, 9, 11, 48, 49, 50] rfl (fun z => [(12, .bool z)]) (fun z u => (z = decide (There l2[i])) ∧ Blk u b11 35 (actV l2[i] q qc) ∧ Ext No w6 u ∧ Ext No w u) ?_ ?_))
          · refine c_region ?_
            refine wl (st_ldB I_ok hb11 rfl rfl (wl (st_call Try.call13 rfl rfl rfl rfl rfl rfl (which_calls w9 l2[i] q qc) fun v10 w10 hr10 => ?_)))
            obtain ⟨rfl, hE10⟩ := hr10
            have hb11 := hb11.extNo hE10
            have hY := hY.thenNo hE10
            have hX := hX.thenNo hE10
            refine wl_p I_ok rfl (wl_caseD 60 rfl (fun hg => ?_) (fun hg => ?_))
            · refine wl_pk I_ok 10 rfl ?_
              refine wl_nil ?_
              exact f_cut (_) rfl ⟨(by (have : There l2[i] := .inl (by omega)); simp [this]), hb11, hY, hX⟩
            · refine wl_pk I_ok 1 rfl ?_
              refine wl (st_ldb I_ok hb11 rfl rfl (wl_pk I_ok 2 rfl (wl_caseD 64 rfl (fun hg => ?_) (fun hg => ?_))))
              · refine wl_pk I_ok 1 rfl ?_
                refine wl (st_ldb I_ok hb11 rfl rfl (wl_pk I_ok 4 rfl (wl_nil ?_)))
                exact f_cut (_) rfl ⟨decide_eq_decide.2 ⟨fun h => .inr ⟨hg, h⟩, fun h => h.elim (fun h => by omega) And.right⟩, hb11, hY, hX⟩
              · refine wl_pk I_ok 6 rfl ?_
                refine wl_nil ?_
                exact f_cut (_) rfl ⟨(by (have : ¬ There l2[i] := fun e => e.elim (fun e => by omega) fun e => by omega); simp [this]), hb11, hY, hX⟩
          rintro z w11 ⟨rfl, hb11, hY, hX⟩
          refine c_seq (c_cutK (α := Bool) [2, 7, 9, 11, 12, 48, 49, 50] rfl (fun z => [(79, .bool z)]) (fun z u => (z = decide (N = 0 ∧ There l2[i] ∧ 0 < whichN (l2[i]).k)) ∧ Blk u b11 35 (actV l2[i] q qc) ∧ Ext No w6 u ∧ Ext No w u) ?_ ?_)
          · refine c_region ?_
            refine wl_p I_ok rfl (wl_caseD 72 rfl (fun hg => ?_) (fun hg => ?_))
            · refine wl_pk I_ok 3 rfl ?_
              refine wl_caseD 75 rfl (fun hg => ?_) (fun hg => ?_)
              · refine wl (st_ldB I_ok hb11 rfl rfl ?_)
                refine wl (st_call Try.call13 rfl rfl rfl rfl rfl rfl (which_calls w11 l2[i] q qc) fun v12 w12 hr12 => ?_)
                obtain ⟨rfl, hE12⟩ := hr12
                have hb11 := hb11.extNo hE12
                have hY := hY.thenNo hE12
                have hX := hX.thenNo hE12
                refine wl_pk I_ok 2 rfl (wl_nil ?_)
                exact f_cut (_) rfl ⟨decide_eq_decide.2 ⟨fun h => ⟨by omega, hg, by omega⟩, fun h => by have := h.2.2; omega⟩, hb11, hY, hX⟩
              · refine wl_pk I_ok 4 rfl ?_
                refine wl_nil ?_
                exact f_cut (_) rfl ⟨by simp [hg], hb11, hY, hX⟩
            · refine wl_pk I_ok 7 rfl ?_
              refine wl_nil ?_
              exact f_cut (_) rfl ⟨by simp [hg], hb11, hY, hX⟩
          rintro z w13 ⟨rfl, hb11, hY, hX⟩
          refine c_if rfl (fun hc => ?_) (fun hc => ?_)
          · obtain ⟨h0, ht, hp⟩ := hc
            subst h0
            have hend := fuse_end hcalm l2[i] hk ht hp
            have hwl := waits_len B
            have hfew := hI.okE.few
            refine c_seq (c_region (wl_p I_ok rfl ?_))
            have hI := hI.ext hY
            refine wl (st_call Try.call16 rfl rfl rfl rfl rfl rfl (pending_ints w13 hI.atE hI.okE (by omega)) fun v14 w14 hr14 => ?_)
            obtain ⟨b13, rfl, hn13, hb13, hE14⟩ := hr14
            have ne11_13 : b11 ≠ b13 := Nat.ne_of_lt (Nat.lt_of_lt_of_le hb11.lt hn13)
            have fr13 := Nat.le_trans hX.size hn13
            have frhY13 := Nat.le_trans hY.size hn13
            have hb11 := hb11.extNo hE14
            have hY := hY.thenNo hE14
            have hX := hX.thenNo hE14
            have hF13 : ¬ F b13 := fun e => by have := hI.atD.lt b13 e; omega
            have hc13 : ¬ Fc b13 := fun e => by have := hI.atE.lt b13 e; omega
            have hI := hI.ext hE14
            have hY := Ext.refl No w14
            refine wl_p I_ok rfl (wl_nil (f_then (c_seq (c_region (wl_p I_ok rfl (wl (st_ldB I_ok hb11 rfl rfl ?_)))))))
            have hlb11 := hb11.lt
            have hlb13 := hb13.lt
            have hI := hI.ext hY
            have hXs := hX.size
            refine wl (st_call Try.call15 rfl rfl rfl rfl rfl rfl (happens_calls w14 hI.atD hI.okD (by omega) (hat0.ext hX fun _ _ => id)) fun v15 w15 hr15 => ?_)
            obtain ⟨rfl, hA, hE15⟩ := hr15
            have hb11 := hb11.ext hE15 hF11
            have hb13 := hb13.ext hE15 hF13
            have hX := hX.trans hE15 fun y hy hF => by have := hI.newD y hF; omega
            have hok2 := hI.okD.act l2[i] hnb.1 hnb.2
            rw [hend] at hA hok2 ⊢
            have hI := hI.left hXs hA hE15 (by omega) hok2
            have hF13 : ¬ Grow F w14 w15 b13 := fun e => e.elim hF13 fun e => by omega
            generalize Grow F w14 w15 = F at hI hF13
            have hY := Ext.refl No w15
            refine wl_p I_ok rfl (wl (st_al I_ok rfl fun b14 w16 hn14 hb14 hE16 => ?_))
            have ne13_14 : b13 ≠ b14 := Nat.ne_of_lt (Nat.lt_of_lt_of_le hb13.lt hn14)
            have fr14 := Nat.le_trans hX.size hn14
            have frhY14 := Nat.le_trans hY.size hn14
            have hb13 := hb13.extNo hE16
            have hY := hY.thenNo hE16
            have hX := hX.thenNo hE16
            refine wl (st_stW (l' := bytesL zeros) I_ok hb14 rfl (by rw [cells_num]) (bytesL_len zeros_length) (by rw [bytesL_len zeros_length]; rfl) OneC.h fun w17 hb14 hE17 hs17 => ?_)
            have hb13 := hb13.ext1 hE17 ne13_14
            have hY := hY.thenNew hE17 frhY14
            have hX := hX.thenNew hE17 fr14
            refine wl_p I_ok rfl (wl_nil (f_then (c_seq (c_region (wl_p I_ok rfl ?_)))))
            have hI := hI.ext hY
            refine wl (st_call Try.call24 rfl rfl rfl rfl rfl rfl (read_at w17 hI.atD hI.okD (by omega) 0) fun v18 w18 hr18 => ?_)
            obtain ⟨rfl, hA, hE18⟩ := hr18
            have hb13 := hb13.ext hE18 hF13
            have hX := hX.trans hE18 fun y hy hF => by have := hI.newD y hF; omega
            rw [show B.gone.read 0 = (B.gone, zeros, 9) from by simp [Dsk.read, Dsk.begin]] at hA ⊢
            have hI := hI.leftF hA hE18 (Nat.le_refl _) hI.okD
            have hY := Ext.refl No w18
            refine wl_p I_ok rfl (wl (st_al I_ok rfl fun b16 w19 hn16 hb16 hE19 => ?_))
            have ne13_16 : b13 ≠ b16 := Nat.ne_of_lt (Nat.lt_of_lt_of_le hb13.lt hn16)
            have fr16 := Nat.le_trans hX.size hn16
            have frhY16 := Nat.le_trans hY.size hn16
            have hb13 := hb13.extNo hE19
            have hY := hY.thenNo hE19
            have hX := hX.thenNo hE19
            refine wl (st_stW (l' := bytesL zeros) I_ok hb16 rfl (by rw [cells_num]) (bytesL_len zeros_length) (by rw [bytesL_len zeros_length]; rfl) OneC.h fun w20 hb16 hE20 hs20 => ?_)
            have hb13 := hb13.ext1 hE20 ne13_16
            have hY := hY.thenNew hE20 frhY16
            have hX := hX.thenNew hE20 fr16
            refine wl_p I_ok rfl (wl_nil (f_then (c_seq (c_cutK (α := Bool) [7, 9, 13] rfl (fun z => [(132, .bool z)]) (fun z u => (z = false ∧ FI w u d cd (200 + 2 * i + 2) B.gone F B Fc) ∧ Blk u b13 3 (intsL (waits B)) ∧ Ext No w u) ?_ ?_))))
            · refine c_region ?_
              refine wl_p I_ok rfl (wl_caseD 95 rfl (fun hg => ?_) (fun hg => ?_))
              · exact absurd rfl hg
              · refine wl_pk I_ok 4 rfl ?_
                refine wl_caseD 99 rfl (fun hg => ?_) (fun hg => ?_)
                · exact absurd rfl hg
                · refine wl_pk I_ok 1 rfl ?_
                  refine wl (st_call Try.call29 rfl rfl rfl rfl rfl rfl ((dead_calls w20 (hI.atD.extNo hY)).same) fun v21 w21 hr21 => ?_)
                  obtain ⟨rfl, hE21⟩ := hr21
                  have hb13 := hb13.extNo hE21
                  have hY := hY.thenNo hE21
                  have hX := hX.thenNo hE21
                  refine wl_pk I_ok 3 rfl (wl_case 104 rfl (fun hg => ?_) (fun hg => ?_))
                  · cases hg
                  · refine wl_pk I_ok 1 rfl ?_
                    have hI := hI.ext hY
                    refine wl (st_call Try.call30 rfl rfl rfl rfl rfl rfl (sync_calls w21 hI.atD hI.okD (by omega)) fun v22 w22 hr22 => ?_)
                    obtain ⟨rfl, hA, hE22⟩ := hr22
                    have hb13 := hb13.ext hE22 hF13
                    have hX := hX.trans hE22 fun y hy hF => by have := hI.newD y hF; omega
                    rw [show B.gone.sync = (B.gone, 9) from by simp [Dsk.sync, Dsk.begin]] at hA ⊢
                    have hI := hI.leftF hA hE22 (Nat.le_refl _) hI.okD
                    have hY := Ext.refl No w22
                    refine wl_pk I_ok 3 rfl (wl_caseD 109 rfl (fun hg => ?_) (fun hg => ?_))
                    · exact absurd rfl hg
                    · refine wl_pk I_ok 1 rfl ?_
                      have hI := hI.ext hY
                      refine wl (st_call Try.call28 rfl rfl rfl rfl rfl rfl (arm_calls w22 hI.atD 3) fun v23 w23 hr23 => ?_)
                      obtain ⟨rfl, hA, hE23⟩ := hr23
                      have hb13 := hb13.ext hE23 hF13
                      have hX := hX.trans hE23 fun y hy hF => by have := hI.newD y hF; omega
                      rw [show B.gone.arm 3 = (B.gone, 9) from by simp [Dsk.arm]] at hA ⊢
                      have hI := hI.leftF hA hE23 (Nat.le_refl _) hI.okD
                      have hY := Ext.refl No w23
                      refine wl_pk I_ok 3 rfl (wl_caseD 114 rfl (fun hg => ?_) (fun hg => ?_))
                      · exact absurd rfl hg
                      · refine wl_pk I_ok 1 rfl ?_
                        have hI := hI.ext hY
                        refine wl (st_call Try.call31 rfl rfl rfl rfl rfl rfl (fail_calls w23 hI.atD 3) fun v24 w24 hr24 => ?_)
                        obtain ⟨rfl, hA, hE24⟩ := hr24
                        have hb13 := hb13.ext hE24 hF13
                        have hX := hX.trans hE24 fun y hy hF => by have := hI.newD y hF; omega
                        rw [show B.gone.fail 3 = (B.gone, 9) from by simp [Dsk.fail]] at hA ⊢
                        have hI := hI.leftF hA hE24 (Nat.le_refl _) hI.okD
                        have hY := Ext.refl No w24
                        refine wl_pk I_ok 3 rfl (wl_caseD 119 rfl (fun hg => ?_) (fun hg => ?_))
                        · exact absurd rfl hg
                        · refine wl_pk I_ok 1 rfl ?_
                          have hI := hI.ext hY
                          refine wl (st_call Try.call16 rfl rfl rfl rfl rfl rfl (pending_ints w24 hI.atD hI.okD (by omega)) fun v25 w25 hr25 => ?_)
                          obtain ⟨b50, rfl, hn50, hb50, hE25⟩ := hr25
                          have ne13_50 : b13 ≠ b50 := Nat.ne_of_lt (Nat.lt_of_lt_of_le hb13.lt hn50)
                          have fr50 := Nat.le_trans hX.size hn50
                          have frhY50 := Nat.le_trans hY.size hn50
                          have hb13 := hb13.extNo hE25
                          have hY := hY.thenNo hE25
                          have hX := hX.thenNo hE25
                          have hI := hI.ext hE25
                          have hY := Ext.refl No w25
                          refine wl_pk I_ok 1 rfl ?_
                          refine wl (st_call Try.call32 rfl rfl rfl rfl rfl rfl (equal_calls w25 ⟨by simp [intsL], .inr ⟨b50, 0, rfl, hb50.seg⟩⟩ ⟨by simp [intsL], .inr ⟨b13, 0, rfl, hb13.seg⟩⟩ (by have : waits B.gone = waits B := rfl; rw [this]; omega)) fun v26 w26 hr26 => ?_)
                          obtain ⟨rfl, hE26⟩ := hr26
                          have hb13 := hb13.extNo hE26
                          have hb50 := hb50.extNo hE26
                          have hY := hY.thenNo hE26
                          have hX := hX.thenNo hE26
                          refine wl_pk I_ok 3 rfl (wl_case 126 rfl (fun hg => ?_) (fun hg => ?_))
                          · simp [waits] at hg
                          · refine wl_pk I_ok 1 rfl ?_
                            refine wl (st_call Try.call33 rfl rfl rfl rfl rfl rfl ((ops_calls w26 (hI.atD.extNo hY)).same) fun v27 w27 hr27 => ?_)
                            obtain ⟨rfl, hE27⟩ := hr27
                            have hb13 := hb13.extNo hE27
                            have hb50 := hb50.extNo hE27
                            have hY := hY.thenNo hE27
                            have hX := hX.thenNo hE27
                            refine wl_pk I_ok 1 rfl (wl (st_call Try.call33 rfl rfl rfl rfl rfl rfl ((ops_calls w27 (hI.atE.extNo hY)).same) fun v28 w28 hr28 => ?_))
                            obtain ⟨rfl, hE28⟩ := hr28
                            have hb13 := hb13.extNo hE28
                            have hb50 := hb50.extNo hE28
                            have hY := hY.thenNo hE28
                            have hX := hX.thenNo hE28
                            refine wl_pk I_ok 2 rfl (wl_nil ?_)
                            exact f_cut (_) rfl ⟨⟨by simp, hI.ext hY⟩, hb13, hX⟩
            rintro z w29 ⟨⟨rfl, hI⟩, hb13, hX⟩
            have hY := Ext.refl No w29
            refine c_condF rfl (c_skip (f_then (c_seq (c_region (wl_p I_ok rfl ?_)))))
            refine wl (st_mk I_ok rfl (waits B).length (waits B).length 1 rfl rfl rfl (by decide) rfl rfl (Nat.le_refl _) (by omega) (by unfold maxLen; omega) fun b135 w30 hn135 hb135 hE30 hs30 => ?_)
            have ne13_135 : b13 ≠ b135 := Nat.ne_of_lt (Nat.lt_of_lt_of_le hb13.lt hn135)
            have fr135 := Nat.le_trans hX.size hn135
            have frhY135 := Nat.le_trans hY.size hn135
            have hb13 := hb13.extNo hE30
            have hY := hY.thenNo hE30
            have hX := hX.thenNo hE30
            have hb135 : Blk w30 b135 4 (boolsL (List.replicate (waits B).length false)) := by (have e : rep (waits B).length (cellsOf ti4.zero) = boolsL (List.replicate (waits B).length false) := by rw [show cellsOf ti4.zero = [Value.bool false] from rfl, rep_one, boolsL, List.map_replicate]); rw [← e]; exact hb135
            have hF135 : ¬ F b135 := fun e => by have := hI.atD.lt b135 e; have := hY.size; omega
            have hc135 : ¬ Fc b135 := fun e => by have := hI.atE.lt b135 e; have := hY.size; omega
            refine wl_p I_ok rfl (wl_nil (f_then (c_seq (c_seq (c_region (wl_p I_ok rfl (wl_nil (f_then (c_block ?_)))))))))
            refine c_loopK (α := Nat × List Bool) [7, 9, 18, 137] rfl (fun z => [(138, .int .i64 (z.1 : Int))]) (fun z u => (z.1 ≤ (waits B).length ∧ z.2.length = (waits B).length ∧ FI w u d cd (200 + 2 * i + 2) B.gone F B Fc) ∧ Blk u b135 4 (boolsL z.2) ∧ Ext No w u) (fun z u => (waits B).length - z.1) (0, List.replicate (waits B).length false) rfl ⟨⟨Nat.zero_le _, by simp, hI.ext hY⟩, hb135, hX⟩ ?_
            rintro ⟨k, kp⟩ w31 ⟨⟨hk2, hkp, hI⟩, hb135, hX⟩
            dsimp only
            dsimp only at hk2 hkp hb135
            have hY := Ext.refl (One b135) w31
            refine c_seq (c_region (wl_p I_ok rfl (wl_nil (f_then (c_seq (c_if rfl (fun hc => ?_) (fun hc => ?_)))))))
            · have hk3 : k < (waits B).length := by omega
              refine c_skip (f_then (c_seq (c_block (c_seq (c_region (wl_p I_ok rfl (wl_nil (f_then (c_region (wl_p I_ok rfl (wl (st_ix I_ok rfl 1 rfl k rfl hk3 (0 + k * 1) rfl ?_))))))))))))
              refine wl (st_set I_ok hb135 rfl rfl (by simp [boolsL, hkp, hk3]) fun w32 hb135 hE32 hs32 => ?_)
              have hY := hY.then (hE32.mono fun _ _ e => by have e : _ = _ := e; subst e; first | rfl | simp)
              have hX := hX.thenNew hE32 fr135
              have hb135 : Blk w32 b135 4 (boolsL (kp.set k (decide (((k : Int).tmod 2) = 0)))) := by simpa [boolsL, List.map_set] using hb135
              refine wl_nil (f_blockN (f_then (c_region (wl_p I_ok rfl ?_))))
              rw [IntWalk.i64_in _ (by omega)]
              refine wl_nil ?_
              exact f_round (k + 1, _) rfl ⟨⟨by dsimp only; omega, by simpa using hkp, hI.ext1 hY hF135 hc135⟩, hb135, hX⟩ (by first | omega | (dsimp only; omega))
            · have hY := Ext.refl No w31
              have hqc : (B.crash kp).Quiet := ⟨rfl, rfl, by simp [Dsk.crash, settle_len, hcalm.size]⟩
              refine c_exit (f_thenE (f_thenE (f_blockE (f_then (c_seq (c_cutK (α := Bool) [7, 9] rfl (fun z => [(161, .bool z)]) (fun z u => (z = false ∧ FI w u d cd (200 + 2 * i + 2) (B.crash kp) F (B.crash kp) Fc) ∧ Ext No w u) ?_ ?_))))))
              · refine c_region ?_
                refine wl_p I_ok rfl ?_
                have hI := hI.ext hY
                refine wl (st_call Try.call22 rfl rfl rfl rfl rfl rfl (crash_calls w31 hI.atD hI.okD (by omega) hkp ⟨by simp [boolsL, hkp], .inr ⟨b135, 0, rfl, hb135.seg⟩⟩ (fun b off hb => by simp at hb; rw [← hb.1]; exact hF135)) fun v33 w33 hr33 => ?_)
                obtain ⟨rfl, hA, hE33⟩ := hr33
                have hb135 := hb135.ext hE33 hF135
                have hX := hX.trans hE33 fun y hy hF => by have := hI.newD y hF; omega
                rw [gone_crash] at hA
                have hI := hI.leftF hA hE33 (Nat.le_refl _) (hI.okE.crash kp)
                have hY := Ext.refl No w33
                refine wl_p I_ok rfl (wl_caseD 152 rfl (fun hg => ?_) (fun hg => ?_))
                · exact absurd rfl hg
                · refine wl_pk I_ok 2 rfl ?_
                  have hI := hI.ext hY
                  refine wl (st_call Try.call22 rfl rfl rfl rfl rfl rfl (crash_calls w33 hI.atE hI.okE (by omega) hkp ⟨by simp [boolsL, hkp], .inr ⟨b135, 0, rfl, hb135.seg⟩⟩ (fun b off hb => by simp at hb; rw [← hb.1]; exact hc135)) fun v34 w34 hr34 => ?_)
                  obtain ⟨rfl, hA, hE34⟩ := hr34
                  have hb135 := hb135.ext hE34 hc135
                  have hX := hX.trans hE34 fun y hy hF => by have := hI.newE y hF; omega
                  have hI := (hI.swap.leftF hA hE34 (Nat.le_refl _) (hI.okE.crash kp)).swap
                  have hY := Ext.refl No w34
                  refine wl_pk I_ok 3 rfl (wl_caseD 158 rfl (fun hg => ?_) (fun hg => ?_))
                  · exact absurd rfl hg
                  · refine wl_pk I_ok 1 rfl ?_
                    refine wl (st_call Try.call29 rfl rfl rfl rfl rfl rfl ((dead_calls w34 (hI.atD.extNo hY)).same) fun v35 w35 hr35 => ?_)
                    obtain ⟨rfl, hE35⟩ := hr35
                    have hb135 := hb135.extNo hE35
                    have hY := hY.thenNo hE35
                    have hX := hX.thenNo hE35
                    refine wl_p I_ok rfl (wl_nil ?_)
                    exact f_cut (_) rfl ⟨⟨rfl, hI.ext hY⟩, hX⟩
              rintro z w36 ⟨⟨rfl, hI⟩, hX⟩
              have hY := Ext.refl No w36
              refine c_condF rfl (c_skip (f_then (c_seq (c_region (wl_p I_ok rfl ?_)))))
              have hI := hI.ext hY
              have hal := all_len hI.okD
              refine wl (st_call Try.call17 rfl rfl rfl rfl rfl rfl (holds_calls w36 hI.atD hI.okD (by omega) hqc) fun v37 w37 hr37 => ?_)
              obtain ⟨rfl, hA, hE37⟩ := hr37
              have hX := hX.trans hE37 fun y hy hF => by have := hI.newD y hF; omega
              have hI := hI.leftF hA hE37 (m' := 200 + 2 * i + 2 + 6) (by omega) (hI.okD.ran 6)
              have hY := Ext.refl No w37
              refine wl_p I_ok rfl (wl (st_al I_ok rfl fun b20 w38 hn20 hb20 hE38 => ?_))
              have fr20 := Nat.le_trans hX.size hn20
              have frhY20 := Nat.le_trans hY.size hn20
              have hY := hY.thenNo hE38
              have hX := hX.thenNo hE38
              have hc20 : ¬ Fc b20 := fun e => by have := hI.atE.lt b20 e; omega
              refine wl (st_stW (l' := rowsA .u8 (B.crash kp).all) I_ok hb20 rfl (by rw [cellsOf_agg]) hal.2.2 (by rw [hal.2.2]; exact (List.length_replicate (n := 384)).symm) (by rw [rowsA_flat]; exact one_ints) fun w39 hb20 hE39 hs39 => ?_)
              have hY := hY.thenNew hE39 frhY20
              have hX := hX.thenNew hE39 fr20
              refine wl_p I_ok rfl (wl_nil (f_then (c_seq (c_region (wl_p I_ok rfl ?_)))))
              have hI := hI.ext hY
              refine wl (st_call Try.call17 rfl rfl rfl rfl rfl rfl (holds_calls w39 hI.atE hI.okE (by omega) hqc) fun v40 w40 hr40 => ?_)
              obtain ⟨rfl, hA, hE40⟩ := hr40
              have hb20 := hb20.ext hE40 hc20
              have hX := hX.trans hE40 fun y hy hF => by have := hI.newE y hF; omega
              refine wl_p I_ok rfl (wl (st_al I_ok rfl fun b22 w41 hn22 hb22 hE41 => ?_))
              have ne20_22 : b20 ≠ b22 := Nat.ne_of_lt (Nat.lt_of_lt_of_le hb20.lt hn22)
              have fr22 := Nat.le_trans hX.size hn22
              have hb20 := hb20.extNo hE41
              have hX := hX.thenNo hE41
              refine wl (st_stW (l' := rowsA .u8 (B.crash kp).all) I_ok hb22 rfl (by rw [cellsOf_agg]) hal.2.2 (by rw [hal.2.2]; exact (List.length_replicate (n := 384)).symm) (by rw [rowsA_flat]; exact one_ints) fun w42 hb22 hE42 hs42 => ?_)
              have hb20 := hb20.ext1 hE42 ne20_22
              have hX := hX.thenNew hE42 fr22
              refine wl_p I_ok rfl (wl_nil (f_then (c_cutK (α := Bool) [] rfl (fun z => [(6, .bool z)]) (fun z u => (z = true) ∧ Ext No w u) ?_ ?_)))
              · refine c_region ?_
                refine wl_p I_ok rfl (wl_case 173 rfl (fun hg => ?_) (fun hg => ?_))
                · refine wl_pk I_ok 3 rfl ?_
                  refine wl_case 176 rfl (fun hg => ?_) (fun hg => ?_)
                  · refine wl (st_ldB I_ok hb20 rfl hal.2.2 ?_)
                    refine wl (st_ldB I_ok hb22 rfl hal.2.2 (wl (st_eqAA I_ok (L := (B.crash kp).all) (M := (B.crash kp).all) rfl (by kernel_rfl) rfl rfl hal.2.1 hal.2.1 hal.1 hal.1 (wl_p I_ok rfl (wl_nil ?_)))))
                    exact f_cut (_) rfl ⟨by simp, hX⟩
                  · cases hg
                · cases hg
              rintro z w43 ⟨rfl, hX⟩
              refine c_ret (f_thenR (f_blockR (f_thenR (f_thenR (f_blockR (f_thenR (f_ret1 rfl rfl ?_)))))))
              exact ⟨rfl, hX⟩
          · have hst := fuse_step hcalm hn.1 l2[i] hk hc
            have hx := hc
            refine c_skip (f_then (c_seq (c_region (wl_p I_ok rfl (wl (st_ldB I_ok hb11 rfl rfl ?_))))))
            have hI := hI.ext hY
            have hXs := hX.size
            have hb64 := bytesL_len (act_blk hI.okD l2[i])
            have hc64 := bytesL_len (act_blk hI.okE l2[i])
            have hokE2 := hI.okE.act l2[i] hnb.1 hnb.2
            have h64 := act_blk hI.okD l2[i]
            have g64 := act_blk hI.okE l2[i]
            refine wl (st_call Try.call15 rfl rfl rfl rfl rfl rfl (happens_calls w13 hI.atD hI.okD (by omega) (hat0.ext hX fun _ _ => id)) fun v44 w44 hr44 => ?_)
            obtain ⟨rfl, hA, hE44⟩ := hr44
            have hb11 := hb11.ext hE44 hF11
            have hX := hX.trans hE44 fun y hy hF => by have := hI.newD y hF; omega
            have hok2 := hI.okD.act l2[i] hnb.1 hnb.2
            rw [hst.2] at hA hok2
            have hI := hI.left hXs hA hE44 (by omega) hok2
            generalize Grow F w13 w44 = F2 at hI
            have hY := Ext.refl No w44
            refine wl_p I_ok rfl (wl (st_al I_ok rfl fun b24 w45 hn24 hb24 hE45 => ?_))
            have ne11_24 : b11 ≠ b24 := Nat.ne_of_lt (Nat.lt_of_lt_of_le hb11.lt hn24)
            have fr24 := Nat.le_trans hX.size hn24
            have frhY24 := Nat.le_trans hY.size hn24
            have hb11 := hb11.extNo hE45
            have hY := hY.thenNo hE45
            have hX := hX.thenNo hE45
            have hc24 : ¬ Fc b24 := fun e => by have := hI.atE.lt b24 e; omega
            refine wl (st_stW (l' := bytesL ((B.fu N).act l2[i]).2.1) I_ok hb24 rfl (by rw [cells_num]) hb64 (by rw [hb64]; rfl) OneC.h fun w46 hb24 hE46 hs46 => ?_)
            have hb11 := hb11.ext1 hE46 ne11_24
            have hY := hY.thenNew hE46 frhY24
            have hX := hX.thenNew hE46 fr24
            refine wl_p I_ok rfl (wl_nil (f_then (c_seq (c_region (wl_p I_ok rfl (wl (st_ldB I_ok hb11 rfl rfl ?_)))))))
            have hI := hI.ext hY
            have hXs := hX.size
            refine wl (st_call Try.call15 rfl rfl rfl rfl rfl rfl (happens_calls w46 hI.atE hI.okE (by omega) (hat0.ext hX fun _ _ => id)) fun v47 w47 hr47 => ?_)
            obtain ⟨rfl, hA, hE47⟩ := hr47
            have hb11 := hb11.ext hE47 hc11
            have hb24 := hb24.ext hE47 hc24
            have hX := hX.trans hE47 fun y hy hF => by have := hI.newE y hF; omega
            have hI := (hI.swap.left hXs hA hE47 (Nat.le_refl _) hokE2).swap
            generalize Grow Fc w46 w47 = F3 at hI
            have hY := Ext.refl No w47
            refine wl_p I_ok rfl (wl (st_al I_ok rfl fun b26 w48 hn26 hb26 hE48 => ?_))
            have ne11_26 : b11 ≠ b26 := Nat.ne_of_lt (Nat.lt_of_lt_of_le hb11.lt hn26)
            have ne24_26 : b24 ≠ b26 := Nat.ne_of_lt (Nat.lt_of_lt_of_le hb24.lt hn26)
            have fr26 := Nat.le_trans hX.size hn26
            have frhY26 := Nat.le_trans hY.size hn26
            have hb11 := hb11.extNo hE48
            have hb24 := hb24.extNo hE48
            have hY := hY.thenNo hE48
            have hX := hX.thenNo hE48
            refine wl (st_stW (l' := bytesL (B.act l2[i]).2.1) I_ok hb26 rfl (by rw [cells_num]) hc64 (by rw [hc64]; rfl) OneC.h fun w49 hb26 hE49 hs49 => ?_)
            have hb11 := hb11.ext1 hE49 ne11_26
            have hb24 := hb24.ext1 hE49 ne24_26
            have hY := hY.thenNew hE49 frhY26
            have hX := hX.thenNew hE49 fr26
            refine wl_p I_ok rfl (wl_nil (f_then (c_seq (c_cutK (α := Bool) [2, 7, 9, 11, 12, 48, 49, 50] rfl (fun z => [(200, .bool z)]) (fun z u => u = w49 ∧ z = false) ?_ ?_))))
            · refine c_region ?_
              refine wl (st_ldB I_ok hb24 rfl hb64 (wl (st_ldB I_ok hb26 rfl hc64 (wl (st_eqA (xs := ((B.fu N).act l2[i]).2.1) (ys := (B.act l2[i]).2.1) I_ok rfl (by kernel_rfl) rfl rfl h64 g64 (wl_p I_ok rfl ?_))))))
              refine wl_caseD 196 rfl (fun hg => ?_) (fun hg => ?_)
              · exact absurd (congrArg Prod.fst hst.1) hg
              · refine wl_pk I_ok 4 rfl ?_
                refine wl_nil ?_
                exact f_cut (_) rfl ⟨rfl, by rw [hst.1]; simp⟩
            rintro z w50 ⟨hu, rfl⟩
            have hu := hu.symm
            subst hu
            refine c_condF rfl (c_skip (f_then ?_))
            refine c_cutK (α := Bool) [2, 7, 9, 48, 49, 50] rfl (fun z => [(206, .bool z)]) (fun z u => (z = decide (There l2[i] ∧ 0 < whichN (l2[i]).k)) ∧ Blk u b11 35 (actV l2[i] q qc) ∧ Blk u b24 29 (bytesL ((B.fu N).act l2[i]).2.1) ∧ Blk u b26 29 (bytesL (B.act l2[i]).2.1) ∧ Ext No w47 u ∧ Ext No w u) ?_ ?_
            · refine c_region ?_
              refine wl_p I_ok rfl (wl_caseD 202 rfl (fun hg => ?_) (fun hg => ?_))
              · refine wl (st_ldB I_ok hb11 rfl rfl ?_)
                refine wl (st_call Try.call13 rfl rfl rfl rfl rfl rfl (which_calls w49 l2[i] q qc) fun v51 w51 hr51 => ?_)
                obtain ⟨rfl, hE51⟩ := hr51
                have hb11 := hb11.extNo hE51
                have hb24 := hb24.extNo hE51
                have hb26 := hb26.extNo hE51
                have hY := hY.thenNo hE51
                have hX := hX.thenNo hE51
                refine wl_pk I_ok 2 rfl (wl_nil ?_)
                exact f_cut (_) rfl ⟨decide_eq_decide.2 ⟨fun h => ⟨hg, by omega⟩, fun h => by have := h.2; omega⟩, hb11, hb24, hb26, hY, hX⟩
              · refine wl_pk I_ok 4 rfl ?_
                refine wl_nil ?_
                exact f_cut (_) rfl ⟨by simp [hg], hb11, hb24, hb26, hY, hX⟩
            rintro z w52 ⟨rfl, hb11, hb24, hb26, hY, hX⟩
            refine c_if rfl (fun hc => ?_) (fun hc => ?_)
            · have hN1 : 0 ≤ N - 1 ∧ N - 1 < 30 := by (have : ¬ N = 0 := fun e => hx ⟨e, hc⟩); omega
              rw [if_pos hc] at hI
              refine c_region (wl_p I_ok rfl ?_)
              rw [IntWalk.i64_in _ (by omega)]
              refine wl_nil ?_
              exact f_blockN (f_cut (⟨i, N - 1, (B.act l2[i]).1, F2, F3⟩) rfl ⟨⟨hN1, (hcalm.act _ hk).1, hI.ext hY⟩, hX⟩)
            · rw [if_neg hc] at hI
              refine c_skip ?_
              exact f_blockN (f_cut (⟨i, N, (B.act l2[i]).1, F2, F3⟩) rfl ⟨⟨hn, (hcalm.act _ hk).1, hI.ext hY⟩, hX⟩)
      rintro ⟨_, N, B, F, Fc⟩ w53 ⟨⟨hn, hcalm, hI⟩, hX⟩
      dsimp only at hn hcalm hI
      refine c_region (wl_p I_ok rfl ?_)
      rw [IntWalk.i64_in _ (by omega)]
      refine wl_nil ?_
      exact f_round (⟨i + 1, N, B, F, Fc⟩) rfl ⟨⟨by dsimp only; omega, hn, hcalm, hI⟩, hX⟩ (by first | omega | (dsimp only; omega))
    · refine c_exit ?_
      refine f_thenE (f_thenE (f_blockE (f_then (c_cutK (α := Bool) [] rfl (fun z => [(6, .bool z)]) (fun z u => (z = true) ∧ Ext No w6 u ∧ Ext No w u) ?_ ?_))))
      · refine c_region ?_
        refine wl_p I_ok rfl (wl (st_call Try.call29 rfl rfl rfl rfl rfl rfl ((dead_calls w6 (hI.atD.extNo hY)).same) fun v54 w54 hr54 => ?_))
        obtain ⟨rfl, hE54⟩ := hr54
        have hY := hY.thenNo hE54
        have hX := hX.thenNo hE54
        rw [show (B.fu N).dead = false from hcalm.dead]
        have hwl := waits_len B
        have hfew := hI.okE.few
        refine wl_p I_ok rfl (wl_case 213 rfl (fun hg => ?_) (fun hg => ?_))
        · refine wl_pk I_ok 1 rfl ?_
          refine wl (st_call Try.call16 rfl rfl rfl rfl rfl rfl (pending_ints w54 (hI.atD.extNo hY) hI.okD (by omega)) fun v55 w55 hr55 => ?_)
          obtain ⟨b50, rfl, hn50, hb50, hE55⟩ := hr55
          have fr50 := Nat.le_trans hX.size hn50
          have frhY50 := Nat.le_trans hY.size hn50
          have hY := hY.thenNo hE55
          have hX := hX.thenNo hE55
          refine wl_pk I_ok 1 rfl (wl (st_call Try.call16 rfl rfl rfl rfl rfl rfl (pending_ints w55 (hI.atE.extNo hY) hI.okE (by omega)) fun v56 w56 hr56 => ?_))
          obtain ⟨b51, rfl, hn51, hb51, hE56⟩ := hr56
          have ne50_51 : b50 ≠ b51 := Nat.ne_of_lt (Nat.lt_of_lt_of_le hb50.lt hn51)
          have fr51 := Nat.le_trans hX.size hn51
          have frhY51 := Nat.le_trans hY.size hn51
          have hb50 := hb50.extNo hE56
          have hY := hY.thenNo hE56
          have hX := hX.thenNo hE56
          refine wl (st_call Try.call32 rfl rfl rfl rfl rfl rfl (equal_calls w56 ⟨by simp [intsL], .inr ⟨b50, 0, rfl, hb50.seg⟩⟩ ⟨by simp [intsL], .inr ⟨b51, 0, rfl, hb51.seg⟩⟩ (by have : waits (B.fu N) = waits B := rfl; rw [this]; omega)) fun v57 w57 hr57 => ?_)
          obtain ⟨rfl, hE57⟩ := hr57
          have hb50 := hb50.extNo hE57
          have hb51 := hb51.extNo hE57
          have hY := hY.thenNo hE57
          have hX := hX.thenNo hE57
          refine wl_p I_ok rfl (wl_nil ?_)
          exact f_cut (_) rfl ⟨by simp [waits], hY, hX⟩
        · cases hg
      rintro z w58 ⟨rfl, hY, hX⟩
      refine c_ret (f_ret1 rfl rfl ?_)
      exact ⟨rfl, hX⟩
end Go.Proofs.Ytoldbdocgimpnaa
