/- a disk with a fault: the walk -/
import Derived.Test.YtoldbdocgimpnaaF0
namespace Go.Proofs.Ytoldbdocgimpnaa
open Go.Vc
structure FS2 where
  i : Nat
  n : Int
  fl : Bool
  B : Dsk
  F : Nat → Prop
  Fc : Nat → Prop
def Dsk.fo (B : Dsk) (fl : Bool) (n : Int) : Dsk := if fl = true then B else B.fa n
theorem fault_both {B : Dsk} (h : B.Calm) {n : Int} {fl : Bool} (hn : fl = false → 0 ≤ n) (a : PAct) (hk : whichN a.k < 4) (hx : ¬ (There a ∧ n = 0 ∧ fl = false)) :
    ((B.fo fl n).act a).2 = (B.act a).2 ∧ ((B.fo fl n).act a).1 = (B.act a).1.fo fl (if There a then n - 1 else n) := by
  cases fl
  · exact fault_step h (hn rfl) a hk fun e => hx ⟨e.1, e.2, rfl⟩
  · exact ⟨rfl, rfl⟩
theorem fo_fail {B : Dsk} (h : B.Calm) (fl : Bool) (n : Int) : (B.fo fl n).fail (-7) = (B, 0) := by
  have e : ∀ D : Dsk, D.dead = false → D.secs = B.secs → D.order = B.order → D.fuse = B.fuse → D.done = B.done → D.fail (-7) = (B, 0) := by
    intro D h1 h2 h3 h4 h5
    obtain ⟨a1, a2, a3, a4, a5, a6⟩ := D
    obtain ⟨b1, b2, b3, b4, b5, b6⟩ := B
    have hf := h.fault
    have hd := h.dead
    simp only at h1 h2 h3 h4 h5 hf hd
    subst h1; subst h2; subst h3; subst h4; subst h5; subst hf; subst hd
    rfl
  cases fl
  · exact e _ h.dead rfl rfl rfl rfl
  · exact e _ h.dead rfl rfl rfl rfl
theorem fault_calls (w : World) {p p2 : Option Addr} {c c2 : Nat} {l l2 : List PAct} (n : Int) {G : Nat → Prop} (hcap : l.length ≤ c) (hl : ActsSl w G p l) (hcap2 : l2.length ≤ c2) (hl2 : ActsSl w G p2 l2) :
    CallsV Try.prog 6 [.slice p l.length c, .slice p2 l2.length c2, .int .i64 n] w fun v w' => v = .bool true ∧ Ext No w w' := by
  refine calls_enter Try.func6 rfl rfl rfl rfl ?_
  have hX := Ext.refl No w
  refine c_seq (c_region (wl_p I_ok rfl (wl_nil (f_then (c_seq (c_seq (c_region (wl (st_call Try.call10 rfl rfl rfl rfl rfl rfl (wakes_calls w) fun v1 w1 hr1 => ?_)))))))))
  obtain ⟨rfl, hE1⟩ := hr1
  have hX := hX.thenNo hE1
  refine wl_p I_ok rfl (wl_nil (f_then (c_condF rfl (c_skip (f_then (c_seq (c_region (wl_p I_ok rfl ?_))))))))
  have hX1 := hX
  refine wl (st_call Try.call26 rfl rfl rfl rfl rfl rfl (used_calls w1 hcap (hl.extNo hX)) fun v2 w2 hr2 => ?_)
  obtain ⟨d, B, F, rfl, hA, hcalm, hok, hnew, hE2⟩ := hr2
  have hX := hX.thenNo hE2
  have hnew : ∀ y, F y → w.heap.size ≤ y := fun y hy => Nat.le_trans hX1.size (hnew y hy)
  have hY := Ext.refl No w2
  refine wl_p I_ok rfl (wl_nil (f_then (c_seq (c_seq (c_region (wl_p I_ok rfl (wl_nil (f_then (c_condF rfl (c_skip (f_then (c_seq (c_region (wl_p I_ok rfl ?_))))))))))))))
  have hX2 := hX
  have hYs := hY.size
  refine wl (st_call Try.call27 rfl rfl rfl rfl rfl rfl (copy_calls w2 (hA.ext hY fun _ _ => id) hok (by decide)) fun v3 w3 hr3 => ?_)
  obtain ⟨cd, rfl, hcd, hAc, hE3⟩ := hr3
  have hY := hY.thenNo hE3
  have hX := hX.thenNo hE3
  have hI : FI w w3 d cd 200 B F B (Grow No w2 w3) := ⟨hok, hok, hA.ext hY fun _ _ => id, hAc, hnew, fun y hy => hy.elim False.elim fun h => Nat.le_trans hX2.size h.1, fun t h1 h2 => h2.elim id fun h => by have := hA.lt t h1; omega⟩
  generalize Grow No w2 w3 = Fc at hI
  have hY := Ext.refl No w3
  refine wl_p I_ok rfl (wl_nil (f_then (c_seq (c_region (wl_p I_ok rfl ?_)))))
  rw [show IntKind.i64.wrap ((IntKind.u64.wrap n).tmod 30) = (n % 18446744073709551616) % 30 from by rw [IntKind.wrap_u64, IntWalk.rem_in _ _ (by omega), IntWalk.i64_in _ (by omega)]]
  obtain ⟨N, hN⟩ : ∃ N, N = (n % 18446744073709551616) % 30 := ⟨_, rfl⟩
  have hN0 : 0 ≤ N ∧ N < 30 := by omega
  rw [← hN]
  refine wl_nil (f_then (c_seq (c_seq (c_region (wl_p I_ok rfl ?_)))))
  have hI := hI.ext hY
  refine wl (st_call Try.call31 rfl rfl rfl rfl rfl rfl (fail_calls w3 hI.atD N) fun v4 w4 hr4 => ?_)
  obtain ⟨rfl, hA2, hE4⟩ := hr4
  have hX := hX.trans hE4 fun y hy hF => by have := hI.newD y hF; omega
  have harm : B.fail N = (B.fo false N, 0) := by
    simp only [Dsk.fail, hcalm.dead]
    rw [if_neg (by decide)]
    simp only [setTo]
    rw [if_neg (by omega)]
    simp [Dsk.fo, Dsk.fa, hcalm.dead]
  rw [harm] at hA2 ⊢
  have hI := hI.leftF hA2 hE4 (Nat.le_refl _) (hok.fa ⟨by omega, by omega⟩)
  have hY := Ext.refl No w4
  refine wl_p I_ok rfl (wl_nil (f_then (c_if rfl (fun hc => ?_) (fun hc => ?_))))
  · exact absurd rfl hc
  · refine c_skip ?_
    refine f_then (c_seq (c_region (wl_p I_ok rfl (wl_nil (f_then (c_seq (c_seq (c_region (wl_p I_ok rfl (wl (st_call Try.call12 rfl rfl rfl rfl rfl rfl (someActs_calls w4 hcap2 hl2) fun v5 w5 hr5 => ?_)))))))))))
    obtain ⟨rfl, hl2, hE5⟩ := hr5
    have hY := hY.thenNo hE5
    have hX := hX.thenNo hE5
    have hl100 : (l2.take 100).length ≤ 100 := by simp; omega
    generalize l2.take 100 = l2 at hl2 hl100
    refine wl_p I_ok rfl (wl_nil (f_then (c_block ?_)))
    refine c_loopK (α := FS2) [7, 9, 44, 45] rfl (fun z => [(2, .int .i64 z.n), (10, .bool z.fl), (46, .int .i64 (z.i : Int))]) (fun z u => (z.i ≤ l2.length ∧ (-(z.i : Int) ≤ z.n ∧ z.n < 30 ∧ (z.fl = false → 0 ≤ z.n)) ∧ z.B.Calm ∧ FI w u d cd (200 + 2 * z.i) (z.B.fo z.fl z.n) z.F z.B z.Fc) ∧ Ext No w u) (fun z u => l2.length - z.i) (⟨0, N, false, B, F, Fc⟩) rfl ⟨⟨Nat.zero_le _, ⟨by dsimp only; omega, hN0.2, fun _ => hN0.1⟩, hcalm, hI.ext hY⟩, hX⟩ ?_
    rintro ⟨i, N, fl, B, F, Fc⟩ w6 ⟨⟨hi, hn, hcalm, hI⟩, hX⟩
    dsimp only
    dsimp only at hi hn hcalm hI
    have hY := Ext.refl No w6
    refine c_seq (c_region (wl_p I_ok rfl (wl_nil (f_then (c_seq (c_if rfl (fun hc => ?_) (fun hc => ?_)))))))
    · have hi' : i < l2.length := by omega
      obtain ⟨bl, off, r, hp, hseg, hr4, hat⟩ := hl2.get2 (Ext.refl No w) hi'
      have hnb := hat.nb
      have hat0 := hat
      obtain ⟨q, qc, rfl, hrest⟩ := hat
      subst hp
      refine c_skip (f_then ?_)
      refine c_cutK (α := FS2) [7, 9, 44, 45, 46] rfl (fun z => [(2, .int .i64 z.n), (10, .bool z.fl)]) (fun z u => ((-((i + 1 : Nat) : Int) ≤ z.n ∧ z.n < 30 ∧ (z.fl = false → 0 ≤ z.n)) ∧ z.B.Calm ∧ FI w u d cd (200 + 2 * (i + 1)) (z.B.fo z.fl z.n) z.F z.B z.Fc) ∧ Ext No w u) ?_ ?_
      · refine c_block ?_
        refine c_seq (c_region (wl (st_ix I_ok rfl 4 rfl i rfl hi' (off + i * 4) rfl (wl (st_ldN I_ok rfl (hseg.extNo hX) rfl (wl (st_al I_ok rfl fun b12 w7 hn12 hb12 hE7 => ?_)))))))
        have fr12 := Nat.le_trans hX.size hn12
        have frhY12 := Nat.le_trans hY.size hn12
        have hY := hY.thenNo hE7
        have hX := hX.thenNo hE7
        have hF12 : ¬ F b12 := fun e => by have := hI.atD.lt b12 e; omega
        have hc12 : ¬ Fc b12 := fun e => by have := hI.atE.lt b12 e; omega
        refine wl (st_stW (l' := actV l2[i] q qc) I_ok hb12 rfl rfl rfl rfl OneC.h fun w8 hb12 hE8 hs8 => ?_)
        have hY := hY.thenNew hE8 frhY12
        have hX := hX.thenNew hE8 fr12
        refine wl_nil (f_then (c_seq (c_seq (c_region (wl (st_ldB I_ok hb12 rfl rfl (wl (st_call Try.call13 rfl rfl rfl rfl rfl rfl (which_calls w8 l2[i] q qc) fun v9 w9 hr9 => ?_))))))))
        obtain ⟨rfl, hE9⟩ := hr9
        have hb12 := hb12.extNo hE9
        have hY := hY.thenNo hE9
        have hX := hX.thenNo hE9
        refine wl_p I_ok rfl (wl_nil (f_then (c_if rfl (fun hc => ?_) (fun hc => ?_))))
        · refine c_exit ?_
          exact f_thenE (f_blockE (f_cut (⟨i, N, fl, B, F, Fc⟩) rfl ⟨⟨⟨by dsimp only; omega, hn.2⟩, hcalm, (hI.ext hY).up (by omega)⟩, hX⟩))
        · have hk : whichN (l2[i]).k < 4 := by omega
          refine c_skip (f_then (c_cutK (α := Bool) [2, 7, 9, 10, 12, 44, 45, 46] rfl (fun z => [(13, .bool z)]) (fun z u => (z = decide (There l2[i])) ∧ Blk u b12 35 (actV l2[i] q qc) ∧ Ext No w6 u ∧ Ext No w u) ?_ ?_))
          · refine c_region ?_
            refine wl (st_ldB I_ok hb12 rfl rfl (wl (st_call Try.call13 rfl rfl rfl rfl rfl rfl (which_calls w9 l2[i] q qc) fun v10 w10 hr10 => ?_)))
            obtain ⟨rfl, hE10⟩ := hr10
            have hb12 := hb12.extNo hE10
            have hY := hY.thenNo hE10
            have hX := hX.thenNo hE10
            refine wl_p I_ok rfl (wl_caseD 56 rfl (fun hg => ?_) (fun hg => ?_))
            · refine wl_pk I_ok 10 rfl ?_
              refine wl_nil ?_
              exact f_cut (_) rfl ⟨(by (have : There l2[i] := .inl (by omega)); simp [this]), hb12, hY, hX⟩
            · refine wl_pk I_ok 1 rfl ?_
              refine wl (st_ldb I_ok hb12 rfl rfl (wl_pk I_ok 2 rfl (wl_caseD 60 rfl (fun hg => ?_) (fun hg => ?_))))
              · refine wl_pk I_ok 1 rfl ?_
                refine wl (st_ldb I_ok hb12 rfl rfl (wl_pk I_ok 4 rfl (wl_nil ?_)))
                exact f_cut (_) rfl ⟨decide_eq_decide.2 ⟨fun h => .inr ⟨hg, h⟩, fun h => h.elim (fun h => by omega) And.right⟩, hb12, hY, hX⟩
              · refine wl_pk I_ok 6 rfl ?_
                refine wl_nil ?_
                exact f_cut (_) rfl ⟨(by (have : ¬ There l2[i] := fun e => e.elim (fun e => by omega) fun e => by omega); simp [this]), hb12, hY, hX⟩
          rintro z w11 ⟨rfl, hb12, hY, hX⟩
          refine c_seq (c_cutK (α := Bool) [2, 7, 9, 10, 12, 13, 44, 45, 46] rfl (fun z => [(74, .bool z)]) (fun z u => u = w11 ∧ z = decide (There l2[i] ∧ N = 0 ∧ fl = false)) ?_ ?_)
          · refine c_region ?_
            refine wl_p I_ok rfl (wl_caseD 67 rfl (fun hg => ?_) (fun hg => ?_))
            · have hth := hg
              refine wl_pk I_ok 4 rfl (wl_caseD 71 rfl (fun hg => ?_) (fun hg => ?_))
              · refine wl_pk I_ok 3 rfl ?_
                refine wl_nil ?_
                exact f_cut (_) rfl ⟨rfl, (by cases fl <;> simp [hth, hg])⟩
              · refine wl_pk I_ok 3 rfl ?_
                refine wl_nil ?_
                exact f_cut (_) rfl ⟨rfl, by simp [hg]⟩
            · refine wl_pk I_ok 7 rfl ?_
              refine wl_nil ?_
              exact f_cut (_) rfl ⟨rfl, by simp [hg]⟩
          rintro z w12 ⟨hu, rfl⟩
          have hu := hu.symm
          subst hu
          refine c_if rfl (fun hc => ?_) (fun hc => ?_)
          · obtain ⟨ht, h0, hfl⟩ := hc
            subst h0; subst hfl
            have hend : (B.fo false 0).act l2[i] = (B, zeros, 8) := fault_end hcalm l2[i] hk ht
            refine c_seq (c_region (wl_p I_ok rfl (wl_nil (f_then (c_seq (c_seq (c_region (wl_p I_ok rfl (wl (st_ldB I_ok hb12 rfl rfl ?_))))))))))
            have hI := hI.ext hY
            have hXs := hX.size
            refine wl (st_call Try.call15 rfl rfl rfl rfl rfl rfl (happens_calls w11 hI.atD hI.okD (by omega) (hat0.ext hX fun _ _ => id)) fun v13 w13 hr13 => ?_)
            obtain ⟨rfl, hA, hE13⟩ := hr13
            have hb12 := hb12.ext hE13 hF12
            have hX := hX.trans hE13 fun y hy hF => by have := hI.newD y hF; omega
            have hok2 := hI.okD.act l2[i] hnb.1 hnb.2
            rw [hend] at hA hok2 ⊢
            have hI := hI.left hXs hA hE13 (by omega) hok2
            generalize Grow F w11 w13 = F2 at hI
            have hY := Ext.refl No w13
            refine wl_p I_ok rfl (wl (st_al I_ok rfl fun b14 w14 hn14 hb14 hE14 => ?_))
            have fr14 := Nat.le_trans hX.size hn14
            have frhY14 := Nat.le_trans hY.size hn14
            have hY := hY.thenNo hE14
            have hX := hX.thenNo hE14
            refine wl (st_stW (l' := bytesL zeros) I_ok hb14 rfl (by rw [cells_num]) (bytesL_len zeros_length) (by rw [bytesL_len zeros_length]; rfl) OneC.h fun w15 hb14 hE15 hs15 => ?_)
            have hY := hY.thenNew hE15 frhY14
            have hX := hX.thenNew hE15 fr14
            refine wl_p I_ok rfl (wl_nil (f_then (c_cutK (α := Bool) [2, 7, 9, 10, 44, 45, 46] rfl (fun z => [(98, .bool z)]) (fun z u => (z = false) ∧ Ext No w13 u ∧ Ext No w u) ?_ ?_)))
            · refine c_region ?_
              refine wl_p I_ok rfl (wl_caseD 83 rfl (fun hg => ?_) (fun hg => ?_))
              · exact absurd rfl hg
              · refine wl (st_ldB I_ok hb14 rfl (bytesL_len zeros_length) ?_)
                refine wl (st_bd I_ok rfl trivial (l' := bytesL zeros) z29 (wl (st_eqA (xs := zeros) (ys := zeros) I_ok rfl (by kernel_rfl) rfl rfl zeros_length zeros_length (wl_p I_ok rfl (wl_caseD 88 rfl (fun hg => ?_) (fun hg => ?_))))))
                · exact absurd rfl hg
                · refine wl_pk I_ok 1 rfl ?_
                  refine wl (st_call Try.call29 rfl rfl rfl rfl rfl rfl ((dead_calls w15 (hI.atD.extNo hY)).same) fun v16 w16 hr16 => ?_)
                  obtain ⟨rfl, hE16⟩ := hr16
                  have hb14 := hb14.extNo hE16
                  have hY := hY.thenNo hE16
                  have hX := hX.thenNo hE16
                  rw [show B.dead = false from hcalm.dead]
                  refine wl_p I_ok rfl (wl_case 92 rfl (fun hg => ?_) (fun hg => ?_))
                  · cases hg
                  · refine wl_pk I_ok 1 rfl ?_
                    refine wl (st_call Try.call33 rfl rfl rfl rfl rfl rfl ((ops_calls w16 (hI.atD.extNo hY)).same) fun v17 w17 hr17 => ?_)
                    obtain ⟨rfl, hE17⟩ := hr17
                    have hb14 := hb14.extNo hE17
                    have hY := hY.thenNo hE17
                    have hX := hX.thenNo hE17
                    refine wl_pk I_ok 1 rfl (wl (st_call Try.call33 rfl rfl rfl rfl rfl rfl ((ops_calls w17 (hI.atE.extNo hY)).same) fun v18 w18 hr18 => ?_))
                    obtain ⟨rfl, hE18⟩ := hr18
                    have hb14 := hb14.extNo hE18
                    have hY := hY.thenNo hE18
                    have hX := hX.thenNo hE18
                    refine wl_pk I_ok 2 rfl (wl_nil ?_)
                    exact f_cut (_) rfl ⟨by simp, hY, hX⟩
            rintro z w19 ⟨rfl, hY, hX⟩
            refine c_condF rfl (c_skip (f_then (c_exit ?_)))
            exact f_thenE (f_blockE (f_cut (⟨i, 0, true, B, F2, Fc⟩) rfl ⟨⟨⟨by dsimp only; omega, by dsimp only; omega, fun e => by cases e⟩, hcalm, (hI.ext hY).up (by omega)⟩, hX⟩))
          · have hst := fault_both hcalm hn.2.2 l2[i] hk hc
            have hx := hc
            refine c_skip (f_then (c_seq (c_region (wl_p I_ok rfl (wl (st_ldB I_ok hb12 rfl rfl ?_))))))
            have hI := hI.ext hY
            have hXs := hX.size
            have hb64 := bytesL_len (act_blk hI.okD l2[i])
            have hc64 := bytesL_len (act_blk hI.okE l2[i])
            have hokE2 := hI.okE.act l2[i] hnb.1 hnb.2
            have h64 := act_blk hI.okD l2[i]
            have g64 := act_blk hI.okE l2[i]
            refine wl (st_call Try.call15 rfl rfl rfl rfl rfl rfl (happens_calls w11 hI.atD hI.okD (by omega) (hat0.ext hX fun _ _ => id)) fun v20 w20 hr20 => ?_)
            obtain ⟨rfl, hA, hE20⟩ := hr20
            have hb12 := hb12.ext hE20 hF12
            have hX := hX.trans hE20 fun y hy hF => by have := hI.newD y hF; omega
            have hok2 := hI.okD.act l2[i] hnb.1 hnb.2
            rw [hst.2] at hA hok2
            have hI := hI.left hXs hA hE20 (by omega) hok2
            generalize Grow F w11 w20 = F2 at hI
            have hY := Ext.refl No w20
            refine wl_p I_ok rfl (wl (st_al I_ok rfl fun b16 w21 hn16 hb16 hE21 => ?_))
            have ne12_16 : b12 ≠ b16 := Nat.ne_of_lt (Nat.lt_of_lt_of_le hb12.lt hn16)
            have fr16 := Nat.le_trans hX.size hn16
            have frhY16 := Nat.le_trans hY.size hn16
            have hb12 := hb12.extNo hE21
            have hY := hY.thenNo hE21
            have hX := hX.thenNo hE21
            have hc16 : ¬ Fc b16 := fun e => by have := hI.atE.lt b16 e; omega
            refine wl (st_stW (l' := bytesL ((B.fo fl N).act l2[i]).2.1) I_ok hb16 rfl (by rw [cells_num]) hb64 (by rw [hb64]; rfl) OneC.h fun w22 hb16 hE22 hs22 => ?_)
            have hb12 := hb12.ext1 hE22 ne12_16
            have hY := hY.thenNew hE22 frhY16
            have hX := hX.thenNew hE22 fr16
            refine wl_p I_ok rfl (wl_nil (f_then (c_seq (c_region (wl_p I_ok rfl (wl (st_ldB I_ok hb12 rfl rfl ?_)))))))
            have hI := hI.ext hY
            have hXs := hX.size
            refine wl (st_call Try.call15 rfl rfl rfl rfl rfl rfl (happens_calls w22 hI.atE hI.okE (by omega) (hat0.ext hX fun _ _ => id)) fun v23 w23 hr23 => ?_)
            obtain ⟨rfl, hA, hE23⟩ := hr23
            have hb12 := hb12.ext hE23 hc12
            have hb16 := hb16.ext hE23 hc16
            have hX := hX.trans hE23 fun y hy hF => by have := hI.newE y hF; omega
            have hI := (hI.swap.left hXs hA hE23 (Nat.le_refl _) hokE2).swap
            generalize Grow Fc w22 w23 = F3 at hI
            have hY := Ext.refl No w23
            refine wl_p I_ok rfl (wl (st_al I_ok rfl fun b18 w24 hn18 hb18 hE24 => ?_))
            have ne12_18 : b12 ≠ b18 := Nat.ne_of_lt (Nat.lt_of_lt_of_le hb12.lt hn18)
            have ne16_18 : b16 ≠ b18 := Nat.ne_of_lt (Nat.lt_of_lt_of_le hb16.lt hn18)
            have fr18 := Nat.le_trans hX.size hn18
            have frhY18 := Nat.le_trans hY.size hn18
            have hb12 := hb12.extNo hE24
            have hb16 := hb16.extNo hE24
            have hY := hY.thenNo hE24
            have hX := hX.thenNo hE24
            refine wl (st_stW (l' := bytesL (B.act l2[i]).2.1) I_ok hb18 rfl (by rw [cells_num]) hc64 (by rw [hc64]; rfl) OneC.h fun w25 hb18 hE25 hs25 => ?_)
            have hb12 := hb12.ext1 hE25 ne12_18
            have hb16 := hb16.ext1 hE25 ne16_18
            have hY := hY.thenNew hE25 frhY18
            have hX := hX.thenNew hE25 fr18
            refine wl_p I_ok rfl (wl_nil (f_then (c_seq (c_cutK (α := Bool) [2, 7, 9, 10, 13, 44, 45, 46] rfl (fun z => [(118, .bool z)]) (fun z u => u = w25 ∧ z = false) ?_ ?_))))
            · refine c_region ?_
              refine wl (st_ldB I_ok hb16 rfl hb64 (wl (st_ldB I_ok hb18 rfl hc64 (wl (st_eqA (xs := ((B.fo fl N).act l2[i]).2.1) (ys := (B.act l2[i]).2.1) I_ok rfl (by kernel_rfl) rfl rfl h64 g64 (wl_p I_ok rfl ?_))))))
              refine wl_caseD 114 rfl (fun hg => ?_) (fun hg => ?_)
              · exact absurd (congrArg Prod.fst hst.1) hg
              · refine wl_pk I_ok 4 rfl ?_
                refine wl_nil ?_
                exact f_cut (_) rfl ⟨rfl, by rw [hst.1]; simp⟩
            rintro z w26 ⟨hu, rfl⟩
            have hu := hu.symm
            subst hu
            refine c_condF rfl (c_skip (f_then (c_seq (c_region (wl_p I_ok rfl (wl_nil (f_then (c_if rfl (fun hc => ?_) (fun hc => ?_)))))))))
            · have hN1 : -((i + 1 : Nat) : Int) ≤ N - 1 ∧ N - 1 < 30 ∧ (fl = false → 0 ≤ N - 1) := ⟨by omega, by omega, fun e => by (have h1 := hn.2.2 e; have : ¬ N = 0 := fun e2 => hx ⟨hc, e2, e⟩); omega⟩
              rw [if_pos hc] at hI
              refine c_region (wl_p I_ok rfl ?_)
              rw [IntWalk.i64_in _ (by omega)]
              refine wl_nil ?_
              exact f_blockN (f_cut (⟨i, N - 1, fl, (B.act l2[i]).1, F2, F3⟩) rfl ⟨⟨hN1, (hcalm.act _ hk).1, hI.ext hY⟩, hX⟩)
            · rw [if_neg hc] at hI
              refine c_skip ?_
              exact f_blockN (f_cut (⟨i, N, fl, (B.act l2[i]).1, F2, F3⟩) rfl ⟨⟨⟨by dsimp only; omega, hn.2⟩, (hcalm.act _ hk).1, hI.ext hY⟩, hX⟩)
      rintro ⟨_, N, fl, B, F, Fc⟩ w27 ⟨⟨hn, hcalm, hI⟩, hX⟩
      dsimp only at hn hcalm hI
      refine c_region (wl_p I_ok rfl ?_)
      rw [IntWalk.i64_in _ (by omega)]
      refine wl_nil ?_
      exact f_round (⟨i + 1, N, fl, B, F, Fc⟩) rfl ⟨⟨by dsimp only; omega, hn, hcalm, hI⟩, hX⟩ (by first | omega | (dsimp only; omega))
    · refine c_exit ?_
      refine f_thenE (f_thenE (f_blockE (f_then (c_seq (c_seq (c_region (wl_p I_ok rfl ?_)))))))
      have hI := hI.ext hY
      refine wl (st_call Try.call31 rfl rfl rfl rfl rfl rfl (fail_calls w6 hI.atD (-7)) fun v28 w28 hr28 => ?_)
      obtain ⟨rfl, hA, hE28⟩ := hr28
      have hX := hX.trans hE28 fun y hy hF => by have := hI.newD y hF; omega
      rw [fo_fail hcalm] at hA ⊢
      have hI := hI.leftF hA hE28 (Nat.le_refl _) hI.okE
      have hqc := hcalm.toQuiet
      have hwl := waits_len B
      have hfew := hI.okE.few
      have hY := Ext.refl No w28
      refine wl_p I_ok rfl (wl_nil (f_then (c_if rfl (fun hc => ?_) (fun hc => ?_))))
      · exact absurd rfl hc
      · refine c_skip ?_
        refine f_then (c_seq (c_region (wl_p I_ok rfl ?_)))
        have hI := hI.ext hY
        have hal := all_len hI.okD
        refine wl (st_call Try.call17 rfl rfl rfl rfl rfl rfl (holds_calls w28 hI.atD hI.okD (by omega) hqc) fun v29 w29 hr29 => ?_)
        obtain ⟨rfl, hA, hE29⟩ := hr29
        have hX := hX.trans hE29 fun y hy hF => by have := hI.newD y hF; omega
        have hI := hI.leftF hA hE29 (m' := 200 + 2 * i + 6) (by omega) (hI.okD.ran 6)
        have hY := Ext.refl No w29
        refine wl_p I_ok rfl (wl (st_al I_ok rfl fun b20 w30 hn20 hb20 hE30 => ?_))
        have fr20 := Nat.le_trans hX.size hn20
        have frhY20 := Nat.le_trans hY.size hn20
        have hY := hY.thenNo hE30
        have hX := hX.thenNo hE30
        have hc20 : ¬ Fc b20 := fun e => by have := hI.atE.lt b20 e; omega
        refine wl (st_stW (l' := rowsA .u8 (B).all) I_ok hb20 rfl (by rw [cellsOf_agg]) hal.2.2 (by rw [hal.2.2]; exact (List.length_replicate (n := 384)).symm) (by rw [rowsA_flat]; exact one_ints) fun w31 hb20 hE31 hs31 => ?_)
        have hY := hY.thenNew hE31 frhY20
        have hX := hX.thenNew hE31 fr20
        refine wl_p I_ok rfl (wl_nil (f_then (c_seq (c_region (wl_p I_ok rfl ?_)))))
        have hI := hI.ext hY
        refine wl (st_call Try.call17 rfl rfl rfl rfl rfl rfl (holds_calls w31 hI.atE hI.okE (by omega) hqc) fun v32 w32 hr32 => ?_)
        obtain ⟨rfl, hA, hE32⟩ := hr32
        have hb20 := hb20.ext hE32 hc20
        have hX := hX.trans hE32 fun y hy hF => by have := hI.newE y hF; omega
        have hI := (hI.swap.leftF hA hE32 (m' := 200 + 2 * i + 12) (by omega) ((hI.okE.ran 6).mono (by omega))).swap
        have hY := Ext.refl No w32
        refine wl_p I_ok rfl (wl (st_al I_ok rfl fun b22 w33 hn22 hb22 hE33 => ?_))
        have ne20_22 : b20 ≠ b22 := Nat.ne_of_lt (Nat.lt_of_lt_of_le hb20.lt hn22)
        have fr22 := Nat.le_trans hX.size hn22
        have frhY22 := Nat.le_trans hY.size hn22
        have hb20 := hb20.extNo hE33
        have hY := hY.thenNo hE33
        have hX := hX.thenNo hE33
        refine wl (st_stW (l' := rowsA .u8 (B).all) I_ok hb22 rfl (by rw [cellsOf_agg]) hal.2.2 (by rw [hal.2.2]; exact (List.length_replicate (n := 384)).symm) (by rw [rowsA_flat]; exact one_ints) fun w34 hb22 hE34 hs34 => ?_)
        have hb20 := hb20.ext1 hE34 ne20_22
        have hY := hY.thenNew hE34 frhY22
        have hX := hX.thenNew hE34 fr22
        refine wl_p I_ok rfl (wl_nil (f_then (c_cutK (α := Bool) [] rfl (fun z => [(6, .bool z)]) (fun z u => (z = true) ∧ Ext No w32 u ∧ Ext No w u) ?_ ?_)))
        · refine c_region ?_
          refine wl_p I_ok rfl (wl_case 137 rfl (fun hg => ?_) (fun hg => ?_))
          · refine wl_pk I_ok 3 rfl ?_
            refine wl_case 140 rfl (fun hg => ?_) (fun hg => ?_)
            · refine wl (st_ldB I_ok hb20 rfl hal.2.2 ?_)
              refine wl (st_ldB I_ok hb22 rfl hal.2.2 (wl (st_eqAA I_ok (L := B.all) (M := B.all) rfl (by kernel_rfl) rfl rfl hal.2.1 hal.2.1 hal.1 hal.1 (wl_p I_ok rfl (wl_caseD 145 rfl (fun hg => ?_) (fun hg => ?_))))))
              · refine wl_pk I_ok 1 rfl ?_
                refine wl (st_call Try.call16 rfl rfl rfl rfl rfl rfl (pending_ints w34 (hI.atD.extNo hY) hI.okD (by omega)) fun v35 w35 hr35 => ?_)
                obtain ⟨b50, rfl, hn50, hb50, hE35⟩ := hr35
                have ne20_50 : b20 ≠ b50 := Nat.ne_of_lt (Nat.lt_of_lt_of_le hb20.lt hn50)
                have ne22_50 : b22 ≠ b50 := Nat.ne_of_lt (Nat.lt_of_lt_of_le hb22.lt hn50)
                have fr50 := Nat.le_trans hX.size hn50
                have frhY50 := Nat.le_trans hY.size hn50
                have hb20 := hb20.extNo hE35
                have hb22 := hb22.extNo hE35
                have hY := hY.thenNo hE35
                have hX := hX.thenNo hE35
                refine wl_pk I_ok 1 rfl (wl (st_call Try.call16 rfl rfl rfl rfl rfl rfl (pending_ints w35 (hI.atE.extNo hY) hI.okE (by omega)) fun v36 w36 hr36 => ?_))
                obtain ⟨b51, rfl, hn51, hb51, hE36⟩ := hr36
                have ne20_51 : b20 ≠ b51 := Nat.ne_of_lt (Nat.lt_of_lt_of_le hb20.lt hn51)
                have ne22_51 : b22 ≠ b51 := Nat.ne_of_lt (Nat.lt_of_lt_of_le hb22.lt hn51)
                have ne50_51 : b50 ≠ b51 := Nat.ne_of_lt (Nat.lt_of_lt_of_le hb50.lt hn51)
                have fr51 := Nat.le_trans hX.size hn51
                have frhY51 := Nat.le_trans hY.size hn51
                have hb20 := hb20.extNo hE36
                have hb22 := hb22.extNo hE36
                have hb50 := hb50.extNo hE36
                have hY := hY.thenNo hE36
                have hX := hX.thenNo hE36
                refine wl (st_call Try.call32 rfl rfl rfl rfl rfl rfl (equal_calls w36 ⟨by simp [intsL], .inr ⟨b50, 0, rfl, hb50.seg⟩⟩ ⟨by simp [intsL], .inr ⟨b51, 0, rfl, hb51.seg⟩⟩ (by have : waits (B.ran 6) = waits B := rfl; rw [this]; omega)) fun v37 w37 hr37 => ?_)
                obtain ⟨rfl, hE37⟩ := hr37
                have hb20 := hb20.extNo hE37
                have hb22 := hb22.extNo hE37
                have hb50 := hb50.extNo hE37
                have hb51 := hb51.extNo hE37
                have hY := hY.thenNo hE37
                have hX := hX.thenNo hE37
                refine wl_p I_ok rfl (wl_nil ?_)
                exact f_cut (_) rfl ⟨by simp, hY, hX⟩
              · exact absurd rfl hg
            · cases hg
          · cases hg
        rintro z w38 ⟨rfl, hY, hX⟩
        refine c_ret (f_ret1 rfl rfl ?_)
        exact ⟨rfl, hX⟩
end Go.Proofs.Ytoldbdocgimpnaa
