/-
  UploadLinksSaid , walked
-/
import Derived.Test.YtpcdihkcenfgkaaGreatRows
import Derived.ProofKit
import Derived.Test.YtpcdihkcenfgkaaGreatLnG
namespace Go.Proofs.YtpcdihkcenfgkaaGreat
open Go.Vc
theorem ord_last {h : Hp} {x : IdB} (hc : h.closed x = 0) (hz : ∀ y, (h.obj y).kind ≠ 3 → (h.obj y).number = 0) (hl : 0 < (ordD h x).length) : (ordD h x)[(ordD h x).length - 1] = x := by
  have h3 := (closed_at hc).1
  have hxk := (kErr_err h3).2.1
  refine ordD_last hc (fun y _ => hz y) hl fun y hy hne => ?_
  rcases kindL hc hy with e | e | ⟨e, _⟩
  · exact .inl (by omega)
  · have hk := kErr_of ((closed_at hc).2 y hy).1 e
    rcases (behind hc y hy).1 hk with k | k
    · exact absurd k hne
    · rw [num_obj hk, num_obj h3] at k
      exact .inr ⟨by omega, .inl k⟩
  · exact .inl (by omega)
theorem ord_len {h : Hp} {x : IdB} (hc : h.closed x = 0) (hz : ∀ y, (h.obj y).kind ≠ 3 → (h.obj y).number = 0) : (h.led x).length = (ordD h x).length := by
  have hp : (h.led x).Perm (ordD h x) := (List.perm_ext_iff_of_nodup (led_nodup h x) (ordD_nodup hc fun y _ => hz y)).2 fun y => by rw [h.led_mem, ordD_mem]
  exact hp.length_eq
theorem ord_new {h : Hp} {x : IdB} (hc : h.closed x = 0) (hz : ∀ y, (h.obj y).kind ≠ 3 → (h.obj y).number = 0) {i : Nat} (hi : i < (ordD h x).length) : ¬ (ordD h x)[i] ∈ (ordD h x).take i := fun k => by
  obtain ⟨j, hj, e⟩ := List.mem_iff_getElem.1 k
  rw [List.length_take] at hj
  rw [List.getElem_take] at e
  have := (List.getElem_inj (ordD_nodup hc fun y _ => hz y)).1 e
  omega
theorem linksB_sub {o : ObjD} {k : IdB} (h : k ∈ linksB o) : k ∈ linksOf o := by
  unfold linksB at h
  split at h
  · exact h
  · cases h
theorem linksB_le (o : ObjD) : (linksB o).length ≤ (linksOf o).length := by
  unfold linksB
  split
  · exact Nat.le_refl _
  · exact Nat.zero_le _
theorem lksOf_in {o : ObjD} (h : ObjIn o) : ∀ k ∈ linksOf o, IdIn k := fun k hk => by
  unfold linksOf at hk
  split at hk
  · obtain ⟨l, hl, rfl⟩ := List.mem_map.1 hk
    exact (h.leaves l hl).2
  · split at hk
    · rcases List.mem_cons.1 hk with rfl | hk
      · exact h.tree
      · exact h.parents k hk
    · cases hk
theorem linksOf_few {o : ObjD} (h : Short o) : (linksOf o).length ≤ 1000000001 := by
  unfold linksOf
  split
  · rw [List.length_map]; have := h.leaves; omega
  · split
    · rw [List.length_cons]; have := h.parents; omega
    · exact Nat.zero_le _
theorem uploadLinks_calls (w : World) {ps : Option Addr} {cs : Nat} {steps : List StepT} (hs : Sl w ps steps.length 3 (steps.flatMap stepC)) (hsi : ∀ s ∈ steps, StepIn w s) (hsl : steps.length < 9223372036854775808) (gone : Int) :
    CallsV Tryz.prog 5 [.slice ps steps.length cs, .int .i64 gone] w fun v w' => v = .bool true ∧ Ext No w w' := by
  refine calls_enter Tryz.func5 rfl rfl rfl rfl ?_
  have hX := Ext.refl No w
  refine c_seq (c_region (wl_p I_ok rfl (wl_nil (f_then (c_seq (c_seq (c_region (wl (st_call Tryz.call7 rfl rfl rfl rfl rfl rfl (wakes_calls w) fun v1 w1 hr1 => ?_)))))))))
  obtain ⟨rfl, hE1⟩ := hr1
  have hX := hX.thenNo hE1
  refine wl_p I_ok rfl (wl_nil (f_then (c_condF rfl (c_skip (f_then (c_seq (c_region (wl_p I_ok rfl (wl (st_call Tryz.call8 rfl rfl rfl rfl rfl rfl (made_calls w1 (hs.extNo hX) (fun s h => (hsi s h).extNo hX) hsl gone) fun v2 w2 hr2 => ?_))))))))))
  obtain ⟨q, k, m, qi, ki, ids, rfl, hMQ, hMD, hE2⟩ := hr2
  have hX := hX.thenNo hE2
  have hK := hMQ.ks
  have hml := hMQ.few
  have hil := hMQ.il
  have hiin := hMQ.iin
  have hkp : Kept (toHp m) := by rw [(Prod.mk.inj hMD).1]; exact kept_made _ _
  have hkz := fun y => hkp.obj y
  obtain ⟨N, hN⟩ : ∃ N, N = w2.heap.size := ⟨_, rfl⟩
  rw [← hN] at hK
  refine wl_p I_ok rfl ?_
  have hRhK := hK.n
  refine wl (st_al I_ok rfl fun b5 w3 hn5 hb5 hE3 => ?_)
  have fr5 := Nat.le_trans hX.size hn5
  have hK := hK.no hE3
  have hX := hX.thenNo hE3
  have fhK5 := Nat.le_trans hRhK hn5
  refine wl (st_stW (l' := [.slice q m.length k]) I_ok hb5 rfl rfl rfl rfl OneC.h fun w4 hb5 hE4 hs4 => ?_)
  have hK := hK.one hE4 fhK5
  have hX := hX.thenNew hE4 fr5
  refine wl_p I_ok rfl (wl_nil (f_then (c_seq (c_seq (c_region (wl_p I_ok rfl (wl_nil (f_then (c_block ?_)))))))))
  refine c_loopK (α := Nat) [5, 26, 27] rfl (fun z => [(28, .int .i64 (z : Int))]) (fun z u => (z ≤ ids.length ∧ KS N u (fun u => HpIn u q m ∧ Sl u qi ids.length 32 (ids.flatMap bytesU))) ∧ Blk u b5 26 ([.slice q m.length k]) ∧ Ext No w u) (fun z u => ids.length - z) (0) rfl ⟨⟨Nat.zero_le _, hK⟩, hb5, hX⟩ ?_
  rintro i w5 ⟨⟨hi, hK⟩, hb5, hX⟩
  refine c_seq (c_region (wl_p I_ok rfl (wl_nil (f_then (c_seq (c_if rfl (fun hc => ?_) (fun hc => ?_)))))))
  · have hal : i < ids.length := by omega
    obtain ⟨ab, ao, haq, har⟩ := (hK.now.2).rowAll (fun r hr => IdIn.len (hiin r hr)) (by omega)
    have hai : IdIn ids[i] := hiin _ (List.getElem_mem hal)
    refine wc_put 26 rfl (v' := .slice (some ⟨ab, ao, none⟩) ids.length ki) (by rw [haq]) ?_
    have hled := hK.now.1.ledIn hai
    have hll := hK.now.1.ledLen ids[i]
    refine c_skip (f_then (c_cutK (α := Unit) [5, 26, 27, 28] rfl (fun z => []) (fun z u => (KS N u (fun u => HpIn u q m ∧ Sl u qi ids.length 32 (ids.flatMap bytesU))) ∧ Blk u b5 26 ([.slice q m.length k]) ∧ Ext No w u) ?_ ?_))
    · refine c_block ?_
      refine c_seq (c_region (wl (st_ix I_ok rfl 32 rfl i rfl (by omega) (ao + i * 32) rfl (wl (st_ldN I_ok rfl (har i hal) hai.len ?_)))))
      have hRhK := hK.n
      refine wl (st_al I_ok rfl fun b8 w6 hn8 hb8 hE6 => ?_)
      have ne5_8 : b5 ≠ b8 := Nat.ne_of_lt (Nat.lt_of_lt_of_le hb5.lt hn8)
      have fr8 := Nat.le_trans hX.size hn8
      have hb5 := hb5.extNo hE6
      have hK := hK.no hE6
      have hX := hX.thenNo hE6
      have fhK8 := Nat.le_trans hRhK hn8
      refine wl (st_stW (l' := bytesU ids[i]) I_ok hb8 rfl rfl hai.len (by rw [bytesU_len, hai]; rfl) OneC.h fun w7 hb8 hE7 hs7 => ?_)
      have hb5 := hb5.ext1 hE7 ne5_8
      have hK := hK.one hE7 fhK8
      have hX := hX.thenNew hE7 fr8
      refine wl_nil (f_then (c_seq (c_region (wl (st_ldB I_ok hb5 rfl rfl (wl (st_ldB I_ok hb8 rfl hai.len (wl (st_call Tryz.call9 rfl rfl rfl rfl rfl rfl (order_calls w7 hK.now.1 hkz hai) fun v8 w8 hr8 => ?_)))))))))
      obtain ⟨qo, ko, rfl, hO, _, hE8⟩ := hr8
      have hb5 := hb5.extNo hE8
      have hb8 := hb8.extNo hE8
      have hK := hK.no hE8
      have hX := hX.thenNo hE8
      have hcapo := hO.cap
      have hL : KS w8.heap.size w8 (fun u => Sl u qo (ordR (toHp m) ids[i]).length 32 ((ordR (toHp m) ids[i]).flatMap bytesU)) := KS.mk0 fun u hu => hO.sl.extNo hu
      obtain ⟨N2, hN2⟩ : ∃ N, N = w8.heap.size := ⟨_, rfl⟩
      rw [← hN2] at hL
      refine wl_p I_ok rfl (wl_nil (f_then (c_seq (c_seq (c_region (wl_p I_ok rfl (wl_nil (f_then (c_if rfl (fun hc => ?_) (fun hc => ?_))))))))))
      · have eO : ordR (toHp m) ids[i] = [] := if_neg hc
        rw [eO]
        refine c_seq (c_seq (c_region (wl_p I_ok rfl (wl_nil (f_then (c_condF rfl (c_skip (f_then (c_exit ?_)))))))))
        exact f_thenE (f_blockE (f_cut (()) rfl ⟨hK, hb5, hX⟩))
      · have hcl : (toHp m).closed ids[i] = 0 := Decidable.not_not.1 hc
        have eO : ordR (toHp m) ids[i] = (ordD (toHp m) ids[i]) := if_pos hcl
        rw [eO] at hL hcapo ⊢
        have hlen := ord_len hcl hkz
        have hOi : ∀ y ∈ (ordD (toHp m) ids[i]), IdIn y := fun y hy => hled y (((toHp m).led_mem _ _).2 ((ordD_mem (toHp m) ids[i] y).1 hy))
        have hpos : 0 < (ordD (toHp m) ids[i]).length := List.length_pos_of_mem ((ordD_mem (toHp m) ids[i] ids[i]).2 .here)
        have hlast := ord_last hcl hkz hpos
        refine c_skip (f_then (c_seq (c_region (wl (st_ldB I_ok hb5 rfl rfl (wl (st_ldB I_ok hb8 rfl hai.len (wl (st_call Tryz.call19 rfl rfl rfl rfl rfl rfl (reachD_calls w8 hK.now.1 hai) fun v9 w9 hr9 => ?_)))))))))
        obtain ⟨qr, kr, rfl, hR0, _, hE9⟩ := hr9
        have hb5 := hb5.extNo hE9
        have hb8 := hb8.extNo hE9
        have hK := hK.no hE9
        have hL := hL.no hE9
        have hX := hX.thenNo hE9
        rw [show reachE (toHp m) ids[i] = ((toHp m).led ids[i]) from if_pos hcl] at hR0 ⊢
        rw [hcl]
        have hR : KS w9.heap.size w9 (fun u => Sl u qr ((toHp m).led ids[i]).length 32 (((toHp m).led ids[i]).flatMap bytesU)) := KS.mk0 fun u hu => hR0.sl.extNo hu
        obtain ⟨N3, hN3⟩ : ∃ N, N = w9.heap.size := ⟨_, rfl⟩
        rw [← hN3] at hR
        refine wl_p I_ok rfl (wl_nil (f_then (c_seq ?_)))
        refine c_cutK (α := Unit) [5, 9, 11, 26, 27, 28] rfl (fun z => [(67, .bool false)]) (fun z u => (KS N u (fun u => HpIn u q m ∧ Sl u qi ids.length 32 (ids.flatMap bytesU)) ∧ KS N2 u (fun u => Sl u qo (ordD (toHp m) ids[i]).length 32 ((ordD (toHp m) ids[i]).flatMap bytesU)) ∧ KS N3 u (fun u => Sl u qr ((toHp m).led ids[i]).length 32 (((toHp m).led ids[i]).flatMap bytesU))) ∧ Blk u b5 26 ([.slice q m.length k]) ∧ Blk u b8 31 (bytesU ids[i]) ∧ Ext No w u) ?_ ?_
        · refine c_draw rfl 19 [(0, true), (1, true), (2, true), (3, true), (4, true), (5, true), (6, true), (7, true), (8, true), (9, true), (10, true), (11, true), (12, true), (13, true), (14, true), (15, true), (16, true), (17, true), (18, true)] [] (No) (by kernel_rfl) fun w10 hE10 hs10 => ?_
          have hd5 := hb5
          have hd8 := hb8
          have hKd := hK
          have hLd := hL
          have hRd := hR
          have hXd := hX
          have hb5 := hb5.extNo hE10
          have hb8 := hb8.extNo hE10
          have hK := hK.no hE10
          have hL := hL.no hE10
          have hR := hR.no hE10
          have hX := hX.thenNo hE10
          have hC : Ext (No) _ w10 := hE10.no
          obtain ⟨ob, oo, hoq, hor⟩ := hLd.now.rowAll (fun r hr => IdIn.len (hOi r hr)) (by omega)
          have hor1 := hor ((ordD (toHp m) ids[i]).length - 1) (by omega)
          rw [hlast] at hor1
          refine wd_k I_ok 3 rfl (wd_caseD 51 rfl (fun hg => ?_) (fun hg => ?_))
          · exact absurd hg (by decide)
          · refine wd_k I_ok 7 rfl ?_
            refine wd_case 58 rfl (fun hg => ?_) (fun hg => ?_)
            · exact absurd hg (by simp [hlen])
            · refine wd_k I_ok 1 rfl ?_
              refine wd_put 59 rfl (v' := .slice (some ⟨ob, oo, none⟩) (ordD (toHp m) ids[i]).length ko) (by rw [hoq]) (wd_k I_ok 3 rfl ?_)
              rw [show ((((ordD (toHp m) ids[i]).length : Nat) : Int) - 1) = (((ordD (toHp m) ids[i]).length - 1 : Nat) : Int) from by omega, IntWalk.i64_in _ (by omega)]
              refine wd_ix I_ok rfl rfl 32 rfl ((ordD (toHp m) ids[i]).length - 1) rfl (by omega) (oo + ((ordD (toHp m) ids[i]).length - 1) * 32) rfl (wd_ldN I_ok rfl rfl (fun w' hw' => (hor1.extNo hw')) hai.len ?_)
              refine wd_ldN I_ok rfl rfl (fun w' hw' => (hd8.extNo hw').seg) hai.len ?_
              refine wd_eqK rfl rfl gId 10 (by decide) kId (idForm hai) (idForm hai) (idKey hai) (idKey hai) idLits_inj ?_
              rw [if_neg Bool.false_ne_true]
              rw [show decide (¬ ids[i] = ids[i]) = false from decide_eq_false fun k => k rfl]
              refine wd_k I_ok 1 rfl (wd_sw (wb_nil ?_))
              exact f_cut (()) rfl ⟨⟨hK, hL, hR⟩, hb5, hb8, hX⟩
        rintro z w11 ⟨⟨hK, hL, hR⟩, hb5, hb8, hX⟩
        refine c_condF rfl (c_skip (f_then (c_seq (c_region (wl_p I_ok rfl (wl_nil (f_then (c_block ?_))))))))
        refine c_loopK (α := Nat) [5, 9, 11, 26, 27, 28, 68, 69] rfl (fun z => [(70, .int .i64 (z : Int))]) (fun z u => (z ≤ (ordD (toHp m) ids[i]).length ∧ KS N u (fun u => HpIn u q m ∧ Sl u qi ids.length 32 (ids.flatMap bytesU)) ∧ KS N2 u (fun u => Sl u qo (ordD (toHp m) ids[i]).length 32 ((ordD (toHp m) ids[i]).flatMap bytesU)) ∧ KS N3 u (fun u => Sl u qr ((toHp m).led ids[i]).length 32 (((toHp m).led ids[i]).flatMap bytesU))) ∧ Blk u b5 26 ([.slice q m.length k]) ∧ Blk u b8 31 (bytesU ids[i]) ∧ Ext No w u) (fun z u => (ordD (toHp m) ids[i]).length - z) (0) rfl ⟨⟨Nat.zero_le _, hK, hL, hR⟩, hb5, hb8, hX⟩ ?_
        rintro j w12 ⟨⟨hj, hK, hL, hR⟩, hb5, hb8, hX⟩
        refine c_seq (c_region (wl_p I_ok rfl (wl_nil (f_then (c_seq (c_if rfl (fun hc => ?_) (fun hc => ?_)))))))
        · have hcl2 : j < (ordD (toHp m) ids[i]).length := by omega
          obtain ⟨cb, co, hcq, hcr⟩ := (hL.now).rowAll (fun r hr => IdIn.len (hOi r hr)) (by omega)
          have hci : IdIn (ordD (toHp m) ids[i])[j] := hOi _ (List.getElem_mem hcl2)
          refine wc_put 68 rfl (v' := .slice (some ⟨cb, co, none⟩) (ordD (toHp m) ids[i]).length ko) (by rw [hcq]) ?_
          have hyl : (toHp m).Leads ids[i] (ordD (toHp m) ids[i])[j] := (ordD_mem (toHp m) ids[i] (ordD (toHp m) ids[i])[j]).1 (List.getElem_mem hcl2)
          have herr := ((closed_at hcl).2 (ordD (toHp m) ids[i])[j] hyl).1
          have hoi := hK.now.1.objIn (ordD (toHp m) ids[i])[j]
          have hos := hK.now.1.objSh (ordD (toHp m) ids[i])[j]
          have hnew := ord_new hcl hkz hcl2
          have hjt : ((ordD (toHp m) ids[i]).take j).length = j := by rw [List.length_take]; omega
          have hOt : ∀ y ∈ (ordD (toHp m) ids[i]).take j, IdIn y := fun y hy => hOi y (List.mem_of_mem_take hy)
          refine c_skip (f_then (c_seq (c_block (c_seq (c_region (wl_p I_ok rfl (wl (st_ix I_ok rfl 32 rfl j rfl (by omega) (co + j * 32) rfl (wl (st_ldN I_ok rfl (hcr j hcl2) hci.len ?_))))))))))
          have hRhK := hK.n
          have hRhL := hL.n
          have hRhR := hR.n
          refine wl (st_al I_ok rfl fun b13 w13 hn13 hb13 hE13 => ?_)
          have ne5_13 : b5 ≠ b13 := Nat.ne_of_lt (Nat.lt_of_lt_of_le hb5.lt hn13)
          have ne8_13 : b8 ≠ b13 := Nat.ne_of_lt (Nat.lt_of_lt_of_le hb8.lt hn13)
          have fr13 := Nat.le_trans hX.size hn13
          have hb5 := hb5.extNo hE13
          have hb8 := hb8.extNo hE13
          have hK := hK.no hE13
          have hL := hL.no hE13
          have hR := hR.no hE13
          have hX := hX.thenNo hE13
          have fhK13 := Nat.le_trans hRhK hn13
          have fhL13 := Nat.le_trans hRhL hn13
          have fhR13 := Nat.le_trans hRhR hn13
          refine wl_p I_ok rfl (wl (st_stW (l' := bytesU (ordD (toHp m) ids[i])[j]) I_ok hb13 rfl rfl hci.len (by rw [bytesU_len, hci]; rfl) OneC.h fun w14 hb13 hE14 hs14 => ?_))
          have hb5 := hb5.ext1 hE14 ne5_13
          have hb8 := hb8.ext1 hE14 ne8_13
          have hK := hK.one hE14 fhK13
          have hL := hL.one hE14 fhL13
          have hR := hR.one hE14 fhR13
          have hX := hX.thenNew hE14 fr13
          refine wl_nil (f_then (c_seq (c_region (wl (st_ldB I_ok hb5 rfl rfl (wl (st_ldB I_ok hb13 rfl hci.len ?_)))))))
          have hXg := hX.size
          refine wl (st_call Tryz.call20 rfl rfl rfl rfl rfl rfl (getD_calls w14 hK.now.1 hci) fun v15 w15 hr15 => ?_)
          obtain ⟨a2, rfl, hN, hE15⟩ := hr15
          have hb5 := hb5.extNo hE15
          have hb8 := hb8.extNo hE15
          have hb13 := hb13.extNo hE15
          have hK := hK.no hE15
          have hL := hL.no hE15
          have hR := hR.no hE15
          have hX := hX.thenNo hE15
          rw [herr]
          have hN := hN.older hXg
          refine wl_p I_ok rfl ?_
          have hRhK := hK.n
          have hRhL := hL.n
          have hRhR := hR.n
          refine wl (st_al I_ok rfl fun b14 w16 hn14 hb14 hE16 => ?_)
          have ne5_14 : b5 ≠ b14 := Nat.ne_of_lt (Nat.lt_of_lt_of_le hb5.lt hn14)
          have ne8_14 : b8 ≠ b14 := Nat.ne_of_lt (Nat.lt_of_lt_of_le hb8.lt hn14)
          have ne13_14 : b13 ≠ b14 := Nat.ne_of_lt (Nat.lt_of_lt_of_le hb13.lt hn14)
          have fr14 := Nat.le_trans hX.size hn14
          have hb5 := hb5.extNo hE16
          have hb8 := hb8.extNo hE16
          have hb13 := hb13.extNo hE16
          have hK := hK.no hE16
          have hL := hL.no hE16
          have hR := hR.no hE16
          have hN := hN.extNo hE16
          have hX := hX.thenNo hE16
          have fhK14 := Nat.le_trans hRhK hn14
          have fhL14 := Nat.le_trans hRhL hn14
          have fhR14 := Nat.le_trans hRhR hn14
          have hb14o := hb14
          refine wl (st_stW (l' := objC ((toHp m).obj (ordD (toHp m) ids[i])[j]) a2) I_ok hb14 rfl rfl (objC_len hoi) (by rw [objC_len hoi]; rfl) OneC.h fun w17 hb14 hE17 hs17 => ?_)
          have hb5 := hb5.ext1 hE17 ne5_14
          have hb8 := hb8.ext1 hE17 ne8_14
          have hb13 := hb13.ext1 hE17 ne13_14
          have hK := hK.one hE17 fhK14
          have hL := hL.one hE17 fhL14
          have hR := hR.one hE17 fhR14
          have hN := hN.ext1 hE17 hb14o (by decide) (by decide) (by decide)
          have hX := hX.thenNew hE17 fr14
          refine wl_p I_ok rfl (wl_nil (f_then (c_seq ?_)))
          refine c_cutK (α := Unit) [5, 9, 11, 12, 14, 26, 27, 28, 68, 69, 70] rfl (fun z => [(95, .bool false)]) (fun z u => (KS N u (fun u => HpIn u q m ∧ Sl u qi ids.length 32 (ids.flatMap bytesU)) ∧ KS N2 u (fun u => Sl u qo (ordD (toHp m) ids[i]).length 32 ((ordD (toHp m) ids[i]).flatMap bytesU)) ∧ KS N3 u (fun u => Sl u qr ((toHp m).led ids[i]).length 32 (((toHp m).led ids[i]).flatMap bytesU)) ∧ ObjNew w u ((toHp m).obj (ordD (toHp m) ids[i])[j]) a2) ∧ Blk u b5 26 ([.slice q m.length k]) ∧ Blk u b8 31 (bytesU ids[i]) ∧ Blk u b13 31 (bytesU (ordD (toHp m) ids[i])[j]) ∧ Blk u b14 48 (objC ((toHp m).obj (ordD (toHp m) ids[i])[j]) a2) ∧ Ext No w u) ?_ ?_
          · refine c_draw rfl 15 [(0, true), (1, true), (2, true), (3, true), (4, true), (5, true), (6, true), (7, false), (8, true), (9, true), (10, true), (11, true), (12, false), (13, true), (14, true)] [] (No) (by kernel_rfl) fun w18 hE18 hs18 => ?_
            have hd5 := hb5
            have hd8 := hb8
            have hd13 := hb13
            have hd14 := hb14
            have hKd := hK
            have hLd := hL
            have hRd := hR
            have hNd := hN
            have hXd := hX
            have hb5 := hb5.extNo hE18
            have hb8 := hb8.extNo hE18
            have hb13 := hb13.extNo hE18
            have hb14 := hb14.extNo hE18
            have hK := hK.no hE18
            have hL := hL.no hE18
            have hR := hR.no hE18
            have hN := hN.extNo hE18
            have hX := hX.thenNo hE18
            have hC : Ext (No) _ w18 := hE18.no
            refine wd_k I_ok 3 rfl (wd_caseD 83 rfl (fun hg => ?_) (fun hg => ?_))
            · exact absurd hg (by decide)
            · refine wd_k I_ok 2 rfl ?_
              refine wd_sl I_ok rfl rfl 0 j ko 32 rfl (.inr ⟨rfl, rfl⟩) (.inl rfl) (.inr ⟨rfl, rfl⟩) (Nat.zero_le _) (by omega) (Nat.le_refl _) ?_
              refine wd_put 86 rfl (v' := .slice qo ((ordD (toHp m) ids[i]).take j).length ko) (by rw [slBase_zero, Nat.sub_zero, Nat.sub_zero, List.length_take, Nat.min_eq_left (by omega)]) ?_
              refine wd_ldN I_ok rfl rfl (fun w' hw' => (hd13.extNo hw').seg) hci.len ?_
              refine wd_l rfl (st_call Tryz.call21 rfl rfl rfl rfl rfl rfl (containsId_calls w18 (l := (ordD (toHp m) ids[i]).take j) (by rw [hjt]; exact Sl.take32 hL.now hOi (e := j) (by omega)) (by omega) hOt hci) fun v19 w19 hr19 => ⟨(by obtain ⟨rfl, hE19⟩ := hr19; exact hC.thenNo hE19), ?_⟩)
              obtain ⟨rfl, hE19⟩ := hr19
              have hb5 := hb5.extNo hE19
              have hb8 := hb8.extNo hE19
              have hb13 := hb13.extNo hE19
              have hb14 := hb14.extNo hE19
              have hK := hK.no hE19
              have hL := hL.no hE19
              have hR := hR.no hE19
              have hN := hN.extNo hE19
              have hX := hX.thenNo hE19
              have hC := hC.thenNo hE19
              rw [show decide ((ordD (toHp m) ids[i])[j] ∈ (ordD (toHp m) ids[i]).take j) = false from decide_eq_false hnew]
              refine wd_k I_ok 2 rfl (wd_case 90 rfl (fun hg => ?_) (fun hg => ?_))
              · exact absurd hg (by decide)
              · refine wd_k I_ok 1 rfl ?_
                refine wd_ldN I_ok rfl rfl (fun w' hw' => (hd13.extNo hw').seg) hci.len ?_
                refine wd_l rfl (st_call Tryz.call21 rfl rfl rfl rfl rfl rfl (containsId_calls w19 hR.now (by omega) hled hci) fun v20 w20 hr20 => ⟨(by obtain ⟨rfl, hE20⟩ := hr20; exact hC.thenNo hE20), ?_⟩)
                obtain ⟨rfl, hE20⟩ := hr20
                have hb5 := hb5.extNo hE20
                have hb8 := hb8.extNo hE20
                have hb13 := hb13.extNo hE20
                have hb14 := hb14.extNo hE20
                have hK := hK.no hE20
                have hL := hL.no hE20
                have hR := hR.no hE20
                have hN := hN.extNo hE20
                have hX := hX.thenNo hE20
                have hC := hC.thenNo hE20
                rw [show decide ((ordD (toHp m) ids[i])[j] ∈ ((toHp m).led ids[i])) = true from decide_eq_true (((toHp m).led_mem _ _).2 hyl)]
                refine wd_k I_ok 2 rfl (wd_sw (wb_nil ?_))
                exact f_cut (()) rfl ⟨⟨hK, hL, hR, hN⟩, hb5, hb8, hb13, hb14, hX⟩
          rintro z w21 ⟨⟨hK, hL, hR, hN⟩, hb5, hb8, hb13, hb14, hX⟩
          refine c_condF rfl (c_skip (f_then (c_seq (c_region (wl (st_ldB I_ok hb14 rfl (objC_len hoi) (wl (st_call Tryz.call22 rfl rfl rfl rfl rfl rfl (links_calls w21 hoi hN.l hos) fun v22 w22 hr22 => ?_))))))))
          obtain ⟨ql, kl, rfl, hLk, _, hE22⟩ := hr22
          have hb5 := hb5.extNo hE22
          have hb8 := hb8.extNo hE22
          have hb13 := hb13.extNo hE22
          have hb14 := hb14.extNo hE22
          have hK := hK.no hE22
          have hL := hL.no hE22
          have hR := hR.no hE22
          have hN := hN.extNo hE22
          have hX := hX.thenNo hE22
          have hQ : KS w22.heap.size w22 (fun u => Sl u ql (linksB ((toHp m).obj (ordD (toHp m) ids[i])[j])).length 32 ((linksB ((toHp m).obj (ordD (toHp m) ids[i])[j])).flatMap bytesU)) := KS.mk0 fun u hu => hLk.sl.extNo hu
          have hLi : ∀ t ∈ (linksB ((toHp m).obj (ordD (toHp m) ids[i])[j])), IdIn t := fun t ht => lksOf_in hoi t (linksB_sub ht)
          have hLl := Nat.le_trans (linksB_le ((toHp m).obj (ordD (toHp m) ids[i])[j])) (linksOf_few hos)
          obtain ⟨N4, hN4⟩ : ∃ N, N = w22.heap.size := ⟨_, rfl⟩
          rw [← hN4] at hQ
          refine wl_p I_ok rfl (wl_nil (f_then (c_block ?_)))
          refine c_loopK (α := Nat) [5, 9, 11, 12, 26, 27, 28, 68, 69, 70, 97, 98] rfl (fun z => [(99, .int .i64 (z : Int))]) (fun z u => (z ≤ (linksB ((toHp m).obj (ordD (toHp m) ids[i])[j])).length ∧ KS N u (fun u => HpIn u q m ∧ Sl u qi ids.length 32 (ids.flatMap bytesU)) ∧ KS N2 u (fun u => Sl u qo (ordD (toHp m) ids[i]).length 32 ((ordD (toHp m) ids[i]).flatMap bytesU)) ∧ KS N3 u (fun u => Sl u qr ((toHp m).led ids[i]).length 32 (((toHp m).led ids[i]).flatMap bytesU)) ∧ KS N4 u (fun u => Sl u ql (linksB ((toHp m).obj (ordD (toHp m) ids[i])[j])).length 32 ((linksB ((toHp m).obj (ordD (toHp m) ids[i])[j])).flatMap bytesU))) ∧ Blk u b5 26 ([.slice q m.length k]) ∧ Blk u b8 31 (bytesU ids[i]) ∧ Blk u b13 31 (bytesU (ordD (toHp m) ids[i])[j]) ∧ Ext No w u) (fun z u => (linksB ((toHp m).obj (ordD (toHp m) ids[i])[j])).length - z) (0) rfl ⟨⟨Nat.zero_le _, hK, hL, hR, hQ⟩, hb5, hb8, hb13, hX⟩ ?_
          rintro t w23 ⟨⟨ht, hK, hL, hR, hQ⟩, hb5, hb8, hb13, hX⟩
          refine c_seq (c_region (wl_p I_ok rfl (wl_nil (f_then (c_seq (c_if rfl (fun hc => ?_) (fun hc => ?_)))))))
          · have hel : t < (linksB ((toHp m).obj (ordD (toHp m) ids[i])[j])).length := by omega
            obtain ⟨eb, eo, heq, her⟩ := (hQ.now).rowAll (fun r hr => IdIn.len (hLi r hr)) (by omega)
            have hei : IdIn (linksB ((toHp m).obj (ordD (toHp m) ids[i])[j]))[t] := hLi _ (List.getElem_mem hel)
            refine wc_put 97 rfl (v' := .slice (some ⟨eb, eo, none⟩) (linksB ((toHp m).obj (ordD (toHp m) ids[i])[j])).length kl) (by rw [heq]) ?_
            have hin : (linksB ((toHp m).obj (ordD (toHp m) ids[i])[j]))[t] ∈ (ordD (toHp m) ids[i]).take j := ordD_links hcl (fun y _ => hkz y) hcl2 _ (linksB_sub (List.getElem_mem hel))
            refine c_skip (f_then (c_seq (c_block (c_seq (c_region (wl (st_ix I_ok rfl 32 rfl t rfl (by omega) (eo + t * 32) rfl (wl (st_ldN I_ok rfl (her t hel) hei.len ?_)))))))))
            have hRhK := hK.n
            have hRhL := hL.n
            have hRhR := hR.n
            have hRhQ := hQ.n
            refine wl (st_al I_ok rfl fun b17 w24 hn17 hb17 hE24 => ?_)
            have ne5_17 : b5 ≠ b17 := Nat.ne_of_lt (Nat.lt_of_lt_of_le hb5.lt hn17)
            have ne8_17 : b8 ≠ b17 := Nat.ne_of_lt (Nat.lt_of_lt_of_le hb8.lt hn17)
            have ne13_17 : b13 ≠ b17 := Nat.ne_of_lt (Nat.lt_of_lt_of_le hb13.lt hn17)
            have fr17 := Nat.le_trans hX.size hn17
            have hb5 := hb5.extNo hE24
            have hb8 := hb8.extNo hE24
            have hb13 := hb13.extNo hE24
            have hK := hK.no hE24
            have hL := hL.no hE24
            have hR := hR.no hE24
            have hQ := hQ.no hE24
            have hX := hX.thenNo hE24
            have fhK17 := Nat.le_trans hRhK hn17
            have fhL17 := Nat.le_trans hRhL hn17
            have fhR17 := Nat.le_trans hRhR hn17
            have fhQ17 := Nat.le_trans hRhQ hn17
            refine wl (st_stW (l' := bytesU (linksB ((toHp m).obj (ordD (toHp m) ids[i])[j]))[t]) I_ok hb17 rfl rfl hei.len (by rw [bytesU_len, hei]; rfl) OneC.h fun w25 hb17 hE25 hs25 => ?_)
            have hb5 := hb5.ext1 hE25 ne5_17
            have hb8 := hb8.ext1 hE25 ne8_17
            have hb13 := hb13.ext1 hE25 ne13_17
            have hK := hK.one hE25 fhK17
            have hL := hL.one hE25 fhL17
            have hR := hR.one hE25 fhR17
            have hQ := hQ.one hE25 fhQ17
            have hX := hX.thenNew hE25 fr17
            refine wl_nil (f_then (c_seq (c_draw rfl 6 [(0, true), (1, true), (2, true), (3, true), (4, false), (5, true)] [] (No) (by kernel_rfl) fun w26 hE26 hs26 => ?_)))
            have hd5 := hb5
            have hd8 := hb8
            have hd13 := hb13
            have hd17 := hb17
            have hKd := hK
            have hLd := hL
            have hRd := hR
            have hNd := hN
            have hQd := hQ
            have hXd := hX
            have hb5 := hb5.extNo hE26
            have hb8 := hb8.extNo hE26
            have hb13 := hb13.extNo hE26
            have hb17 := hb17.extNo hE26
            have hK := hK.no hE26
            have hL := hL.no hE26
            have hR := hR.no hE26
            have hQ := hQ.no hE26
            have hX := hX.thenNo hE26
            have hC : Ext (No) _ w26 := hE26.no
            refine wd_k I_ok 2 rfl (wd_sl I_ok rfl rfl 0 j ko 32 rfl (.inr ⟨rfl, rfl⟩) (.inl rfl) (.inr ⟨rfl, rfl⟩) (Nat.zero_le _) (by omega) (Nat.le_refl _) ?_)
            refine wd_put 105 rfl (v' := .slice qo ((ordD (toHp m) ids[i]).take j).length ko) (by rw [slBase_zero, Nat.sub_zero, Nat.sub_zero, List.length_take, Nat.min_eq_left (by omega)]) ?_
            refine wd_ldN I_ok rfl rfl (fun w' hw' => (hd17.extNo hw').seg) hei.len ?_
            refine wd_l rfl (st_call Tryz.call21 rfl rfl rfl rfl rfl rfl (containsId_calls w26 (l := (ordD (toHp m) ids[i]).take j) (by rw [hjt]; exact Sl.take32 hL.now hOi (e := j) (by omega)) (by omega) hOt hei) fun v27 w27 hr27 => ⟨(by obtain ⟨rfl, hE27⟩ := hr27; exact hC.thenNo hE27), ?_⟩)
            obtain ⟨rfl, hE27⟩ := hr27
            have hb5 := hb5.extNo hE27
            have hb8 := hb8.extNo hE27
            have hb13 := hb13.extNo hE27
            have hb17 := hb17.extNo hE27
            have hK := hK.no hE27
            have hL := hL.no hE27
            have hR := hR.no hE27
            have hQ := hQ.no hE27
            have hX := hX.thenNo hE27
            have hC := hC.thenNo hE27
            rw [show decide ((linksB ((toHp m).obj (ordD (toHp m) ids[i])[j]))[t] ∈ (ordD (toHp m) ids[i]).take j) = true from decide_eq_true hin]
            refine wd_k I_ok 1 rfl (wd_sw (wb_nil (f_then (c_condF rfl (c_skip (f_blockN (f_then (c_region (wl_p I_ok rfl ?_)))))))))
            rw [IntWalk.i64_in _ (by omega)]
            refine wl_nil (fin_put 97 rfl (v' := .slice ql (linksB ((toHp m).obj (ordD (toHp m) ids[i])[j])).length kl) (by rw [heq]) ?_)
            exact f_round (t + 1) rfl ⟨⟨hel, hK, hL, hR, hQ⟩, hb5, hb8, hb13, hX⟩ (by first | omega | (dsimp only; omega))
          · refine c_exit ?_
            refine f_thenE (f_thenE (f_blockE (f_blockN (f_then (c_region (wl_p I_ok rfl ?_))))))
            rw [IntWalk.i64_in _ (by omega)]
            refine wl_nil (fin_put 68 rfl (v' := .slice qo (ordD (toHp m) ids[i]).length ko) (by rw [hcq]) ?_)
            exact f_round (j + 1) rfl ⟨⟨hcl2, hK, hL, hR⟩, hb5, hb8, hX⟩ (by first | omega | (dsimp only; omega))
        · refine c_exit ?_
          exact f_thenE (f_thenE (f_blockE (f_blockN (f_cut (()) rfl ⟨hK, hb5, hX⟩))))
    rintro z w28 ⟨hK, hb5, hX⟩
    refine c_region (wl_p I_ok rfl ?_)
    rw [IntWalk.i64_in _ (by omega)]
    refine wl_nil (fin_put 26 rfl (v' := .slice qi ids.length ki) (by rw [haq]) ?_)
    exact f_round (i + 1) rfl ⟨⟨hal, hK⟩, hb5, hX⟩ (by first | omega | (dsimp only; omega))
  · refine c_exit ?_
    refine f_thenE (f_thenE (f_blockE (f_then (c_seq (c_region (wl_p I_ok rfl (wl_nil (f_then (c_ret (f_ret1 rfl rfl ?_))))))))))
    exact ⟨rfl, hX⟩
end Go.Proofs.YtpcdihkcenfgkaaGreat
namespace Go.Proofs.YtpcdihkcenfgkaaGreat
open Go.Vc Go.ChangeShapes Go.WideShapes Go.ChangeAt Go.RowKit
theorem own : ownKnob Tryz.prog.godebug = none := by kernel_rfl

set_option maxRecDepth 100000 in
theorem links_lifted (os : Os) (started : os.Started) (H : Type) (enc : TypeId × Value → H) :
    ReturnsInHanded {} Tryz.checked os 5 .any (Rows.uploadLinksSpec.pre6 enc Tryz.prog Tryz.f5 Rows.uploadLinksRow.domain false) (Rows.uploadLinksSpec.post enc Tryz.prog Tryz.f5 false true false false) := by
  refine returnsInHanded_of_change (C := Tryz.checked) own started (by kernel_rfl) Tryz.func5
    (ChangeSpec.witness6 (enc := enc) (C := Tryz.checked) false ⟨#[], #[.slice none 0 0, .int .i64 0], []⟩ 40 (by kernel_rfl) (by kernel_rfl) (by kernel_rfl) (by kernel_rfl)) ?_
  intro W base args ds gs before hval0 hW hcnd _
  have hval : ∀ (j : Nat) t v, Tryz.f5.params[j]? = some t → args[j]? = some v → Value.okWide Tryz.prog W .any base t v := hval0
  have hW' := hW
  obtain ⟨p, q, hA0, hV, rfl, hfz, hnd⟩ := hW
  have hA : DataW.TrodAll enc Tryz.prog W 0 (fun _ => true) true Tryz.f5.params.toList args.toList ds p := hA0
  rw [Tryz.params5] at hA hval
  obtain ⟨v0, vs0, d0, ds0, p0, q0, hargs, rfl, rfl, h0, r0⟩ := trodAll_cons hA
  obtain ⟨v1, vs1, d1, ds1, p1, q1, rfl, rfl, rfl, h1, r1⟩ := trodAll_cons r0
  obtain ⟨rfl, rfl, rfl⟩ := trodAll_nil r1
  obtain rfl : args = #[v0, v1] := by cases args; simp_all
  obtain ⟨rfl, rfl⟩ := trodVars_none hV
  have w0 := hval 0 22 v0 rfl rfl
  have w1 := hval 1 3 v1 rfl rfl
  obtain ⟨k0, h0⟩ := h0
  obtain ⟨k1, h1⟩ := h1
  obtain ⟨a0, len0, cap0, rfl⟩ := okWide_slice Tryz.underlying22 w0
  obtain ⟨gone, e1, hgi⟩ := open_int h1
  obtain ⟨ps, steps, cs, e0, g1, g2, hs, hsi, _⟩ := open_list (cells := stepC) (ok := StepIn W) Tryz.underlying22 (by kernel_rfl : Tryz.prog.cellsOf 79 = 3) (by decide) (fun h => open_step h) h0
  obtain ⟨n1, rfl⟩ := okWide_int Tryz.underlying3 w1
  simp only [Value.cells, intC, List.cons.injEq, and_true, Value.slice.injEq, Value.int.injEq, true_and] at e0 e1
  obtain ⟨rfl, rfl, rfl⟩ := e0
  subst e1
  clear hA0 hval0
  simp only [List.append_nil] at hW'
  refine Calls.mono (uploadLinks_calls W hs hsi (ml_lt (Nat.le_trans g1 g2)) n1) fun e W' he => ?_
  cases e with
  | returned v =>
    obtain ⟨rfl, hE⟩ : v = .bool true ∧ Ext No W W' := he
    refine ⟨_, rfl, post_true (by kernel_rfl) (by kernel_rfl) (by kernel_rfl) hW' rfl (by kernel_rfl) (by kernel_rfl) Tryz.underlying4 rfl rfl rfl hE⟩
  | panicked _ => exact he.elim
  | outgrown => exact he.elim
theorem links_holds : Rows.UploadLinksSaid :=
  OpenClaim.holds_of_wide 5 Tryz.f5 rfl rfl rfl rfl rfl rfl rfl ⟨rfl, rfl, rfl, rfl, rfl⟩ rfl rfl rfl rfl rfl (by kernel_rfl) Tryz.func5 (by kernel_rfl)
    (of_decide_eq_true (by kernel_rfl)) (by unfold Func.isWrapper; first | (rw [if_pos (by decide +kernel)]; kernel_rfl) | (rw [if_neg (by decide +kernel)]; exact ⟨rfl, rfl⟩))
    (fun os started H enc _ => links_lifted os started H enc)

end Go.Proofs.YtpcdihkcenfgkaaGreat
