/-
  UploadOrdersSaid , walked
-/
import Derived.Test.YtpcdihkcenfgkaaGreatRows
import Derived.ProofKit
import Derived.Test.YtpcdihkcenfgkaaGreatLoG
namespace Go.Proofs.YtpcdihkcenfgkaaGreat
open Go.Vc
/-- it holds, and goes on to hold as long as only S and what is newer turns -/
structure KT (S : Nat → Prop) (N : Nat) (w : World) (P : World → Prop) : Prop where
  n : N ≤ w.heap.size
  st : Stb (fun x => S x ∨ N ≤ x) w P
theorem KT.now {S : Nat → Prop} {N : Nat} {w : World} {P : World → Prop} (h : KT S N w P) : P w := h.st.now
theorem KT.ext {S : Nat → Prop} {N : Nat} {w w' : World} {P : World → Prop} (h : KT S N w P) {T : Nat → Prop} (hE : Ext T w w') (hT : ∀ x, x < w.heap.size → T x → S x ∨ N ≤ x) : KT S N w' P := ⟨Nat.le_trans h.n hE.size, h.st.step hE hT fun _ _ k => k⟩
theorem KT.no {S : Nat → Prop} {N : Nat} {w w' : World} {P : World → Prop} (h : KT S N w P) (hE : Ext No w w') : KT S N w' P := h.ext hE fun _ _ k => k.elim
theorem KT.one {S : Nat → Prop} {N b : Nat} {w w' : World} {P : World → Prop} (h : KT S N w P) (hE : Ext (One b) w w') (hb : N ≤ b) : KT S N w' P := h.ext hE fun x _ e => by have e : x = b := e; exact .inr (by omega)
theorem KT.own {S : Nat → Prop} {N : Nat} {w w' : World} {P : World → Prop} (h : KT S N w P) (hE : Ext S w w') : KT S N w' P := h.ext hE fun _ _ k => .inl k
theorem KT.add {S : Nat → Prop} {N : Nat} {w : World} {P Q : World → Prop} (h : KT S N w P) (hQ : Stb S w Q) : KT S w.heap.size w (fun u => P u ∧ Q u) :=
  ⟨Nat.le_refl _, fun u hu => ⟨h.st u (hu.mono fun x hx k => k.elim .inl fun k => by omega), hQ u (hu.mono fun x hx k => k.elim id fun k => by omega)⟩⟩
theorem MadeQ.kt {W w : World} {q : Option Addr} {m : List HeldT} {qi : Option Addr} {ki : Nat} {ids : List IdB} (h : MadeQ W w q m qi ki ids) : KT (OwnB qi) w.heap.size w (fun u => HpIn u q m) :=
  ⟨Nat.le_refl _, h.hp.sub fun x hx k => k.elim id fun k => by omega⟩
theorem own_take {w : World} {p : Option Addr} {n k c T sz : Nat} {xs ys : List Value} (h : Own w p (n + k) c T sz (xs ++ ys)) (hx : xs.length = n * sz) (hn : 0 < n + k) : Own w p n c T sz xs := by
  rcases h with ⟨_, h0, _⟩ | ⟨b, L, rfl, hb, hl, hnc, hcm, htk⟩
  · omega
  · refine .inr ⟨b, L, rfl, hb, hl, by omega, hcm, ?_⟩
    have := congrArg (List.take (n * sz)) htk
    rw [List.take_take, Nat.min_eq_left (Nat.mul_le_mul_right sz (by omega)), List.take_left' hx] at this
    exact this
theorem id9_build : putAll (bytesU idZ) [(0, 1, .int .u8 9)] = bytesU id9U := rfl
theorem ext_ty {w w' : World} {p q : Option Addr} {n c T sz n' c' T' sz' : Nat} {xs xs' : List Value} (h : Own w p n c T sz xs) (k : Own w q n' c' T' sz' xs') (hE : Ext (OwnB q) w w') (hT : T ≠ T') : Own w' p n c T sz xs := own_app h k hE hT
/-- a copy of a heap's row, over the same objects -/
theorem copy_kt {N : Nat} {w : World} {q qw qi : Option Addr} {kw n c : Nat} {xs : List Value} {m : List HeldT} (hT : KT (OwnB qi) N w (fun u => HpIn u q m)) (hi : Own w qi n c 31 32 xs) (hW : Own w qw m.length kw 84 105 (m.flatMap heldC)) : KT (OwnB qi) w.heap.size w (fun u => HpIn u q m ∧ HpIn u qw m) :=
  hT.add fun u hu => by
    have h0 := hT.st u (hu.mono fun x _ k => .inl k)
    exact ⟨(ext_ty hW hi hu (by decide)).sl, h0.ins, h0.len, h0.lk⟩
theorem fst_at {L L' : List ObjX} (h : L'.map Prod.fst = L.map Prod.fst) {j : Nat} (h1 : j < L'.length) (h2 : j < L.length) : (L'[j]).1 = (L[j]).1 := by
  have e1 : (L'.map Prod.fst)[j]? = some (L'[j]).1 := by rw [List.getElem?_map, List.getElem?_eq_getElem h1]; rfl
  have e2 : (L.map Prod.fst)[j]? = some (L[j]).1 := by rw [List.getElem?_map, List.getElem?_eq_getElem h2]; rfl
  rw [h, e2] at e1
  exact (Option.some.inj e1).symm
theorem sndX_at {M : List HeldT} {L : List ObjX} (h : ∃ U, L = sndX M U) : ∀ x ∈ L, ∃ y, x = ((toHp M).obj y, objP M y) := fun x hx => by
  obtain ⟨U, rfl⟩ := h
  obtain ⟨y, _, e⟩ := List.mem_map.1 hx
  exact ⟨y, e.symm⟩
theorem ap_rest {L : List ObjX} (h : L.Pairwise fun x y => ∀ b c, ObjF x.2 b → ObjF y.2 c → b < c) {j : Nat} (hj : j < L.length) : ∀ x ∈ L.drop (j + 1), ∀ b, ObjF x.2 b → ¬ ObjF (L[j]).2 b := fun x hx b hb hb2 => by
  have h1 : (L.drop j).Pairwise fun x y => ∀ b c, ObjF x.2 b → ObjF y.2 c → b < c := h.sublist (List.drop_sublist j L)
  rw [List.drop_eq_getElem_cons hj] at h1
  exact Nat.lt_irrefl _ ((List.pairwise_cons.1 h1).1 x hx b b hb2 hb)
theorem objs_at {u : World} {q : Option Addr} {k : Nat} {L : List ObjX} (h : Own u q L.length k 48 73 (L.flatMap objX)) (hI : ∀ x ∈ L, ObjIn x.1) {b o : Nat} (hq : q = some ⟨b, o, none⟩) {j : Nat} (hj : j < L.length) : Seg u b (o + j * 73) (objX L[j]) := by
  obtain ⟨b2, o2, e, h2⟩ := h.sl.rowAll (objX_len hI) (by omega)
  rw [hq] at e
  cases e
  exact h2 j hj
theorem sendO_len (h : Hp) (U : List IdB) (n : Int) : (sendO h U n).length ≤ U.length := by
  unfold sendO
  split
  · rw [List.length_map, List.length_take]; omega
  · exact Nat.zero_le _
theorem half_eq {n : Nat} (h : n < 1000000) : IntKind.i64.wrap ((n : Int).tdiv 2) = ((n / 2 : Nat) : Int) := by
  have e : (n : Int).tdiv 2 = ((n / 2 : Nat) : Int) := by rw [show (2 : Int) = ((2 : Nat) : Int) from rfl, ← Int.ofNat_tdiv]
  rw [e, IntWalk.i64_in _ (by omega)]
theorem half_le (n : Nat) : n / 2 ≤ n := Nat.div_le_self n 2
theorem uploadOrders_calls (w : World) {ps : Option Addr} {cs : Nat} {steps : List StepT} (hs : Sl w ps steps.length 3 (steps.flatMap stepC)) (hsi : ∀ s ∈ steps, StepIn w s) (hsl : steps.length < 9223372036854775808) (gone most : Int) :
    CallsV Tryz.prog 3 [.slice ps steps.length cs, .int .i64 gone, .int .i64 most] w fun v w' => v = .bool true ∧ Ext No w w' := by
  refine calls_enter Tryz.func3 rfl rfl rfl rfl ?_
  have hX := Ext.refl No w
  refine c_seq (c_region (wl_p I_ok rfl (wl_nil (f_then (c_seq (c_seq (c_region (wl (st_call Tryz.call7 rfl rfl rfl rfl rfl rfl (wakes_calls w) fun v1 w1 hr1 => ?_)))))))))
  obtain ⟨rfl, hE1⟩ := hr1
  have hX := hX.thenNo hE1
  refine wl_p I_ok rfl (wl_nil (f_then (c_condF rfl (c_skip (f_then (c_seq (c_region (wl_p I_ok rfl ?_))))))))
  have hXs := hX.size
  refine wl (st_call Tryz.call8 rfl rfl rfl rfl rfl rfl (made_calls w1 (hs.extNo hX) (fun s h => (hsi s h).extNo hX) hsl gone) fun v2 w2 hr2 => ?_)
  obtain ⟨q, k, m, qi, ki, ids, rfl, hMQ, hMD, hE2⟩ := hr2
  have hX := hX.thenNo hE2
  have hml := hMQ.few
  have hil := hMQ.il
  have hiin := hMQ.iin
  have hkp : Kept (toHp m) := by rw [(Prod.mk.inj hMD).1]; exact kept_made _ _
  have hkz := fun y => hkp.obj y
  have hT := hMQ.kt
  have hI := hMQ.own
  have hnI : ∀ y, OwnB qi y → w.heap.size ≤ y := fun y hy => Nat.le_trans hXs (hMQ.new y hy)
  obtain ⟨NT, hNT⟩ : ∃ N, N = w2.heap.size := ⟨_, rfl⟩
  rw [← hNT] at hT
  refine wl_p I_ok rfl ?_
  have hRT := hT.n
  refine wl (st_al I_ok rfl fun b7 w3 hn7 hb7 hE3 => ?_)
  have fr7 := Nat.le_trans hX.size hn7
  have hT := hT.no hE3
  have hI := hI.ext hE3 fun _ _ => id
  have hX := hX.thenNo hE3
  have fT7 := Nat.le_trans hRT hn7
  have hb7o := hb7
  refine wl (st_stW (l' := [.slice q m.length k]) I_ok hb7 rfl rfl rfl rfl OneC.h fun w4 hb7 hE4 hs4 => ?_)
  have hT := hT.one hE4 fT7
  have hI := hI.extTy hE4 hb7o (by decide)
  have hX := hX.thenNew hE4 fr7
  refine wl_p I_ok rfl (wl_nil (f_then (c_seq (c_region ?_))))
  have hRT := hT.n
  refine wl (st_bs I_ok rfl 105 rfl heldZ_c (by rw [List.length_append, bytesU_len, objC_len objZ_in]; rfl) (by decide) (by decide) trivial (l' := []) rfl fun b29 w5 hn29 hb29 hE5 hs5 => ?_)
  have ne7_29 : b7 ≠ b29 := Nat.ne_of_lt (Nat.lt_of_lt_of_le hb7.lt hn29)
  have fr29 := Nat.le_trans hX.size hn29
  have hb7 := hb7.extNo hE5
  have hT := hT.no hE5
  have hI := hI.ext hE5 fun _ _ => id
  have hX := hX.thenNo hE5
  have fT29 := Nat.le_trans hRT hn29
  refine wl_p I_ok rfl (wl (st_ldb I_ok hb7 rfl rfl ?_))
  have hXp := hX
  have hXps := hX.size
  refine wl (st_app I_ok rfl 105 224 rfl rfl rfl (by decide) (Own.blk (n := 0) (c := 0) hb29 105 rfl (Nat.le_refl _) (by decide)) (Src.slice hT.now.sl OneC.h) (by dsimp only [maxLen]; omega) (by dsimp only; omega) fun p6 c6 w6 ho6 hE6 hB6 => ?_)
  dsimp only at ho6 hE6 hB6 ⊢
  have eb29 : ∀ y, OwnB (some ⟨b29, 0, none⟩) y → y = b29 := fun y hy => (congrArg Addr.block (Option.some.inj hy)).symm
  have hX := hXp.trans hE6 fun y hy hF => by have := eb29 y hF; omega
  have hT := hT.ext hE6 fun x _ e => .inr (by rw [eb29 x e]; exact fT29)
  have hI := hI.ext hE6 fun y hy e => absurd (eb29 y e) (hI.neTy hy hb29 (by decide))
  have hb7 := hb7.ext hE6 (fun e => ne7_29 (eb29 _ e))
  obtain ⟨qw, kw, e1, e2, hW⟩ : ∃ q2 k2, q2 = p6 ∧ k2 = c6 ∧ Own w6 q2 m.length k2 84 105 (m.flatMap heldC) := ⟨_, _, rfl, rfl, by
    have k := ho6
    rw [Nat.zero_add] at k
    simpa using k⟩
  rw [← e1, ← e2, Nat.zero_add]
  have hT := copy_kt hT hI hW
  obtain ⟨N0, hN0⟩ : ∃ N, N = w6.heap.size := ⟨_, rfl⟩
  rw [← hN0] at hT
  refine wl (st_bd I_ok rfl ⟨⟨rfl, by decide⟩, trivial⟩ (l' := [.slice qw m.length kw]) rfl ?_)
  have hRT := hT.n
  refine wl (st_al I_ok rfl fun b9 w7 hn9 hb9 hE7 => ?_)
  have ne7_9 : b7 ≠ b9 := Nat.ne_of_lt (Nat.lt_of_lt_of_le hb7.lt hn9)
  have fr9 := Nat.le_trans hX.size hn9
  have hb7 := hb7.extNo hE7
  have hT := hT.no hE7
  have hI := hI.ext hE7 fun _ _ => id
  have hX := hX.thenNo hE7
  have fT9 := Nat.le_trans hRT hn9
  have hb9o := hb9
  refine wl (st_stW (l' := [.slice qw m.length kw]) I_ok hb9 rfl rfl rfl rfl OneC.h fun w8 hb9 hE8 hs8 => ?_)
  have hb7 := hb7.ext1 hE8 ne7_9
  have hT := hT.one hE8 fT9
  have hI := hI.extTy hE8 hb9o (by decide)
  have hX := hX.thenNew hE8 fr9
  refine wl_nil (f_then (c_seq (c_seq (c_region (wl_p I_ok rfl (wl (st_bd I_ok rfl ⟨⟨rfl, by decide⟩, trivial⟩ (l' := bytesU id9U) (by rw [← idZ_c]; exact id9_build) ?_)))))))
  refine wl (st_bs I_ok rfl 32 rfl idZ_c.symm (by rw [bytesU_len]; rfl) (by decide) (by decide) ⟨⟨by rw [cellsOf_agg]; exact (IdIn.len id9U_in), by decide⟩, trivial⟩ (l' := bytesU id9U) (one_id id9U_in) fun b36 w9 hn36 hb36 hE9 hs9 => ?_)
  have fr36 := Nat.le_trans hX.size hn36
  have hb7 := hb7.extNo hE9
  have hb9 := hb9.extNo hE9
  have hT := hT.no hE9
  have hI := hI.ext hE9 fun _ _ => id
  have hX := hX.thenNo hE9
  have hX1 := hX
  have hOl := hI.len
  have hIo := hI
  refine wl (st_appC I_ok rfl 32 32 rfl rfl rfl (by decide) hI (Src.slice (m := 1) (one_idS id9U_in hb36) OneC.h) (by dsimp only [maxLen]; omega) (by dsimp only; omega) fun p10 c10 w10 ho10 hC10 => ?_)
  dsimp only at ho10 hC10 ⊢
  obtain ⟨qa, ka, e1, e2, hA⟩ : ∃ q2 k2, q2 = p10 ∧ k2 = c10 ∧ Own w10 q2 (ids ++ [id9U]).length k2 31 32 ((ids ++ [id9U]).flatMap bytesU) := ⟨_, _, rfl, rfl, by
    rw [List.flatMap_append, List.length_append, List.flatMap_singleton]
    exact ho10⟩
  have hAl : (ids ++ [id9U]).length = ids.length + 1 := by rw [List.length_append]; rfl
  have hEo : Ext (OwnB qi) w9 w10 := hC10.elim (fun k => k.2.2.2) fun k => k.2.1.no
  have hI : Own w10 qi ids.length ki 31 32 (ids.flatMap bytesU) := hC10.elim (fun k => by
      have h := ho10
      rw [k.2.1, k.2.2.1] at h
      exact own_take h hOl (by omega)) fun k => hIo.ext k.2.1 fun _ _ => id
  have hX := hX1.trans hEo fun y hy hF => by have := hnI y hF; omega
  have hb7 := hb7.ext hEo (fun k => by obtain ⟨L3, h3⟩ := hIo.blkAt k; exact absurd (h3.uniq hb7).2 (by decide))
  have hb9 := hb9.ext hEo (fun k => by obtain ⟨L3, h3⟩ := hIo.blkAt k; exact absurd (h3.uniq hb9).2 (by decide))
  have hT := hT.own hEo
  have hcapi := hI.cap
  have hK : KS w10.heap.size w10 (fun u => (HpIn u q m ∧ HpIn u qw m) ∧ Sl u qi ids.length 32 (ids.flatMap bytesU) ∧ Sl u qa (ids ++ [id9U]).length 32 ((ids ++ [id9U]).flatMap bytesU)) := KS.mk0 fun u hu => ⟨(hT.no hu).now, (hI.ext hu fun _ _ => id).sl, (hA.ext hu fun _ _ => id).sl⟩
  have hAi : ∀ y ∈ (ids ++ [id9U]), IdIn y := fun y hy => by
    rcases List.mem_append.1 hy with hy | hy
    · exact hiin y hy
    · rw [List.mem_singleton.1 hy]; exact id9U_in
  obtain ⟨N, hN⟩ : ∃ N, N = w10.heap.size := ⟨_, rfl⟩
  rw [← hN] at hK
  have hNw : w.heap.size ≤ N := by rw [hN]; exact hX.size
  rw [← e1, ← e2, ← hAl]
  refine wl_p I_ok rfl (wl_nil (f_then (c_block ?_)))
  refine c_loopK (α := Nat) [2, 7, 8, 9, 37, 38] rfl (fun z => [(39, .int .i64 (z : Int))]) (fun z u => (z ≤ (ids ++ [id9U]).length ∧ KS N u (fun u => (HpIn u q m ∧ HpIn u qw m) ∧ Sl u qi ids.length 32 (ids.flatMap bytesU) ∧ Sl u qa (ids ++ [id9U]).length 32 ((ids ++ [id9U]).flatMap bytesU))) ∧ Blk u b7 26 ([.slice q m.length k]) ∧ Blk u b9 26 ([.slice qw m.length kw]) ∧ Ext No w u) (fun z u => (ids ++ [id9U]).length - z) (0) rfl ⟨⟨Nat.zero_le _, hK⟩, hb7, hb9, hX⟩ ?_
  rintro i w11 ⟨⟨hi, hK⟩, hb7, hb9, hX⟩
  refine c_seq (c_region (wl_p I_ok rfl (wl_nil (f_then (c_seq (c_if rfl (fun hc => ?_) (fun hc => ?_)))))))
  · have hal : i < (ids ++ [id9U]).length := by omega
    obtain ⟨ab, ao, haq, har⟩ := (hK.now.2.2).rowAll (fun r hr => IdIn.len (hAi r hr)) (by omega)
    have hai : IdIn (ids ++ [id9U])[i] := hAi _ (List.getElem_mem hal)
    refine wc_put 37 rfl (v' := .slice (some ⟨ab, ao, none⟩) (ids ++ [id9U]).length ka) (by rw [haq]) ?_
    have hled := hK.now.1.1.ledIn hai
    have hll := hK.now.1.1.ledLen (ids ++ [id9U])[i]
    refine c_skip (f_then (c_seq (c_block (c_seq (c_region (wl (st_ix I_ok rfl 32 rfl i rfl (by omega) (ao + i * 32) rfl (wl (st_ldN I_ok rfl (har i hal) hai.len ?_)))))))))
    have hRhK := hK.n
    refine wl (st_al I_ok rfl fun b11 w12 hn11 hb11 hE12 => ?_)
    have ne7_11 : b7 ≠ b11 := Nat.ne_of_lt (Nat.lt_of_lt_of_le hb7.lt hn11)
    have ne9_11 : b9 ≠ b11 := Nat.ne_of_lt (Nat.lt_of_lt_of_le hb9.lt hn11)
    have fr11 := Nat.le_trans hX.size hn11
    have hb7 := hb7.extNo hE12
    have hb9 := hb9.extNo hE12
    have hK := hK.no hE12
    have hX := hX.thenNo hE12
    have fhK11 := Nat.le_trans hRhK hn11
    refine wl (st_stW (l' := bytesU (ids ++ [id9U])[i]) I_ok hb11 rfl rfl hai.len (by rw [bytesU_len, hai]; rfl) OneC.h fun w13 hb11 hE13 hs13 => ?_)
    have hb7 := hb7.ext1 hE13 ne7_11
    have hb9 := hb9.ext1 hE13 ne9_11
    have hK := hK.one hE13 fhK11
    have hX := hX.thenNew hE13 fr11
    refine wl_nil (f_then (c_seq (c_region (wl (st_ldB I_ok hb7 rfl rfl (wl (st_ldB I_ok hb11 rfl hai.len (wl (st_call Tryz.call9 rfl rfl rfl rfl rfl rfl (order_calls w13 hK.now.1.1 hkz hai) fun v14 w14 hr14 => ?_)))))))))
    obtain ⟨qo, ko, rfl, hO, _, hE14⟩ := hr14
    have hb7 := hb7.extNo hE14
    have hb9 := hb9.extNo hE14
    have hb11 := hb11.extNo hE14
    have hK := hK.no hE14
    have hX := hX.thenNo hE14
    have hL : KS w14.heap.size w14 (fun u => Sl u qo (ordR (toHp m) (ids ++ [id9U])[i]).length 32 ((ordR (toHp m) (ids ++ [id9U])[i]).flatMap bytesU)) := KS.mk0 fun u hu => hO.sl.extNo hu
    have hOi : ∀ y ∈ (ordR (toHp m) (ids ++ [id9U])[i]), IdIn y := fun y hy => by
      unfold ordR at hy
      split at hy
      · exact hled y (((toHp m).led_mem _ _).2 ((ordD_mem (toHp m) (ids ++ [id9U])[i] y).1 hy))
      · cases hy
    have hol : (ordR (toHp m) (ids ++ [id9U])[i]).length ≤ ((toHp m).led (ids ++ [id9U])[i]).length := by
      unfold ordR
      split
      · rename_i hcl
        exact sub_len (ordD_nodup hcl fun y _ => hkz y) fun y hy => ((toHp m).led_mem _ _).2 ((ordD_mem (toHp m) (ids ++ [id9U])[i] y).1 hy)
      · exact Nat.zero_le _
    obtain ⟨N2, hN2⟩ : ∃ N, N = w14.heap.size := ⟨_, rfl⟩
    rw [← hN2] at hL
    refine wl_p I_ok rfl (wl_nil (f_then (c_seq (c_region (wl (st_ldB I_ok hb9 rfl rfl (wl (st_ldB I_ok hb11 rfl hai.len (wl (st_call Tryz.call10 rfl rfl rfl rfl rfl rfl (closed8_calls w14 hK.now.1.2 hai) fun v15 w15 hr15 => ?_))))))))))
    obtain ⟨rfl, hE15⟩ := hr15
    have hb7 := hb7.extNo hE15
    have hb9 := hb9.extNo hE15
    have hb11 := hb11.extNo hE15
    have hK := hK.no hE15
    have hL := hL.no hE15
    have hX := hX.thenNo hE15
    refine wl_p I_ok rfl (wl_nil (f_then (c_seq ?_)))
    refine c_cutK (α := Unit) [2, 7, 8, 9, 12, 37, 38, 39] rfl (fun z => [(75, .bool false)]) (fun z u => (KS N u (fun u => (HpIn u q m ∧ HpIn u qw m) ∧ Sl u qi ids.length 32 (ids.flatMap bytesU) ∧ Sl u qa (ids ++ [id9U]).length 32 ((ids ++ [id9U]).flatMap bytesU)) ∧ KS N2 u (fun u => Sl u qo (ordR (toHp m) (ids ++ [id9U])[i]).length 32 ((ordR (toHp m) (ids ++ [id9U])[i]).flatMap bytesU))) ∧ Blk u b7 26 ([.slice q m.length k]) ∧ Blk u b9 26 ([.slice qw m.length kw]) ∧ Ext No w u) ?_ ?_
    · refine c_region ?_
      refine wl_p I_ok rfl (wl_caseD 55 rfl (fun hg => ?_) (fun hg => ?_))
      · exact absurd rfl hg
      · refine wl_pk I_ok 3 rfl ?_
        refine wl_caseD 58 rfl (fun hg => ?_) (fun hg => ?_)
        · have hnc : ¬ (toHp m).closed (ids ++ [id9U])[i] = 0 := hg
          have eO : (ordR (toHp m) (ids ++ [id9U])[i]) = [] := if_neg hnc
          rw [eO]
          refine wl_pk I_ok 6 rfl (wl_case 64 rfl (fun hg => ?_) (fun hg => ?_))
          · exact absurd hg (by decide)
          · refine wl_pk I_ok 3 rfl ?_
            refine wl_caseD 67 rfl (fun hg => ?_) (fun hg => ?_)
            · exact absurd hg hnc
            · refine wl_pk I_ok 8 rfl ?_
              refine wl_nil ?_
              exact f_cut (()) rfl ⟨⟨hK, by rw [eO] at hL; exact hL⟩, hb7, hb9, hX⟩
        · have hcl : (toHp m).closed (ids ++ [id9U])[i] = 0 := Decidable.not_not.1 hg
          have eO : (ordR (toHp m) (ids ++ [id9U])[i]) = ordD (toHp m) (ids ++ [id9U])[i] := if_pos hcl
          refine wl_pk I_ok 9 rfl (wl_caseD 67 rfl (fun hg => ?_) (fun hg => ?_))
          · refine wl_pk I_ok 1 rfl ?_
            refine wl (st_ldB I_ok hb9 rfl rfl (wl (st_ldB I_ok hb11 rfl hai.len (wl (st_call Tryz.call12 rfl rfl rfl rfl rfl rfl (order18_calls w15 hK.now.1.2 hai hcl) fun v16 w16 hr16 => ?_)))))
            obtain ⟨q8, k8, rfl, h8, hE16⟩ := hr16
            have hb7 := hb7.extNo hE16
            have hb9 := hb9.extNo hE16
            have hK := hK.no hE16
            have hL := hL.no hE16
            have hX := hX.thenNo hE16
            refine wl (st_call Tryz.call11 rfl rfl rfl rfl rfl rfl (same8_calls w16 (l := (ordR (toHp m) (ids ++ [id9U])[i])) (m := ordD (toHp m) (ids ++ [id9U])[i]) hL.now h8 (by omega) hOi (by rw [← eO]; exact hOi)) fun v17 w17 hr17 => ?_)
            obtain ⟨rfl, hE17⟩ := hr17
            have hb7 := hb7.extNo hE17
            have hb9 := hb9.extNo hE17
            have hK := hK.no hE17
            have hL := hL.no hE17
            have hX := hX.thenNo hE17
            rw [show decide ((ordR (toHp m) (ids ++ [id9U])[i]) = ordD (toHp m) (ids ++ [id9U])[i]) = true from decide_eq_true eO]
            refine wl_pk I_ok 3 rfl (wl_nil ?_)
            exact f_cut (()) rfl ⟨⟨hK, hL⟩, hb7, hb9, hX⟩
          · exact absurd hcl hg
    rintro z w18 ⟨⟨hK, hL⟩, hb7, hb9, hX⟩
    refine c_condF rfl (c_skip (f_then (c_seq (c_region ?_))))
    have hRhK := hK.n
    have hRhL := hL.n
    refine wl (st_bs I_ok rfl 32 rfl idZ_c.symm (by rw [bytesU_len]; rfl) (by decide) (by decide) trivial (l' := []) rfl fun b76 w19 hn76 hb76 hE19 hs19 => ?_)
    have ne7_76 : b7 ≠ b76 := Nat.ne_of_lt (Nat.lt_of_lt_of_le hb7.lt hn76)
    have ne9_76 : b9 ≠ b76 := Nat.ne_of_lt (Nat.lt_of_lt_of_le hb9.lt hn76)
    have fr76 := Nat.le_trans hX.size hn76
    have hb7 := hb7.extNo hE19
    have hb9 := hb9.extNo hE19
    have hK := hK.no hE19
    have hL := hL.no hE19
    have hX := hX.thenNo hE19
    have fhK76 := Nat.le_trans hRhK hn76
    have fhL76 := Nat.le_trans hRhL hn76
    refine wl_p I_ok rfl ?_
    have hXp := hX
    have hXps := hX.size
    refine wl (st_app I_ok rfl 32 32 rfl rfl rfl (by decide) (Own.blk (n := 0) (c := 0) hb76 32 rfl (Nat.le_refl _) (by decide)) (Src.slice (hL.now) OneC.h) (by dsimp only [maxLen]; omega) (by dsimp only; omega) fun p20 c20 w20 ho20 hE20 hB20 => ?_)
    dsimp only at ho20 hE20 hB20 ⊢
    have eb76 : ∀ y, OwnB (some ⟨b76, 0, none⟩) y → y = b76 := fun y hy => (congrArg Addr.block (Option.some.inj hy)).symm
    have hX := hXp.trans hE20 fun y hy hF => by have := eb76 y hF; omega
    obtain ⟨q1, k1, e1, e2, h1⟩ : ∃ q2 k2, q2 = p20 ∧ k2 = c20 ∧ Own w20 q2 (ordR (toHp m) (ids ++ [id9U])[i]).length k2 31 32 ((ordR (toHp m) (ids ++ [id9U])[i]).flatMap bytesU) := ⟨_, _, rfl, rfl, by
      have k := ho20
      rw [Nat.zero_add] at k
      simpa using k⟩
    have n10 : ∀ y, OwnB q1 y → y = b76 ∨ w19.heap.size ≤ y := fun y hy => by rw [e1] at hy; exact (hB20 y hy).imp (eb76 y) id
    have n1 : ∀ y, OwnB q1 y → w.heap.size ≤ y := fun y hy => (n10 y hy).elim (fun e => by omega) fun e => Nat.le_trans hXps e
    rw [← e1, ← e2, Nat.zero_add]
    have hb7 := hb7.ext hE20 (fun e => ne7_76 (eb76 _ e))
    have hb9 := hb9.ext hE20 (fun e => ne9_76 (eb76 _ e))
    have hKp := hK.n
    have n1N : ∀ y, OwnB q1 y → N ≤ y := fun y hy => (n10 y hy).elim (fun e => by rw [e]; exact fhK76) fun e => Nat.le_trans hKp e
    have hK := hK.ext hE20 fun x _ e => by rw [eb76 x e]; exact fhK76
    have hL := hL.ext hE20 fun x _ e => by rw [eb76 x e]; exact fhL76
    refine wl_p I_ok rfl ?_
    have hXp := hX
    have h1o := h1
    refine wl (st_app I_ok rfl 32 32 rfl rfl rfl (by decide) h1 (Src.slice hK.now.2.1 OneC.h) (by dsimp only [maxLen]; omega) (by dsimp only; omega) fun p21 c21 w21 ho21 hE21 hB21 => ?_)
    dsimp only at ho21 hE21 hB21 ⊢
    have hX := hXp.trans hE21 fun y hy hF => by have := n1 y hF; omega
    have hb7 := hb7.extOwn h1o hE21 (by decide)
    have hb9 := hb9.extOwn h1o hE21 (by decide)
    have hK := hK.ext hE21 fun x _ e => n1N x e
    have hRl : ((ordR (toHp m) (ids ++ [id9U])[i]) ++ ids).length = (ordR (toHp m) (ids ++ [id9U])[i]).length + ids.length := List.length_append
    obtain ⟨qr, kr, e1, e2, hr⟩ : ∃ q2 k2, q2 = p21 ∧ k2 = c21 ∧ Own w21 q2 ((ordR (toHp m) (ids ++ [id9U])[i]) ++ ids).length k2 31 32 (((ordR (toHp m) (ids ++ [id9U])[i]) ++ ids).flatMap bytesU) := ⟨_, _, rfl, rfl, by
      rw [List.flatMap_append, hRl]
      exact ho21⟩
    have hRR : KS w21.heap.size w21 (fun u => Sl u qr ((ordR (toHp m) (ids ++ [id9U])[i]) ++ ids).length 32 (((ordR (toHp m) (ids ++ [id9U])[i]) ++ ids).flatMap bytesU)) := KS.mk0 fun u hu => hr.sl.extNo hu
    have hRi : ∀ y ∈ ((ordR (toHp m) (ids ++ [id9U])[i]) ++ ids), IdIn y := fun y hy => by
      rcases List.mem_append.1 hy with hy | hy
      · exact hOi y hy
      · exact hiin y hy
    have hhl := half_le ids.length
    have hHi : ∀ y ∈ (ids.take (ids.length / 2)), IdIn y := fun y hy => hiin y (List.mem_of_mem_take hy)
    have hHl : (ids.take (ids.length / 2)).length ≤ ids.length := by rw [List.length_take]; omega
    have hH2 : (ids.take (ids.length / 2)).length = ids.length / 2 := by rw [List.length_take, Nat.min_eq_left hhl]
    rw [← e1, ← e2, ← hRl]
    obtain ⟨N3, hN3⟩ : ∃ N, N = w21.heap.size := ⟨_, rfl⟩
    rw [← hN3] at hRR
    refine wl_p I_ok rfl (wl_nil (f_then (c_seq ?_)))
    refine c_draw rfl 14 [(0, true), (1, true), (2, true), (3, true), (4, true), (5, true), (6, true), (7, true), (8, false), (9, true), (10, true), (11, true), (12, true), (13, true)] [] (No) (by kernel_rfl) fun w22 hE22 hs22 => ?_
    have hd7 := hb7
    have hb7 := hb7.extNo hE22
    have hb9 := hb9.extNo hE22
    have hK := hK.no hE22
    have hRR := hRR.no hE22
    have hX := hX.thenNo hE22
    have hC : Ext (No) _ w22 := hE22.no
    refine wd_ldN I_ok rfl rfl (fun w' hw' => (hd7.extNo hw').seg) rfl ?_
    refine wd_k I_ok 5 rfl (wd_sl I_ok rfl rfl 0 (ids.length / 2) ki 32 rfl (.inr ⟨rfl, rfl⟩) (.inl (congrArg some (half_eq (by omega)))) (.inr ⟨rfl, rfl⟩) (Nat.zero_le _) (by have := half_le ids.length; omega) (Nat.le_refl _) ?_)
    refine wd_put 88 rfl (v' := .slice qi (ids.take (ids.length / 2)).length ki) (by rw [slBase_zero, Nat.sub_zero, Nat.sub_zero, List.length_take, Nat.min_eq_left (half_le _)]) (wd_k I_ok 1 rfl ?_)
    have hKs := hK.n
    obtain ⟨Ws, hWs⟩ : ∃ Ws, Ws = w22 := ⟨_, rfl⟩
    refine wd_l rfl (st_call Tryz.call13 rfl rfl rfl rfl rfl rfl (send_calls w22 (M := m) (L := ((ordR (toHp m) (ids ++ [id9U])[i]) ++ ids)) (H := (ids.take (ids.length / 2))) hK.now.1.1 hRR.now (by rw [hH2]; exact Sl.take32 hK.now.2.1 hiin hhl) hRi hHi (by omega) (by omega) most) fun v23 w23 hr23 => ⟨(by obtain ⟨q3, k3, out, rfl, hoe, hout, hE23⟩ := hr23; exact hC.thenNo hE23), ?_⟩)
    obtain ⟨q3, k3, out, rfl, hoe, hout, hE23⟩ := hr23
    have hb7 := hb7.extNo hE23
    have hb9 := hb9.extNo hE23
    have hK := hK.no hE23
    have hRR := hRR.no hE23
    have hX := hX.thenNo hE23
    have hout : OutQ Ws w23 q3 k3 out := by rw [hWs]; exact hout
    have hNs : N ≤ Ws.heap.size := by rw [hWs]; exact hKs
    refine wd_k I_ok 5 rfl (wd_sw (wb_nil (f_then (c_seq ?_))))
    refine c_draw rfl 14 [(0, true), (1, true), (2, true), (3, true), (4, true), (5, true), (6, true), (7, true), (8, false), (9, true), (10, true), (11, true), (12, true), (13, true)] [] (No) (by kernel_rfl) fun w24 hE24 hs24 => ?_
    have hd9 := hb9
    have hb7 := hb7.extNo hE24
    have hb9 := hb9.extNo hE24
    have hK := hK.no hE24
    have hRR := hRR.no hE24
    have hout := hout.extNo hE24
    have hX := hX.thenNo hE24
    have hC : Ext (No) _ w24 := hE24.no
    refine wd_ldN I_ok rfl rfl (fun w' hw' => (hd9.extNo hw').seg) rfl ?_
    refine wd_k I_ok 5 rfl (wd_sl I_ok rfl rfl 0 (ids.length / 2) ki 32 rfl (.inr ⟨rfl, rfl⟩) (.inl (congrArg some (half_eq (by omega)))) (.inr ⟨rfl, rfl⟩) (Nat.zero_le _) (by have := half_le ids.length; omega) (Nat.le_refl _) ?_)
    refine wd_put 100 rfl (v' := .slice qi (ids.take (ids.length / 2)).length ki) (by rw [slBase_zero, Nat.sub_zero, Nat.sub_zero, List.length_take, Nat.min_eq_left (half_le _)]) (wd_k I_ok 1 rfl ?_)
    refine wd_l rfl (st_call Tryz.call14 rfl rfl rfl rfl rfl rfl (send18_calls w24 (M := m) (L := ((ordR (toHp m) (ids ++ [id9U])[i]) ++ ids)) (H := (ids.take (ids.length / 2))) hK.now.1.2 hRR.now (by rw [hH2]; exact Sl.take32 hK.now.2.1 hiin hhl) hRi hHi (by omega) (by omega) most) fun v25 w25 hr25 => ⟨(by obtain ⟨qz, kz, want, rfl, hwe, hwx, hz, hzn, hE25⟩ := hr25; exact hC.thenNo hE25), ?_⟩)
    obtain ⟨qz, kz, want, rfl, hwe, hwx, hz, hzn, hE25⟩ := hr25
    have hb7 := hb7.extNo hE25
    have hb9 := hb9.extNo hE25
    have hK := hK.no hE25
    have hout := hout.extNo hE25
    have hX := hX.thenNo hE25
    have hC := hC.thenNo hE25
    have hfe : out.map Prod.fst = want.map Prod.fst := hoe.trans hwe.symm
    have hlw : out.length = want.length := by have := congrArg List.length hfe; rw [List.length_map, List.length_map] at this; exact this
    have hwa := sndX_at hwx
    refine wd_k I_ok 5 rfl (wd_sw (wb_nil (f_then (c_seq ?_))))
    refine c_cutK (α := Unit) [2, 7, 8, 9, 16, 17, 37, 38, 39] rfl (fun z => [(114, .bool false)]) (fun z u => (KS N u (fun u => (HpIn u q m ∧ HpIn u qw m) ∧ Sl u qi ids.length 32 (ids.flatMap bytesU) ∧ Sl u qa (ids ++ [id9U]).length 32 ((ids ++ [id9U]).flatMap bytesU)) ∧ OutQ Ws u q3 k3 out ∧ Own u qz want.length kz 48 73 (want.flatMap objX)) ∧ Blk u b7 26 ([.slice q m.length k]) ∧ Blk u b9 26 ([.slice qw m.length kw]) ∧ Ext No w u) ?_ ?_
    · refine c_region ?_
      refine wl_p I_ok rfl (wl_caseD 108 rfl (fun hg => ?_) (fun hg => ?_))
      · exact absurd rfl hg
      · refine wl_pk I_ok 6 rfl ?_
        refine wl_nil ?_
        exact f_cut (()) (by rw [hlw]; simp; rfl) ⟨⟨hK, hout, hz⟩, hb7, hb9, hX⟩
    rintro z w26 ⟨⟨hK, hout, hz⟩, hb7, hb9, hX⟩
    have hol2 : out.length ≤ ((ordR (toHp m) (ids ++ [id9U])[i]) ++ ids).length := by
      have h1 := congrArg List.length hoe
      rw [List.length_map] at h1
      have h2 := sendO_len (toHp m) (lackU ((ordR (toHp m) (ids ++ [id9U])[i]) ++ ids) (ids.take (ids.length / 2))) most
      have h3 := lackU_len ((ordR (toHp m) (ids ++ [id9U])[i]) ++ ids) (ids.take (ids.length / 2))
      omega
    have hoI := hout.ins
    have hap0 := hout.ap
    have hge0 : ∀ x, OutB q3 out x → N ≤ x := fun x hx => Nat.le_trans hNs (hout.ge x hx)
    have hwI : ∀ x ∈ want, ObjIn x.1 := fun x hx => by obtain ⟨y, hy⟩ := hwa x hx; rw [hy]; exact hK.now.1.1.objIn y
    refine c_condF rfl (c_skip (f_then (c_seq (c_region (wl_p I_ok rfl (wl_nil (f_then (c_block ?_))))))))
    refine c_loopK (α := Nat) [2, 7, 8, 9, 16, 17, 37, 38, 39, 116] rfl (fun z => [(117, .int .i64 (z : Int))]) (fun z u => (z ≤ out.length ∧ KS N u (fun u => (HpIn u q m ∧ HpIn u qw m) ∧ Sl u qi ids.length 32 (ids.flatMap bytesU) ∧ Sl u qa (ids ++ [id9U]).length 32 ((ids ++ [id9U]).flatMap bytesU)) ∧ Own u q3 out.length k3 48 73 (out.flatMap objX) ∧ Own u qz want.length kz 48 73 (want.flatMap objX) ∧ (∀ x ∈ out.drop (z), ObjNew Ws u x.1 x.2)) ∧ Blk u b7 26 ([.slice q m.length k]) ∧ Blk u b9 26 ([.slice qw m.length kw]) ∧ Ext No w u) (fun z u => out.length - z) (0) rfl ⟨⟨Nat.zero_le _, hK, hout.own, hz, fun x hx => hout.new x (by simpa using hx)⟩, hb7, hb9, hX⟩ ?_
    rintro j w27 ⟨⟨hj, hK, h3, hz, hrs⟩, hb7, hb9, hX⟩
    refine c_seq (c_region (wl_p I_ok rfl (wl_nil (f_then (c_seq (c_if rfl (fun hc => ?_) (fun hc => ?_)))))))
    · have hj2 : j < out.length := by omega
      have hj3 : j < want.length := by omega
      have hoi := (hoI _ (List.getElem_mem hj2)).1
      have hos := (hoI _ (List.getElem_mem hj2)).2
      have hlv := hos.leaves
      have hpv := hos.parents
      have hwi := hwI _ (List.getElem_mem hj3)
      obtain ⟨sb, so, hsq, _⟩ := h3.sl.rowAll (objX_len fun x hx => (hoI x hx).1) (by omega)
      obtain ⟨zb, zo, hzq, _⟩ := hz.sl.rowAll (objX_len hwI) (by omega)
      refine wc_put 16 rfl (v' := .slice (some ⟨sb, so, none⟩) out.length k3) (by rw [hsq]) (wc_put 17 rfl (v' := .slice (some ⟨zb, zo, none⟩) want.length kz) (by rw [hzq]) (c_skip (f_then (c_seq (c_block (c_seq (c_region (wl_p I_ok rfl ?_))))))))
      refine wl_nil (f_then (c_seq (c_seq (c_draw rfl 10 [(0, true), (1, true), (2, true), (3, true), (4, true), (5, true), (6, true), (7, true), (8, false), (9, true)] [] (No) (by kernel_rfl) fun w28 hE28 hs28 => ?_))))
      have hzd := hz
      have h3d := h3
      have hb7 := hb7.extNo hE28
      have hb9 := hb9.extNo hE28
      have hK := hK.no hE28
      have hz := hz.ext hE28 fun _ _ => id
      have h3 := h3.ext hE28 fun _ _ => id
      have hrs := fun x hx => (hrs x hx).extNo hE28
      have hX := hX.thenNo hE28
      have hC : Ext (No) _ w28 := hE28.no
      have hs1 := objs_at h3d (fun x hx => (hoI x hx).1) hsq hj2
      have hz1 := objs_at hzd hwI hzq hj3
      refine wd_k I_ok 2 rfl (wd_ix I_ok rfl rfl 73 rfl j rfl hj2 (so + j * 73) rfl (wd_ldN I_ok rfl rfl (fun w' hw' => (hs1.extNo hw')) (objC_len hoi) ?_))
      refine wd_k I_ok 2 rfl (wd_ix I_ok rfl rfl 73 rfl j rfl hj3 (zo + j * 73) rfl (wd_ldN I_ok rfl rfl (fun w' hw' => (hz1.extNo hw')) (objC_len hwi) ?_))
      refine wd_l rfl (st_call Tryz.call15 rfl rfl rfl rfl rfl rfl (same6_calls w28 hoi hwi (hrs _ (by rw [List.drop_eq_getElem_cons hj2]; exact List.mem_cons_self)).l (by obtain ⟨y, hy⟩ := hwa _ (List.getElem_mem hj3); rw [hy]; exact hK.now.1.1.objL y) hos) fun v29 w29 hr29 => ⟨(by obtain ⟨rfl, hE29⟩ := hr29; exact hC.thenNo hE29), ?_⟩)
      obtain ⟨rfl, hE29⟩ := hr29
      have hb7 := hb7.extNo hE29
      have hb9 := hb9.extNo hE29
      have hK := hK.no hE29
      have hz := hz.ext hE29 fun _ _ => id
      have h3 := h3.ext hE29 fun _ _ => id
      have hrs := fun x hx => (hrs x hx).extNo hE29
      have hX := hX.thenNo hE29
      rw [show decide (out[j].1 = want[j].1) = true from decide_eq_true (fst_at hfe hj2 hj3)]
      refine wd_k I_ok 1 rfl (wd_sw (wb_nil (f_then (c_condF rfl (c_skip (f_then (c_seq (c_seq (c_region (wl_p I_ok rfl ?_))))))))))
      have hNj := hrs out[j] (by rw [List.drop_eq_getElem_cons hj2]; exact List.mem_cons_self)
      have hlx : OwnX w29 out[j].2.lp out[j].1.leaves.length out[j].2.lc 50 33 := ⟨_, hNj.ol⟩
      have hpx : OwnX w29 out[j].2.pp out[j].1.parents.length out[j].2.pc 31 32 := ⟨_, hNj.op⟩
      have hrs : (∀ x ∈ out.drop (j + 1), ObjNew Ws w29 x.1 x.2) := fun x hx => hrs x (by rw [List.drop_eq_getElem_cons hj2]; exact List.mem_cons_of_mem _ hx)
      have hap := ap_rest hap0 hj2
      refine wl (st_ix I_ok rfl 73 rfl j rfl hj2 (so + j * 73) rfl (wl_p I_ok rfl (wl (st_ld I_ok rfl ((objs_at h3 (fun x hx => (hoI x hx).1) hsq hj2).obj hoi).leaves ?_))))
      refine wl_p I_ok rfl (wl_nil (f_then (c_block ?_)))
      refine c_loopK (α := Nat) [2, 7, 8, 9, 16, 17, 18, 37, 38, 39, 116, 117, 135] rfl (fun z => [(136, .int .i64 (z : Int))]) (fun z u => (z ≤ out[j].1.leaves.length ∧ KS N u (fun u => (HpIn u q m ∧ HpIn u qw m) ∧ Sl u qi ids.length 32 (ids.flatMap bytesU) ∧ Sl u qa (ids ++ [id9U]).length 32 ((ids ++ [id9U]).flatMap bytesU)) ∧ Own u q3 out.length k3 48 73 (out.flatMap objX) ∧ Own u qz want.length kz 48 73 (want.flatMap objX) ∧ (∀ x ∈ out.drop (j + 1), ObjNew Ws u x.1 x.2) ∧ OwnX u out[j].2.lp out[j].1.leaves.length out[j].2.lc 50 33 ∧ OwnX u out[j].2.pp out[j].1.parents.length out[j].2.pc 31 32) ∧ Blk u b7 26 ([.slice q m.length k]) ∧ Blk u b9 26 ([.slice qw m.length kw]) ∧ Ext No w u) (fun z u => out[j].1.leaves.length - z) (0) rfl ⟨⟨Nat.zero_le _, hK, h3, hz, hrs, hlx, hpx⟩, hb7, hb9, hX⟩ ?_
      rintro t w30 ⟨⟨ht, hK, h3, hz, hrs, hlx, hpx⟩, hb7, hb9, hX⟩
      refine c_seq (c_region (wl_p I_ok rfl (wl_nil (f_then (c_seq (c_if rfl (fun hc => ?_) (fun hc => ?_)))))))
      · have ht2 : t < out[j].1.leaves.length := by omega
        obtain ⟨xs, hxs⟩ := hlx
        obtain ⟨bl, LL, hpe, hbl, hL, hnc, hcm, htk⟩ := hxs.opened (by omega)
        have hblN : N ≤ bl := hge0 bl (.inr ⟨out[j], List.getElem_mem hj2, .inl hpe⟩)
        refine c_skip (f_then (c_seq (c_block (c_seq (c_region (wl_p I_ok rfl (wl_nil (f_then (c_region (wl_p I_ok rfl (wl (st_ix I_ok rfl 73 rfl j rfl hj2 (so + j * 73) rfl (wl_p I_ok rfl ?_)))))))))))))
        refine wl (st_ld I_ok rfl ((objs_at h3 (fun x hx => (hoI x hx).1) hsq hj2).obj hoi).leaves ?_)
        refine wl_put 143 rfl (v' := .slice (some ⟨bl, 0, none⟩) out[j].1.leaves.length out[j].2.lc) (by rw [hpe]) (wl_p I_ok rfl (wl (st_ix I_ok rfl 33 rfl t rfl ht2 (0 + t * 33) rfl ?_)))
        rw [Nat.zero_add]
        refine wl_p I_ok rfl ?_
        have hblo := hbl
        have hXo := hX
        refine wl (st_set I_ok hbl rfl rfl (by rw [hL]; have := Nat.mul_le_mul_right 33 hnc; omega) fun w31 hbl hE31 hs31 => ?_)
        have hX := hXo.thenNew hE31 (by omega)
        have hb7 := hb7.ext1 hE31 (hb7.ne hblo (by decide))
        have hb9 := hb9.ext1 hE31 (hb9.ne hblo (by decide))
        have hK := hK.one hE31 hblN
        have h3 := h3.extTy hE31 hblo (by decide)
        have hz := hz.extTy hE31 hblo (by decide)
        have hrs : (∀ x ∈ out.drop (j + 1), ObjNew Ws w31 x.1 x.2) := fun x hx => (hrs x hx).extS hE31 fun b hb e => hap x hx b hb (.inl (by rw [hpe, show b = bl from e]))
        have hpx : OwnX w31 out[j].2.pp out[j].1.parents.length out[j].2.pc 31 32 := by obtain ⟨ys, hy⟩ := hpx; exact ⟨ys, hy.extTy hE31 hblo (by decide)⟩
        have hlx : OwnX w31 out[j].2.lp out[j].1.leaves.length out[j].2.lc 50 33 := ⟨_, by rw [hpe]; exact Own.setB hL hnc hcm htk hbl⟩
        refine wl_nil (f_blockN (f_then (c_region (wl_p I_ok rfl ?_))))
        rw [IntWalk.i64_in _ (by omega)]
        refine wl_nil ?_
        exact f_round (t + 1) rfl ⟨⟨ht2, hK, h3, hz, hrs, hlx, hpx⟩, hb7, hb9, hX⟩ (by first | omega | (dsimp only; omega))
      · refine c_exit ?_
        refine f_thenE (f_thenE (f_blockE (f_then (c_seq (c_region (wl_p I_ok rfl (wl (st_ix I_ok rfl 73 rfl j rfl hj2 (so + j * 73) rfl (wl_p I_ok rfl (wl (st_ld I_ok rfl ((objs_at h3 (fun x hx => (hoI x hx).1) hsq hj2).obj hoi).parents ?_)))))))))))
        refine wl_p I_ok rfl (wl_nil (f_then (c_block ?_)))
        refine c_loopK (α := Nat) [2, 7, 8, 9, 16, 17, 18, 37, 38, 39, 116, 117, 153] rfl (fun z => [(154, .int .i64 (z : Int))]) (fun z u => (z ≤ out[j].1.parents.length ∧ KS N u (fun u => (HpIn u q m ∧ HpIn u qw m) ∧ Sl u qi ids.length 32 (ids.flatMap bytesU) ∧ Sl u qa (ids ++ [id9U]).length 32 ((ids ++ [id9U]).flatMap bytesU)) ∧ Own u q3 out.length k3 48 73 (out.flatMap objX) ∧ Own u qz want.length kz 48 73 (want.flatMap objX) ∧ (∀ x ∈ out.drop (j + 1), ObjNew Ws u x.1 x.2) ∧ OwnX u out[j].2.pp out[j].1.parents.length out[j].2.pc 31 32) ∧ Blk u b7 26 ([.slice q m.length k]) ∧ Blk u b9 26 ([.slice qw m.length kw]) ∧ Ext No w u) (fun z u => out[j].1.parents.length - z) (0) rfl ⟨⟨Nat.zero_le _, hK, h3, hz, hrs, hpx⟩, hb7, hb9, hX⟩ ?_
        rintro t w32 ⟨⟨ht, hK, h3, hz, hrs, hpx⟩, hb7, hb9, hX⟩
        refine c_seq (c_region (wl_p I_ok rfl (wl_nil (f_then (c_seq (c_if rfl (fun hc => ?_) (fun hc => ?_)))))))
        · have ht2 : t < out[j].1.parents.length := by omega
          obtain ⟨xs, hxs⟩ := hpx
          obtain ⟨bl, LL, hpe, hbl, hL, hnc, hcm, htk⟩ := hxs.opened (by omega)
          have hblN : N ≤ bl := hge0 bl (.inr ⟨out[j], List.getElem_mem hj2, .inr (.inl hpe)⟩)
          refine c_skip (f_then (c_seq (c_block (c_seq (c_region (wl_p I_ok rfl (wl_nil (f_then (c_region (wl_p I_ok rfl (wl (st_ix I_ok rfl 73 rfl j rfl hj2 (so + j * 73) rfl (wl_p I_ok rfl ?_)))))))))))))
          refine wl (st_ld I_ok rfl ((objs_at h3 (fun x hx => (hoI x hx).1) hsq hj2).obj hoi).parents ?_)
          refine wl_put 161 rfl (v' := .slice (some ⟨bl, 0, none⟩) out[j].1.parents.length out[j].2.pc) (by rw [hpe]) (wl_p I_ok rfl (wl (st_bd I_ok rfl trivial (l' := bytesU idZ) idZ_c.symm (wl (st_ix I_ok rfl 32 rfl t rfl ht2 (0 + t * 32) rfl ?_)))))
          rw [Nat.zero_add]
          have hblo := hbl
          have hXo := hX
          refine wl (st_stN I_ok hbl rfl (by rw [cellsOf_agg]; rfl) (by show t * 32 + 32 ≤ _; rw [hL]; have := Nat.mul_le_mul_right 32 hnc; omega) (by rw [cellsOf_agg]; exact OneC.h) fun w33 hbl hE33 hs33 => ?_)
          have hX := hXo.thenNew hE33 (by omega)
          have hb7 := hb7.ext1 hE33 (hb7.ne hblo (by decide))
          have hb9 := hb9.ext1 hE33 (hb9.ne hblo (by decide))
          have hK := hK.one hE33 hblN
          have h3 := h3.extTy hE33 hblo (by decide)
          have hz := hz.extTy hE33 hblo (by decide)
          have hrs : (∀ x ∈ out.drop (j + 1), ObjNew Ws w33 x.1 x.2) := fun x hx => (hrs x hx).extS hE33 fun b hb e => hap x hx b hb (.inr (.inl (by rw [hpe, show b = bl from e])))
          skip
          have hpx : OwnX w33 out[j].2.pp out[j].1.parents.length out[j].2.pc 31 32 := ⟨_, by rw [hpe]; exact Own.putB hL hnc hcm htk (by rw [cellsOf_agg, bytesU_len]; show t * 32 + 32 ≤ _; omega) hbl⟩
          refine wl_nil (f_blockN (f_then (c_region (wl_p I_ok rfl ?_))))
          rw [IntWalk.i64_in _ (by omega)]
          refine wl_nil ?_
          exact f_round (t + 1) rfl ⟨⟨ht2, hK, h3, hz, hrs, hpx⟩, hb7, hb9, hX⟩ (by first | omega | (dsimp only; omega))
        · refine c_exit ?_
          refine f_thenE (f_thenE (f_blockE (f_blockN (f_then (c_region (wl_p I_ok rfl ?_))))))
          rw [IntWalk.i64_in _ (by omega)]
          refine wl_nil (fin_put 16 rfl (v' := .slice q3 out.length k3) (by rw [hsq]) (fin_put 17 rfl (v' := .slice qz want.length kz) (by rw [hzq]) ?_))
          exact f_round (j + 1) rfl ⟨⟨hj2, hK, h3, hz, hrs⟩, hb7, hb9, hX⟩ (by first | omega | (dsimp only; omega))
    · refine c_exit ?_
      refine f_thenE (f_thenE (f_blockE (f_blockN (f_then (c_region (wl_p I_ok rfl ?_))))))
      rw [IntWalk.i64_in _ (by omega)]
      refine wl_nil (fin_put 37 rfl (v' := .slice qa (ids ++ [id9U]).length ka) (by rw [haq]) ?_)
      exact f_round (i + 1) rfl ⟨⟨hal, hK⟩, hb7, hb9, hX⟩ (by first | omega | (dsimp only; omega))
  · refine c_exit ?_
    refine f_thenE (f_thenE (f_blockE (f_then (c_seq (c_region (wl (st_ldB I_ok hb7 rfl rfl (wl (st_ldB I_ok hb9 rfl rfl (wl (st_call Tryz.call16 rfl rfl rfl rfl rfl rfl (sameHeap_calls w11 hK.now.1.1 hK.now.1.2) fun v34 w34 hr34 => ?_)))))))))))
    obtain ⟨rfl, hE34⟩ := hr34
    have hX := hX.thenNo hE34
    rw [show decide ((toHp m) = (toHp m)) = true from decide_eq_true rfl]
    refine wl_p I_ok rfl (wl_nil (f_then (c_ret (f_ret1 rfl rfl ?_))))
    exact ⟨rfl, hX⟩
end Go.Proofs.YtpcdihkcenfgkaaGreat
namespace Go.Proofs.YtpcdihkcenfgkaaGreat
open Go.Vc Go.ChangeShapes Go.WideShapes Go.ChangeAt Go.RowKit
theorem own : ownKnob Tryz.prog.godebug = none := by kernel_rfl

set_option maxRecDepth 100000 in
theorem orders_lifted (os : Os) (started : os.Started) (H : Type) (enc : TypeId × Value → H) :
    ReturnsInHanded {} Tryz.checked os 3 .any (Rows.uploadOrdersSpec.pre6 enc Tryz.prog Tryz.f3 Rows.uploadOrdersRow.domain false) (Rows.uploadOrdersSpec.post enc Tryz.prog Tryz.f3 false true false false) := by
  refine returnsInHanded_of_change (C := Tryz.checked) own started (by kernel_rfl) Tryz.func3
    (ChangeSpec.witness6 (enc := enc) (C := Tryz.checked) false ⟨#[], #[.slice none 0 0, .int .i64 0, .int .i64 0], []⟩ 40 (by kernel_rfl) (by kernel_rfl) (by kernel_rfl) (by kernel_rfl)) ?_
  intro W base args ds gs before hval0 hW hcnd _
  have hval : ∀ (j : Nat) t v, Tryz.f3.params[j]? = some t → args[j]? = some v → Value.okWide Tryz.prog W .any base t v := hval0
  have hW' := hW
  obtain ⟨p, q, hA0, hV, rfl, hfz, hnd⟩ := hW
  have hA : DataW.TrodAll enc Tryz.prog W 0 (fun _ => true) true Tryz.f3.params.toList args.toList ds p := hA0
  rw [Tryz.params3] at hA hval
  obtain ⟨v0, vs0, d0, ds0, p0, q0, hargs, rfl, rfl, h0, r0⟩ := trodAll_cons hA
  obtain ⟨v1, vs1, d1, ds1, p1, q1, rfl, rfl, rfl, h1, r1⟩ := trodAll_cons r0
  obtain ⟨v2, vs2, d2, ds2, p2, q2, rfl, rfl, rfl, h2, r2⟩ := trodAll_cons r1
  obtain ⟨rfl, rfl, rfl⟩ := trodAll_nil r2
  obtain rfl : args = #[v0, v1, v2] := by cases args; simp_all
  obtain ⟨rfl, rfl⟩ := trodVars_none hV
  have w0 := hval 0 22 v0 rfl rfl
  have w1 := hval 1 3 v1 rfl rfl
  have w2 := hval 2 3 v2 rfl rfl
  obtain ⟨k0, h0⟩ := h0
  obtain ⟨k1, h1⟩ := h1
  obtain ⟨k2, h2⟩ := h2
  obtain ⟨a0, len0, cap0, rfl⟩ := okWide_slice Tryz.underlying22 w0
  obtain ⟨ps, steps, cs, e0, g1, g2, hs, hsi, _⟩ := open_list (cells := stepC) (ok := StepIn W) Tryz.underlying22 (by kernel_rfl : Tryz.prog.cellsOf 79 = 3) (by decide) (fun h => open_step h) h0
  obtain ⟨n1, rfl⟩ := okWide_int Tryz.underlying3 w1
  obtain ⟨n2, rfl⟩ := okWide_int Tryz.underlying3 w2
  simp only [Value.cells, List.cons.injEq, and_true, Value.slice.injEq] at e0
  obtain ⟨rfl, rfl, rfl⟩ := e0
  clear hA0 hval0
  simp only [List.append_nil] at hW'
  refine Calls.mono (uploadOrders_calls W hs hsi (ml_lt (Nat.le_trans g1 g2)) n1 n2) fun e W' he => ?_
  cases e with
  | returned v =>
    obtain ⟨rfl, hE⟩ : v = .bool true ∧ Ext No W W' := he
    refine ⟨_, rfl, post_true (by kernel_rfl) (by kernel_rfl) (by kernel_rfl) hW' rfl (by kernel_rfl) (by kernel_rfl) Tryz.underlying4 rfl rfl rfl hE⟩
  | panicked _ => exact he.elim
  | outgrown => exact he.elim
theorem orders_holds : Rows.UploadOrdersSaid :=
  OpenClaim.holds_of_wide 3 Tryz.f3 rfl rfl rfl rfl rfl rfl rfl ⟨rfl, rfl, rfl, rfl, rfl⟩ rfl rfl rfl rfl rfl (by kernel_rfl) Tryz.func3 (by kernel_rfl)
    (of_decide_eq_true (by kernel_rfl)) (by unfold Func.isWrapper; first | (rw [if_pos (by decide +kernel)]; kernel_rfl) | (rw [if_neg (by decide +kernel)]; exact ⟨rfl, rfl⟩))
    (fun os started H enc _ => orders_lifted os started H enc)

end Go.Proofs.YtpcdihkcenfgkaaGreat
