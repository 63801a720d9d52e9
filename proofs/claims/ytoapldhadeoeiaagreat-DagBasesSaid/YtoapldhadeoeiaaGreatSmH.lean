/-
  DagBasesSaid of package dag, walked
-/
import Derived.Test.YtoapldhadeoeiaaGreatRows
import Derived.ProofKit
import Derived.Test.YtoapldhadeoeiaaGreatSmG
namespace Go.Vc
section
variable {P : Program} {I : Info} {f : Fs} {ops : Array Oper} {o : Oper} {env : Env} {w : World} {K : Env → World → Prop}
/-- append where there is room -/
theorem run_appIn (hI : I.Ok P) {t t2 ty e : Nat} {y y2 g : TI} (hy : lkT I t = some y) (he : y.desc = .slice e) (hg : lkT I e = some g) (hy2 : lkT I t2 = some y2) (hd2 : (∃ e2, y2.desc = .slice e2) ∨ y2.desc = .string)
  {p : Option Addr} {n c : Nat} {xs : List Value} (hown : Own w p n c e g.size xs) {x : Value} {m : Nat} {news : List Value} (hsrc : Src P w g.size x m news)
  (hfit : n + m ≤ c) :
  ∃ w', (Builtin.append_ #[t, t2] ty #[.slice p n c, x]).run P w = .ok (.slice p (n + m) c) w' ∧ Own w' p (n + m) c e g.size (xs ++ news) ∧ Ext (OwnB p) w w' := by
 have hu := (hI.get hy).under w
 rw [he] at hu
 have hs := (hI.get hg).sizeOf w
 have hu2 := (hI.get hy2).under w
 obtain ⟨i, hi, i1, i2, i3⟩ := TI.Ok.info (hI.get hg)
 have hcap := hown.cap
 have hxl := hown.len
 have hlen := hsrc.1
 unfold Builtin.append_
 simp only [List.getElem?_toArray, List.getElem?_cons_zero, List.getElem?_cons_succ]
 rw [run_under_bind hu]
 simp only []
 rw [Sem.run_bind, hs, Result.andThen_ok]
 rw [run_under_bind hu2]
 rcases hd2 with ⟨e2, h2⟩ | h2 <;> rw [h2] <;> simp only [pure_bind, Bool.false_eq_true, if_false, Bool.not_false, if_true, hlen]
 all_goals
  ·rw [if_pos hfit]
   simp only [Sem.run_bind, hsrc.cells (fun _ => rfl), Result.andThen_ok]
   rcases hown with ⟨rfl, rfl, rfl, rfl⟩ | ⟨b, l, rfl, hblk, hl, hn, hcm, htk⟩
   ·have hm0 : m = 0 := by omega
    subst hm0
    have : news = [] := by have := hsrc.2.1; simpa using this
    subst this
    exact ⟨w, by simp, .inl ⟨rfl, rfl, rfl, rfl⟩, Ext.refl _ _⟩
   ·have hroom : n * g.size + news.length ≤ l.length := by
     rw [hsrc.2.1, hl, ← Nat.add_mul]; exact Nat.mul_le_mul_right _ hfit
    obtain ⟨w', hr, hb', hE, hsz⟩ := run_storeCells_blk (P := P) news w l (n * g.size) 0 hblk (by omega) hsrc.2.2.1
    refine ⟨w', ?_, .inr ⟨b, _, rfl, hb', by rw [put_length, hl], hfit, hcm, ?_⟩, hE.mono ?_⟩
    ·have ha : (⟨b, 0, none⟩ : Addr).add (n * g.size) = ⟨b, n * g.size, none⟩ := by rw [addr_add, Nat.zero_add]
     simp only [ha, Sem.run_bind, hr, Result.andThen_ok, Sem.run_pure]
    ·rw [Nat.add_zero, put_eq _ _ _ hroom, htk, Nat.add_mul, ← hsrc.2.1]
     rw [show n * g.size + news.length = (xs ++ news).length from by simp [hxl]]
     rw [List.take_left]
    ·intro x _ hx
     subst hx
     rfl
/-- append, told in two ways: in place, or a new row -/
theorem st_appC (hI : I.Ok P) {s : AppArgs} (h : appE I f.n ops env o = some s) (sz by_ : Nat) (hsz : s.g.size = sz) (hby : s.g.bytes = by_) (hz : (cellsOf s.g.zero).length = sz) (hz0 : 0 < sz) {xs : List Value} (hown : Own w s.p s.n s.c s.e sz xs) {m : Nat} {news : List Value} (hsrc : Src P w sz s.x m news)
  (hm : s.n + m ≤ maxLen) (hb : (s.n + m) * by_ ≤ 140737488355328)
  (k : ∀ p' c' w', Own w' p' (s.n + m) c' s.e sz (xs ++ news) → (s.n + m ≤ s.c ∧ p' = s.p ∧ c' = s.c ∧ Ext (OwnB s.p) w w' ∨ s.c < s.n + m ∧ Ext No w w' ∧ ∀ b, OwnB p' b → w.heap.size ≤ b) → K ((s.d, .slice p' (s.n + m) c') :: env) w') : St P f ops o env w K := by
 subst hsz
 subst hby
 unfold appE at h
 split at h
 ·cases h
 ·rename_i hp
  obtain ⟨e1, e2⟩ := pre_eq hp
  split at h
  ·rename_i d' hd
   split at h
   ·rename_i xs' ts ho
    split at h
    ·rename_i sx xx hxs
     have hx1 : xs' = #[sx, xx] := by apply Array.ext'; simpa using hxs
     subst hx1
     split at h
     ·rename_i t t2 hts
      have ht1 : ts = #[t, t2] := by apply Array.ext'; simpa using hts
      subst ht1
      split at h
      ·rename_i y hy
       split at h
       ·rename_i e he
        split at h
        ·rename_i g hg
         split at h
         ·rename_i y2 hy2
          split at h
          ·rename_i hss
           split at h
           ·rename_i p n c hs
            split at h
            ·rename_i v hv
             cases h
             simp only at *
             obtain ⟨p', c', w', hr, hown', hC⟩ : ∃ p' c' w', (Builtin.append_ #[t, t2] o.type #[.slice p n c, v]).run P w = .ok (.slice p' (n + m) c') w' ∧ Own w' p' (n + m) c' e g.size (xs ++ news) ∧ (n + m ≤ c ∧ p' = p ∧ c' = c ∧ Ext (OwnB p) w w' ∨ c < n + m ∧ Ext No w w' ∧ ∀ b, OwnB p' b → w.heap.size ≤ b) := by
              by_cases hfit : n + m ≤ c
              ·obtain ⟨w', h1, h2, h3⟩ := run_appIn (P := P) (ty := o.type) hI hy he hg hy2 (slOrStr_eq hss) hown hsrc hfit
               exact ⟨p, c, w', h1, h2, .inl ⟨hfit, rfl, rfl, h3⟩⟩
              ·obtain ⟨c', w', h1, h2, h3⟩ := run_appG (P := P) (ty := o.type) (c := c) hI hy he hg hy2 (slOrStr_eq hss) hz hz0 hown.sl hsrc hm hb (Nat.lt_of_not_le hfit)
               exact ⟨_, c', w', h1, h2, .inr ⟨Nat.lt_of_not_le hfit, h3, fun b hb => Nat.le_of_eq (congrArg Addr.block (Option.some.inj hb))⟩⟩
             refine st_v e1 e2 (v := .slice p' (n + m) c') (w' := w') (fun ρ hρ => ?_) (by rw [hd]; exact k p' c' w' hown' hC)
             have em : Array.map ρ #[sx, xx] = #[.slice p n c, v] := by simp [hρ _ _ hs, hρ _ _ hv]
             simp only [execOp, ho, resolve, Sem.run_bind, Sem.run_pure, Result.andThen_ok, invoke, builtin, em, hr]
            ·cases h
           ·cases h
          ·cases h
         ·cases h
        ·cases h
       ·cases h
      ·cases h
     ·cases h
    ·cases h
   ·cases h
  ·cases h

end
end Go.Vc
namespace Go.Proofs.YtoapldhadeoeiaaGreat
open Go.Vc
/-- it holds, and goes on to hold as long as only S and what is newer turns -/
structure KT (S : Nat → Prop) (N : Nat) (w : World) (P : World → Prop) : Prop where
  n : N ≤ w.heap.size
  st : Stb (fun x => S x ∨ N ≤ x) w P
theorem KT.now {S : Nat → Prop} {N : Nat} {w : World} {P : World → Prop} (h : KT S N w P) : P w := h.st.now
theorem KT.ext {S : Nat → Prop} {N : Nat} {w w' : World} {P : World → Prop} (h : KT S N w P) {T : Nat → Prop} (hE : Ext T w w') (hT : ∀ x, x < w.heap.size → T x → S x ∨ N ≤ x) : KT S N w' P := ⟨Nat.le_trans h.n hE.size, h.st.step hE hT fun _ _ k => k⟩
theorem KT.no {S : Nat → Prop} {N : Nat} {w w' : World} {P : World → Prop} (h : KT S N w P) (hE : Ext No w w') : KT S N w' P := h.ext hE fun _ _ k => k.elim
theorem KT.one {S : Nat → Prop} {N b : Nat} {w w' : World} {P : World → Prop} (h : KT S N w P) (hE : Ext (One b) w w') (hb : N ≤ b) : KT S N w' P := h.ext hE fun x _ e => by have e : x = b := e; exact .inr (by omega)
theorem KT.own {S : Nat → Prop} {N : Nat} {w w' : World} {P : World → Prop} (h : KT S N w P) (hE : Ext S w w') : KT S N w' P := h.ext hE fun _ _ k => .inl k
theorem KT.sub {S S' : Nat → Prop} {N N' : Nat} {w : World} {P : World → Prop} (h : KT S N w P) (hn : N' ≤ w.heap.size) (hS : ∀ x, x < w.heap.size → S' x ∨ N' ≤ x → S x ∨ N ≤ x) : KT S' N' w P := ⟨hn, h.st.sub hS⟩
theorem KT.add {S : Nat → Prop} {N : Nat} {w : World} {P Q : World → Prop} (h : KT S N w P) (hQ : Stb S w Q) : KT S w.heap.size w (fun u => P u ∧ Q u) :=
 ⟨Nat.le_refl _, fun u hu => ⟨h.st u (hu.mono fun x hx k => k.elim .inl fun k => by omega), hQ u (hu.mono fun x hx k => k.elim id fun k => by omega)⟩⟩
theorem MadeQ.kt {W w : World} {q : Option Addr} {m : List HeldT} {qi : Option Addr} {ki : Nat} {ids : List IdB} (h : MadeQ W w q m qi ki ids) : KT (OwnB qi) w.heap.size w (fun u => HpIn u q m) :=
 ⟨Nat.le_refl _, h.hp.sub fun x hx k => k.elim id fun k => by omega⟩
/-- a copy stays as it is, whatever older things turn -/
theorem copy_stb {W0 w : World} {q : Option Addr} {k : Nat} {m : List HeldT} {S : Nat → Prop} (hh : HpIn w q m) (ho : Own w q m.length k 44 105 (m.flatMap heldC)) (hn : ∀ y, OwnB q y → W0.heap.size ≤ y) (hN : ∀ x ∈ m, HeldNew W0 w x) (hS : ∀ x, S x → x < W0.heap.size) : Stb S w fun u => HpIn u q m := fun u hu =>
 ⟨(ho.ext hu fun x hx k => by have := hn x hx; have := hS x k; omega).sl, fun y hy => (⟨(hN y hy).id, (hN y hy).o, (hN y hy).sh, ((hN y hy).l.extF hu fun x hx k => by have := (hN y hy).l.ge x hx; have := hS x k; omega)⟩ : HeldNew W0 u y).held, hh.len, hh.lk⟩
theorem own_take {w : World} {p : Option Addr} {n k c T sz : Nat} {xs ys : List Value} (h : Own w p (n + k) c T sz (xs ++ ys)) (hx : xs.length = n * sz) (hn : 0 < n + k) : Own w p n c T sz xs := by
 rcases h with ⟨_, h0, _⟩ | ⟨b, L, rfl, hb, hl, hnc, hcm, htk⟩
 ·omega
 ·refine .inr ⟨b, L, rfl, hb, hl, by omega, hcm, ?_⟩
  have := congrArg (List.take (n * sz)) htk
  rw [List.take_take, Nat.min_eq_left (Nat.mul_le_mul_right sz (by omega)), List.take_left' hx] at this
  exact this
theorem id9_build : putAll (bytesU idZ) [(0, 1, .int .u8 9)] = bytesU id9 := rfl
theorem dagBases_calls (w : World) {ps pt : Option Addr} {cs ct : Nat} {steps : List StepT} {turns : List TurnD} (hs : Sl w ps steps.length 3 (steps.flatMap stepC)) (hsi : ∀ s ∈ steps, StepIn w s) (hsl : steps.length < 9223372036854775808) (ht : Sl w pt turns.length 3 (turns.flatMap turnC)) (hti : ∀ t ∈ turns, TurnIn t) (htl : turns.length < 9223372036854775808) :
  CallsV Tryz.prog 3 [.agg #[.slice ps steps.length cs, .slice pt turns.length ct]] w fun v w' => v = .bool true ∧ Ext No w w' := by
 refine calls_enter Tryz.func3 rfl rfl rfl rfl ?_
 have hX := Ext.refl No w
 refine c_seq (c_region (wl (st_al I_ok rfl fun b1 w1 hn1 hb1 hE1 => ?_)))
 have fr1 := Nat.le_trans hX.size hn1
 have hX := hX.thenNo hE1
 have hb1 : Blk w1 b1 25 ([.slice ps steps.length cs, .slice pt turns.length ct]) := hb1
 refine wl_p I_ok rfl (wl_nil (f_then (c_seq (c_seq (c_region (wl (st_call Tryz.call8 rfl rfl rfl rfl rfl rfl (wakes_calls w1) fun v2 w2 hr2 => ?_)))))))
 obtain ⟨rfl, hE2⟩ := hr2
 have hb1 := hb1.extNo hE2
 have hX := hX.thenNo hE2
 refine wl_p I_ok rfl (wl_nil (f_then (c_condF rfl (c_skip (f_then (c_seq (c_region (wl (st_ldB I_ok hb1 rfl rfl ?_)))))))))
 have hX0 := hX
 refine wl (st_call Tryz.call9 rfl rfl rfl rfl rfl rfl (made_calls w2 (hs.extNo hX) (fun s h => (hsi s h).extNo hX) hsl (ht.extNo hX) hti htl) fun v3 w3 hr3 => ?_)
 obtain ⟨q, k, m, qi, ki, ids, rfl, hMQ, hMD, hE3⟩ := hr3
 have hb1 := hb1.extNo hE3
 have hX := hX.thenNo hE3
 have hqiW : ∀ y, OwnB qi y → w.heap.size ≤ y := fun y hy => Nat.le_trans hX0.size (hMQ.new y hy)
 have hT := hMQ.kt
 have hOI := hMQ.own
 have hml := hMQ.few
 have hil := hMQ.il
 have hiin := hMQ.iin
 have hqiL : ∀ x, OwnB qi x → x < w3.heap.size := fun x hx => hMQ.own.lt hx
 refine wl_p I_ok rfl ?_
 have hR0 := hT.n
 refine wl (st_al I_ok rfl fun b3 w4 hn3 hb3 hE4 => ?_)
 have ne1_3 : b1 ≠ b3 := Nat.ne_of_lt (Nat.lt_of_lt_of_le hb1.lt hn3)
 have fr3 := Nat.le_trans hX.size hn3
 have hb1 := hb1.extNo hE4
 have hT := hT.no hE4
 have hOI := hOI.ext hE4 fun _ _ => id
 have hX := hX.thenNo hE4
 have fN3 := Nat.le_trans hR0 hn3
 have hb3o := hb3
 refine wl (st_stW (l' := [.slice q m.length k]) I_ok hb3 rfl rfl rfl rfl OneC.h fun w5 hb3 hE5 hs5 => ?_)
 have hb1 := hb1.ext1 hE5 ne1_3
 have hT := hT.one hE5 fN3
 have hOI := hOI.extTy hE5 hb3o (by decide)
 have hX := hX.thenNew hE5 fr3
 refine wl_p I_ok rfl (wl_nil (f_then (c_seq (c_region (wl (st_ldB I_ok hb3 rfl rfl ?_))))))
 have hTn := hT.n
 obtain ⟨W5, eW5⟩ : ∃ W, W = w5 := ⟨_, rfl⟩
 have hW5 : w5.heap.size ≤ W5.heap.size := by rw [eW5]; exact Nat.le_refl _
 refine wl (st_call Tryz.call10 rfl rfl rfl rfl rfl rfl (copied_calls w5 hT.now) fun v6 w6 hr6 => ?_)
 obtain ⟨q5, k5, m5, rfl, hcp, ho5, hn5, hN5, hh5, hE6⟩ := hr6
 have hb1 := hb1.extNo hE6
 have hb3 := hb3.extNo hE6
 have hT := hT.no hE6
 have hOI := hOI.ext hE6 fun _ _ => id
 have hX := hX.thenNo hE6
 rw [← eW5] at hn5 hN5
 have hT := hT.add (copy_stb hh5 ho5 hn5 hN5 fun x k => by have := hqiL x k; omega)
 have hR0 := hT.n
 refine wl (st_al I_ok rfl fun b5 w7 hn5 hb5 hE7 => ?_)
 have ne1_5 : b1 ≠ b5 := Nat.ne_of_lt (Nat.lt_of_lt_of_le hb1.lt hn5)
 have ne3_5 : b3 ≠ b5 := Nat.ne_of_lt (Nat.lt_of_lt_of_le hb3.lt hn5)
 have fr5 := Nat.le_trans hX.size hn5
 have hb1 := hb1.extNo hE7
 have hb3 := hb3.extNo hE7
 have hT := hT.no hE7
 have hOI := hOI.ext hE7 fun _ _ => id
 have hX := hX.thenNo hE7
 have fN5 := Nat.le_trans hR0 hn5
 have hb5o := hb5
 refine wl (st_stW (l' := [.slice q5 m5.length k5]) I_ok hb5 rfl rfl rfl rfl OneC.h fun w8 hb5 hE8 hs8 => ?_)
 have hb1 := hb1.ext1 hE8 ne1_5
 have hb3 := hb3.ext1 hE8 ne3_5
 have hT := hT.one hE8 fN5
 have hOI := hOI.extTy hE8 hb5o (by decide)
 have hX := hX.thenNew hE8 fr5
 obtain ⟨N, hN⟩ : ∃ N, N = w8.heap.size := ⟨_, rfl⟩
 have hT := hT.sub (S' := OwnB qi) (N' := N) (by omega) (fun x hx k => k.elim .inl fun k => by omega)
 refine wl_nil (f_then ?_)
 refine c_cutK (α := List IdB × Option Addr × Nat) [3, 5] rfl (fun z => [(4, .slice z.2.1 z.1.length z.2.2)]) (fun z u => (((∀ y ∈ z.1, IdIn y) ∧ z.1.length ≤ 9 ∧ ∀ x, OwnB z.2.1 x → w.heap.size ≤ x) ∧ Own u z.2.1 z.1.length z.2.2 35 32 (z.1.flatMap bytesU) ∧ KT (OwnB z.2.1) N u (fun u => HpIn u q m ∧ HpIn u q5 m5)) ∧ Blk u b3 29 ([.slice q m.length k]) ∧ Blk u b5 29 ([.slice q5 m5.length k5]) ∧ Ext No w u) ?_ ?_
 ·refine c_seq ?_
  refine c_region (wl_p I_ok rfl (wl (st_ldb I_ok hb3 rfl rfl (wl_p I_ok rfl (wl_nil (f_then (c_if rfl (fun hc => ?_) (fun hc => ?_))))))))
  ·have hm0 : 0 < m.length := by omega
   obtain ⟨mb, mo, hmq, hmr⟩ := hT.now.1.sl.rowAll hT.now.1.c (by omega)
   have hmi := (hT.now.1.ins _ (List.getElem_mem hm0)).id
   have hm0r := held_id (hmr 0 hm0)
   refine c_region (wl_p I_ok rfl (wl (st_ldb I_ok hb3 rfl rfl (wl_put 34 rfl (v' := .slice (some ⟨mb, mo, none⟩) m.length k) (by rw [hmq]) (wl (st_ix I_ok rfl 105 rfl 0 rfl hm0 (mo + 0 * 105) rfl (wl_p I_ok rfl ?_)))))))
   refine wl (st_ldN I_ok rfl hm0r (IdIn.len hmi) ?_)
   refine wl (st_bs I_ok rfl 32 rfl idZ_c.symm (by rw [bytesU_len]; rfl) (by decide) (by decide) ⟨⟨by rw [cellsOf_agg]; exact (IdIn.len hmi), by decide⟩, trivial⟩ (l' := bytesU (m[0].id)) (one_id hmi) fun b38 w9 hn38 hb38 hE9 hs9 => ?_)
   have ne1_38 : b1 ≠ b38 := Nat.ne_of_lt (Nat.lt_of_lt_of_le hb1.lt hn38)
   have ne3_38 : b3 ≠ b38 := Nat.ne_of_lt (Nat.lt_of_lt_of_le hb3.lt hn38)
   have ne5_38 : b5 ≠ b38 := Nat.ne_of_lt (Nat.lt_of_lt_of_le hb5.lt hn38)
   have fr38 := Nat.le_trans hX.size hn38
   have hb1 := hb1.extNo hE9
   have hb3 := hb3.extNo hE9
   have hb5 := hb5.extNo hE9
   have hT := hT.no hE9
   have hOI := hOI.ext hE9 fun _ _ => id
   have hX := hX.thenNo hE9
   have hX1 := hX
   have hTn := hT.n
   refine wl (st_app I_ok rfl 32 32 rfl rfl rfl (by decide) hOI (Src.slice (m := 1) (one_idS hmi hb38) OneC.h) (by dsimp only [maxLen]; omega) (by dsimp only; omega) fun p10 c10 w10 ho10 hE10 hB10 => ?_)
   dsimp only at ho10 hE10 hB10 ⊢
   have hX := hX1.trans hE10 fun y hy hF => by have := hqiW y hF; omega
   have hb3 := hb3.extOwn hOI hE10 (by decide)
   have hb5 := hb5.extOwn hOI hE10 (by decide)
   have hT := hT.own hE10
   obtain ⟨qi2, ki2, e1, e2, hOI2⟩ : ∃ q2 k2, q2 = p10 ∧ k2 = c10 ∧ Own w10 q2 (ids ++ [m[0].id]).length k2 35 32 ((ids ++ [m[0].id]).flatMap bytesU) := ⟨_, _, rfl, rfl, by
    rw [List.flatMap_append, List.length_append, List.flatMap_singleton]
    exact ho10⟩
   rw [← e1] at hB10
   have hT := hT.sub (S' := OwnB qi2) (N' := N) hT.n (fun x hx k => k.elim (fun k => (hB10 x k).elim .inl fun k => .inr (by omega)) .inr)
   have hnw2 := newW hX1 hqiW hB10
   rw [← e1, ← e2, show ids.length + 1 = (ids ++ [m[0].id]).length from by rw [List.length_append]; rfl]
   refine wl_p I_ok rfl (wl_nil ?_)
   exact f_cut (ids ++ [m[0].id], qi2, ki2) rfl ⟨⟨⟨fun y hy => by rcases List.mem_append.1 hy with k | k; exact hiin y k; rw [List.mem_singleton.1 k]; exact hmi, by rw [List.length_append]; show ids.length + 1 ≤ 9; omega, hnw2⟩, hOI2, hT⟩, hb3, hb5, hX⟩
  ·refine c_skip ?_
   exact f_cut (ids, qi, ki) rfl ⟨⟨⟨hiin, by show ids.length ≤ 9; omega, hqiW⟩, hOI, hT⟩, hb3, hb5, hX⟩
 rintro ⟨ids2, qi2, ki2⟩ w11 ⟨⟨⟨hin2, hil2, hnw2⟩, hOI, hT⟩, hb3, hb5, hX⟩
 try dsimp only
 dsimp only at hin2 hil2 hnw2 hOI hT
 refine c_seq (c_seq (c_region (wl_p I_ok rfl (wl (st_bd I_ok rfl ⟨⟨rfl, by decide⟩, trivial⟩ (l' := bytesU id9) (by rw [← idZ_c]; exact id9_build) ?_)))))
 refine wl (st_bs I_ok rfl 32 rfl idZ_c.symm (by rw [bytesU_len]; rfl) (by decide) (by decide) ⟨⟨by rw [cellsOf_agg]; exact (IdIn.len id9_in), by decide⟩, trivial⟩ (l' := bytesU id9) (one_id id9_in) fun b42 w12 hn42 hb42 hE12 hs12 => ?_)
 have ne3_42 : b3 ≠ b42 := Nat.ne_of_lt (Nat.lt_of_lt_of_le hb3.lt hn42)
 have ne5_42 : b5 ≠ b42 := Nat.ne_of_lt (Nat.lt_of_lt_of_le hb5.lt hn42)
 have fr42 := Nat.le_trans hX.size hn42
 have hb3 := hb3.extNo hE12
 have hb5 := hb5.extNo hE12
 have hT := hT.no hE12
 have hOI := hOI.ext hE12 fun _ _ => id
 have hX := hX.thenNo hE12
 have hX1 := hX
 have hTn := hT.n
 have hOl := hOI.len
 have hOIq := hOI
 refine wl (st_appC I_ok rfl 32 32 rfl rfl rfl (by decide) hOI (Src.slice (m := 1) (one_idS id9_in hb42) OneC.h) (by dsimp only [maxLen]; omega) (by dsimp only; omega) fun p13 c13 w13 ho13 hC13 => ?_)
 dsimp only at ho13 hC13 ⊢
 obtain ⟨qa, ka, e1, e2, hOA0⟩ : ∃ q2 k2, q2 = p13 ∧ k2 = c13 ∧ Own w13 q2 (ids2 ++ [id9]).length k2 35 32 ((ids2 ++ [id9]).flatMap bytesU) := ⟨_, _, rfl, rfl, by
  rw [List.flatMap_append, List.length_append, List.flatMap_singleton]
  exact ho13⟩
 have hAl : (ids2 ++ [id9]).length = ids2.length + 1 := by rw [List.length_append]; rfl
 have hEo : Ext (OwnB qi2) w12 w13 := hC13.elim (fun k => k.2.2.2) fun k => k.2.1.no
 have hOI : Own w13 qi2 ids2.length ki2 35 32 (ids2.flatMap bytesU) := hC13.elim (fun k => by
   have h := ho13
   rw [k.2.1, k.2.2.1] at h
   exact own_take h hOl (by omega)) fun k => hOI.ext k.2.1 fun _ _ => id
 have hX := hX1.trans hEo fun y hy hF => by have := hnw2 y hF; omega
 have hb3 := hb3.ext hEo (fun k => by obtain ⟨L3, h3⟩ := hOIq.blkAt k; exact absurd (h3.uniq hb3).2 (by decide))
 have hb5 := hb5.ext hEo (fun k => by obtain ⟨L3, h3⟩ := hOIq.blkAt k; exact absurd (h3.uniq hb5).2 (by decide))
 have hT := hT.own hEo
 have hOA := hOA0.sl
 have hAs : (qa = qi2 ∧ True) ∨ ki2 < ids2.length + 1 := hC13.elim (fun k => .inl ⟨e1.trans k.2.1, trivial⟩) fun k => .inr k.1
 rw [← e1, ← e2, ← hAl]
 have hAin : ∀ y ∈ (ids2 ++ [id9]), IdIn y := fun y hy => by
  rcases List.mem_append.1 hy with k | k
  ·exact hin2 y k
  ·rw [List.mem_singleton.1 k]; exact id9_in
 obtain ⟨N2, hN2⟩ : ∃ N, N = w13.heap.size := ⟨_, rfl⟩
 have hT := hT.sub (S' := OwnB qi2) (N' := N2) (by omega) (fun x hx k => k.elim .inl fun k => by omega)
 have hqN : ∀ x, OwnB qi2 x → x < N2 := fun x hx => by rw [hN2]; exact hOI.lt hx
 have hqaN : ∀ b off, qa = some ⟨b, off, none⟩ → b < N2 := fun b off e => by rw [hN2]; exact sl_lt hOA (by omega) e
 have hNw : w.heap.size ≤ N2 := by rw [hN2]; exact hX.size
 refine wl_p I_ok rfl (wl_nil (f_then (c_block ?_)))
 refine c_loopK (α := Nat) [3, 4, 5, 43, 44] rfl (fun z => [(45, .int .i64 (z : Int))]) (fun z u => (z ≤ (ids2 ++ [id9]).length ∧ Own u qi2 ids2.length ki2 35 32 (ids2.flatMap bytesU) ∧ Sl u qa (ids2 ++ [id9]).length 32 ((ids2 ++ [id9]).flatMap bytesU) ∧ KT (OwnB qi2) N2 u (fun u => HpIn u q m ∧ HpIn u q5 m5)) ∧ Blk u b3 29 ([.slice q m.length k]) ∧ Blk u b5 29 ([.slice q5 m5.length k5]) ∧ Ext No w u) (fun z u => (ids2 ++ [id9]).length - z) (0) rfl ⟨⟨Nat.zero_le _, hOI, hOA, hT⟩, hb3, hb5, hX⟩ ?_
 rintro i w14 ⟨⟨hi, hOI, hOA, hT⟩, hb3, hb5, hX⟩
 refine c_seq (c_region (wl_p I_ok rfl (wl_nil (f_then (c_seq (c_if rfl (fun hc => ?_) (fun hc => ?_)))))))
 ·have hal : i < (ids2 ++ [id9]).length := by omega
  obtain ⟨ab, ao, haq, har⟩ := (hOA).rowAll (fun r hr => IdIn.len (hAin r hr)) (by omega)
  have hai : IdIn (ids2 ++ [id9])[i] := hAin _ (List.getElem_mem hal)
  refine wc_put 43 rfl (v' := .slice (some ⟨ab, ao, none⟩) (ids2 ++ [id9]).length ka) (by rw [haq]) (c_skip (f_then (c_seq (c_block (c_seq (c_region (wl (st_ix I_ok rfl 32 rfl i rfl (by omega) (ao + i * 32) rfl ?_))))))))
  refine wl (st_ldN I_ok rfl (har i hal) hai.len ?_)
  have hR0 := hT.n
  refine wl (st_al I_ok rfl fun b7 w15 hn7 hb7 hE15 => ?_)
  have ne3_7 : b3 ≠ b7 := Nat.ne_of_lt (Nat.lt_of_lt_of_le hb3.lt hn7)
  have ne5_7 : b5 ≠ b7 := Nat.ne_of_lt (Nat.lt_of_lt_of_le hb5.lt hn7)
  have fr7 := Nat.le_trans hX.size hn7
  have hb3 := hb3.extNo hE15
  have hb5 := hb5.extNo hE15
  have hT := hT.no hE15
  have hOI := hOI.ext hE15 fun _ _ => id
  have hOA := hOA.extNo hE15
  have hX := hX.thenNo hE15
  have fN7 := Nat.le_trans hR0 hn7
  refine wl (st_stW (l' := bytesU (ids2 ++ [id9])[i]) I_ok hb7 rfl rfl hai.len (by rw [bytesU_len, hai]; rfl) OneC.h fun w16 hb7 hE16 hs16 => ?_)
  have hb3 := hb3.ext1 hE16 ne3_7
  have hb5 := hb5.ext1 hE16 ne5_7
  have hT := hT.one hE16 fN7
  have hOI := hOI.ext hE16 (fun x hx e => by have e : x = b7 := e; have := hqN x hx; have := fN7; omega)
  have hOA := hOA.ext hE16 (fun b off hb e => by have e : b = b7 := e; have := hqaN b off hb; have := fN7; omega)
  have hX := hX.thenNew hE16 fr7
  refine wl_nil (f_then (c_seq (c_region (wl_p I_ok rfl (wl (st_bd I_ok rfl ⟨⟨rfl, by decide⟩, trivial⟩ (l' := bytesU id9) (by rw [← idZ_c]; exact id9_build) ?_))))))
  refine wl (st_bs I_ok rfl 32 rfl idZ_c.symm (by rw [bytesU_len]; rfl) (by decide) (by decide) ⟨⟨by rw [cellsOf_agg]; exact (IdIn.len id9_in), by decide⟩, trivial⟩ (l' := bytesU id9) (one_id id9_in) fun b51 w17 hn51 hb51 hE17 hs17 => ?_)
  have ne3_51 : b3 ≠ b51 := Nat.ne_of_lt (Nat.lt_of_lt_of_le hb3.lt hn51)
  have ne5_51 : b5 ≠ b51 := Nat.ne_of_lt (Nat.lt_of_lt_of_le hb5.lt hn51)
  have ne7_51 : b7 ≠ b51 := Nat.ne_of_lt (Nat.lt_of_lt_of_le hb7.lt hn51)
  have fr51 := Nat.le_trans hX.size hn51
  have hb3 := hb3.extNo hE17
  have hb5 := hb5.extNo hE17
  have hb7 := hb7.extNo hE17
  have hT := hT.no hE17
  have hOI := hOI.ext hE17 fun _ _ => id
  have hOA := hOA.extNo hE17
  have hX := hX.thenNo hE17
  have hX1 := hX
  have hOIq := hOI
  have hb7L := hb7.lt
  have hTn := hT.n
  refine wl (st_appC I_ok rfl 32 32 rfl rfl rfl (by decide) hOI (Src.slice (m := 1) (one_idS id9_in hb51) OneC.h) (by dsimp only [maxLen]; omega) (by dsimp only; omega) fun p18 c18 w18 ho18 hC18 => ?_)
  dsimp only at ho18 hC18 ⊢
  obtain ⟨qc, kc, e1, e2, hOC0⟩ : ∃ q2 k2, q2 = p18 ∧ k2 = c18 ∧ Own w18 q2 (ids2 ++ [id9]).length k2 35 32 ((ids2 ++ [id9]).flatMap bytesU) := ⟨_, _, rfl, rfl, by
   rw [List.flatMap_append, List.length_append, List.flatMap_singleton]
   exact ho18⟩
  have hEo : Ext (OwnB qi2) w17 w18 := hC18.elim (fun k => k.2.2.2) fun k => k.2.1.no
  have hOA : Sl w18 qa (ids2 ++ [id9]).length 32 ((ids2 ++ [id9]).flatMap bytesU) := by
   rcases hC18 with k | k
   ·rcases hAs with e | e
    ·rw [e.1, ← k.2.1, ← e1]; exact hOC0.sl
    ·omega
   ·exact hOA.extNo k.2.1
  have hOI : Own w18 qi2 ids2.length ki2 35 32 (ids2.flatMap bytesU) := hC18.elim (fun k => by
    have h := ho18
    rw [k.2.1, k.2.2.1] at h
    exact own_take h hOl (by omega)) fun k => hOI.ext k.2.1 fun _ _ => id
  have hX := hX1.trans hEo fun y hy hF => by have := hnw2 y hF; omega
  have hb3 := hb3.ext hEo (fun k => by obtain ⟨L3, h3⟩ := hOIq.blkAt k; exact absurd (h3.uniq hb3).2 (by decide))
  have hb5 := hb5.ext hEo (fun k => by obtain ⟨L3, h3⟩ := hOIq.blkAt k; exact absurd (h3.uniq hb5).2 (by decide))
  have hb7 := hb7.ext hEo (fun k => by have := hqN b7 k; omega)
  have hT := hT.own hEo
  rw [← e1, ← e2, ← hAl]
  have hC3 : KS w18.heap.size w18 (fun u => Sl u qc (ids2 ++ [id9]).length 32 ((ids2 ++ [id9]).flatMap bytesU)) := KS.mk0 fun u hE => hOC0.sl.extNo hE
  obtain ⟨N3, hN3⟩ : ∃ N, N = w18.heap.size := ⟨_, rfl⟩
  rw [← hN3] at hC3
  refine wl_p I_ok rfl (wl_nil (f_then (c_block ?_)))
  refine c_loopK (α := Nat) [3, 4, 5, 7, 43, 44, 45, 52, 53] rfl (fun z => [(54, .int .i64 (z : Int))]) (fun z u => (z ≤ (ids2 ++ [id9]).length ∧ (Own u qi2 ids2.length ki2 35 32 (ids2.flatMap bytesU) ∧ Sl u qa (ids2 ++ [id9]).length 32 ((ids2 ++ [id9]).flatMap bytesU) ∧ KT (OwnB qi2) N2 u (fun u => HpIn u q m ∧ HpIn u q5 m5)) ∧ KS N3 u (fun u => Sl u qc (ids2 ++ [id9]).length 32 ((ids2 ++ [id9]).flatMap bytesU))) ∧ Blk u b3 29 ([.slice q m.length k]) ∧ Blk u b5 29 ([.slice q5 m5.length k5]) ∧ Blk u b7 35 (bytesU (ids2 ++ [id9])[i]) ∧ Ext No w u) (fun z u => (ids2 ++ [id9]).length - z) (0) rfl ⟨⟨Nat.zero_le _, ⟨hOI, hOA, hT⟩, hC3⟩, hb3, hb5, hb7, hX⟩ ?_
  rintro j w19 ⟨⟨hj, ⟨hOI, hOA, hT⟩, hC3⟩, hb3, hb5, hb7, hX⟩
  refine c_seq (c_region (wl_p I_ok rfl (wl_nil (f_then (c_seq (c_if rfl (fun hc => ?_) (fun hc => ?_)))))))
  ·have hcl : j < (ids2 ++ [id9]).length := by omega
   obtain ⟨cb, co, hcq, hcr⟩ := (hC3.now).rowAll (fun r hr => IdIn.len (hAin r hr)) (by omega)
   have hci : IdIn (ids2 ++ [id9])[j] := hAin _ (List.getElem_mem hcl)
   refine wc_put 52 rfl (v' := .slice (some ⟨cb, co, none⟩) (ids2 ++ [id9]).length kc) (by rw [hcq]) (c_skip (f_then ?_))
   refine c_cutK (α := Unit) [3, 4, 5, 7, 43, 44, 45, 52, 53, 54] rfl (fun z => []) (fun z u => ((Own u qi2 ids2.length ki2 35 32 (ids2.flatMap bytesU) ∧ Sl u qa (ids2 ++ [id9]).length 32 ((ids2 ++ [id9]).flatMap bytesU) ∧ KT (OwnB qi2) N2 u (fun u => HpIn u q m ∧ HpIn u q5 m5)) ∧ KS N3 u (fun u => Sl u qc (ids2 ++ [id9]).length 32 ((ids2 ++ [id9]).flatMap bytesU))) ∧ Blk u b3 29 ([.slice q m.length k]) ∧ Blk u b5 29 ([.slice q5 m5.length k5]) ∧ Blk u b7 35 (bytesU (ids2 ++ [id9])[i]) ∧ Ext No w u) ?_ ?_
   ·refine c_block ?_
    refine c_seq (c_region (wl (st_ix I_ok rfl 32 rfl j rfl (by omega) (co + j * 32) rfl (wl (st_ldN I_ok rfl (hcr j hcl) hci.len ?_)))))
    have hR0 := hT.n
    have hR3 := hC3.n
    refine wl (st_al I_ok rfl fun b9 w20 hn9 hb9 hE20 => ?_)
    have ne3_9 : b3 ≠ b9 := Nat.ne_of_lt (Nat.lt_of_lt_of_le hb3.lt hn9)
    have ne5_9 : b5 ≠ b9 := Nat.ne_of_lt (Nat.lt_of_lt_of_le hb5.lt hn9)
    have ne7_9 : b7 ≠ b9 := Nat.ne_of_lt (Nat.lt_of_lt_of_le hb7.lt hn9)
    have fr9 := Nat.le_trans hX.size hn9
    have hb3 := hb3.extNo hE20
    have hb5 := hb5.extNo hE20
    have hb7 := hb7.extNo hE20
    have hT := hT.no hE20
    have hOI := hOI.ext hE20 fun _ _ => id
    have hOA := hOA.extNo hE20
    have hC3 := hC3.no hE20
    have hX := hX.thenNo hE20
    have fN9 := Nat.le_trans hR0 hn9
    have fN39 := Nat.le_trans hR3 hn9
    refine wl (st_stW (l' := bytesU (ids2 ++ [id9])[j]) I_ok hb9 rfl rfl hci.len (by rw [bytesU_len, hci]; rfl) OneC.h fun w21 hb9 hE21 hs21 => ?_)
    have hb3 := hb3.ext1 hE21 ne3_9
    have hb5 := hb5.ext1 hE21 ne5_9
    have hb7 := hb7.ext1 hE21 ne7_9
    have hT := hT.one hE21 fN9
    have hOI := hOI.ext hE21 (fun x hx e => by have e : x = b9 := e; have := hqN x hx; have := fN9; omega)
    have hOA := hOA.ext hE21 (fun b off hb e => by have e : b = b9 := e; have := hqaN b off hb; have := fN9; omega)
    have hC3 := hC3.one hE21 fN39
    have hX := hX.thenNew hE21 fr9
    refine wl_nil (f_then (c_seq (c_region (wl (st_ldB I_ok hb3 rfl rfl (wl (st_ldB I_ok hb7 rfl hai.len (wl (st_ldB I_ok hb9 rfl hci.len ?_)))))))))
    refine wl (st_call Tryz.call11 rfl rfl rfl rfl rfl rfl (baseD_calls w21 hT.now.1 hai hci) fun v22 w22 hr22 => ?_)
    obtain ⟨rfl, hE22⟩ := hr22
    have hb3 := hb3.extNo hE22
    have hb5 := hb5.extNo hE22
    have hb7 := hb7.extNo hE22
    have hb9 := hb9.extNo hE22
    have hT := hT.no hE22
    have hOI := hOI.ext hE22 fun _ _ => id
    have hOA := hOA.extNo hE22
    have hC3 := hC3.no hE22
    have hX := hX.thenNo hE22
    have hbi := idO_in (b := (ids2 ++ [id9])[j]) (hT.now.1.hsIn hai)
    refine wl_p I_ok rfl ?_
    have hR0 := hT.n
    have hR3 := hC3.n
    refine wl (st_al I_ok rfl fun b10 w23 hn10 hb10 hE23 => ?_)
    have ne3_10 : b3 ≠ b10 := Nat.ne_of_lt (Nat.lt_of_lt_of_le hb3.lt hn10)
    have ne5_10 : b5 ≠ b10 := Nat.ne_of_lt (Nat.lt_of_lt_of_le hb5.lt hn10)
    have ne7_10 : b7 ≠ b10 := Nat.ne_of_lt (Nat.lt_of_lt_of_le hb7.lt hn10)
    have ne9_10 : b9 ≠ b10 := Nat.ne_of_lt (Nat.lt_of_lt_of_le hb9.lt hn10)
    have fr10 := Nat.le_trans hX.size hn10
    have hb3 := hb3.extNo hE23
    have hb5 := hb5.extNo hE23
    have hb7 := hb7.extNo hE23
    have hb9 := hb9.extNo hE23
    have hT := hT.no hE23
    have hOI := hOI.ext hE23 fun _ _ => id
    have hOA := hOA.extNo hE23
    have hC3 := hC3.no hE23
    have hX := hX.thenNo hE23
    have fN10 := Nat.le_trans hR0 hn10
    have fN310 := Nat.le_trans hR3 hn10
    refine wl (st_stW (l' := bytesU (idO (baseO (toHp m) (ids2 ++ [id9])[i] (ids2 ++ [id9])[j]))) I_ok hb10 rfl rfl hbi.len (by rw [bytesU_len, hbi]; rfl) OneC.h fun w24 hb10 hE24 hs24 => ?_)
    have hb3 := hb3.ext1 hE24 ne3_10
    have hb5 := hb5.ext1 hE24 ne5_10
    have hb7 := hb7.ext1 hE24 ne7_10
    have hb9 := hb9.ext1 hE24 ne9_10
    have hT := hT.one hE24 fN10
    have hOI := hOI.ext hE24 (fun x hx e => by have e : x = b10 := e; have := hqN x hx; have := fN10; omega)
    have hOA := hOA.ext hE24 (fun b off hb e => by have e : b = b10 := e; have := hqaN b off hb; have := fN10; omega)
    have hC3 := hC3.one hE24 fN310
    have hX := hX.thenNew hE24 fr10
    refine wl_p I_ok rfl (wl_nil (f_then (c_seq (c_region (wl (st_ldB I_ok hb3 rfl rfl (wl (st_ldB I_ok hb7 rfl hai.len (wl (st_ldB I_ok hb9 rfl hci.len ?_))))))))))
    refine wl (st_call Tryz.call12 rfl rfl rfl rfl rfl rfl (aboveD_calls w24 hT.now.1 hai hci) fun v25 w25 hr25 => ?_)
    obtain ⟨rfl, hE25⟩ := hr25
    have hb3 := hb3.extNo hE25
    have hb5 := hb5.extNo hE25
    have hb7 := hb7.extNo hE25
    have hb9 := hb9.extNo hE25
    have hb10 := hb10.extNo hE25
    have hT := hT.no hE25
    have hOI := hOI.ext hE25 fun _ _ => id
    have hOA := hOA.extNo hE25
    have hC3 := hC3.no hE25
    have hX := hX.thenNo hE25
    refine wl_p I_ok rfl (wl_nil (f_then (c_seq (c_draw rfl 8 [(0, true), (1, true), (3, true), (4, true), (2, false), (5, false), (6, true), (7, true)] [] (No) (by kernel_rfl) fun w26 hE26 hs26 => ?_))))
    have hd3 := hb3
    have hd5 := hb5
    have hd7 := hb7
    have hd9 := hb9
    have hd10 := hb10
    have hTd := hT
    have hOId := hOI
    have hOAd := hOA
    have hC3d := hC3
    have hXd := hX
    have hb3 := hb3.extNo hE26
    have hb5 := hb5.extNo hE26
    have hb7 := hb7.extNo hE26
    have hb9 := hb9.extNo hE26
    have hb10 := hb10.extNo hE26
    have hT := hT.no hE26
    have hOI := hOI.ext hE26 fun _ _ => id
    have hOA := hOA.extNo hE26
    have hC3 := hC3.no hE26
    have hX := hX.thenNo hE26
    have hC : Ext (No) _ w26 := hE26.no
    refine wd_ldN I_ok rfl rfl (fun w' hw' => (hd5.extNo hw').seg) rfl ?_
    refine wd_ldN I_ok rfl rfl (fun w' hw' => (hd7.extNo hw').seg) hai.len ?_
    refine wd_ldN I_ok rfl rfl (fun w' hw' => (hd5.extNo hw').seg) rfl ?_
    refine wd_ldN I_ok rfl rfl (fun w' hw' => (hd9.extNo hw').seg) hci.len ?_
    refine wd_l rfl (st_call Tryz.call13 rfl rfl rfl rfl rfl rfl (closed8_calls w26 hT.now.2 hai) fun v27 w27 hr27 => ⟨(by obtain ⟨rfl, hE27⟩ := hr27; exact hC.thenNo hE27), ?_⟩)
    obtain ⟨rfl, hE27⟩ := hr27
    have hb3 := hb3.extNo hE27
    have hb5 := hb5.extNo hE27
    have hb7 := hb7.extNo hE27
    have hb9 := hb9.extNo hE27
    have hb10 := hb10.extNo hE27
    have hT := hT.no hE27
    have hOI := hOI.ext hE27 fun _ _ => id
    have hOA := hOA.extNo hE27
    have hC3 := hC3.no hE27
    have hX := hX.thenNo hE27
    have hC := hC.thenNo hE27
    rw [hcp]
    refine wd_l rfl (st_call Tryz.call13 rfl rfl rfl rfl rfl rfl (closed8_calls w27 hT.now.2 hci) fun v28 w28 hr28 => ⟨(by obtain ⟨rfl, hE28⟩ := hr28; exact hC.thenNo hE28), ?_⟩)
    obtain ⟨rfl, hE28⟩ := hr28
    have hb3 := hb3.extNo hE28
    have hb5 := hb5.extNo hE28
    have hb7 := hb7.extNo hE28
    have hb9 := hb9.extNo hE28
    have hb10 := hb10.extNo hE28
    have hT := hT.no hE28
    have hOI := hOI.ext hE28 fun _ _ => id
    have hOA := hOA.extNo hE28
    have hC3 := hC3.no hE28
    have hX := hX.thenNo hE28
    have hC := hC.thenNo hE28
    rw [hcp]
    refine wd_k I_ok 2 rfl (wd_sw (wb_nil (f_then (c_seq ?_))))
    refine c_cutK (α := Unit) [3, 4, 5, 7, 9, 10, 11, 12, 15, 16, 43, 44, 45, 52, 53, 54] rfl (fun z => [(101, .bool false)]) (fun z u => ((Own u qi2 ids2.length ki2 35 32 (ids2.flatMap bytesU) ∧ Sl u qa (ids2 ++ [id9]).length 32 ((ids2 ++ [id9]).flatMap bytesU) ∧ KT (OwnB qi2) N2 u (fun u => HpIn u q m ∧ HpIn u q5 m5)) ∧ KS N3 u (fun u => Sl u qc (ids2 ++ [id9]).length 32 ((ids2 ++ [id9]).flatMap bytesU))) ∧ Blk u b3 29 ([.slice q m.length k]) ∧ Blk u b5 29 ([.slice q5 m5.length k5]) ∧ Blk u b7 35 (bytesU (ids2 ++ [id9])[i]) ∧ Blk u b9 35 (bytesU (ids2 ++ [id9])[j]) ∧ Blk u b10 35 (bytesU (idO (baseO (toHp m) (ids2 ++ [id9])[i] (ids2 ++ [id9])[j]))) ∧ Ext No w u) ?_ ?_
    ·refine c_draw rfl 23 [(0, true), (1, true), (2, true), (3, true), (4, true), (5, true), (6, true), (7, true), (8, true), (9, true), (11, true), (10, false), (12, false), (13, true), (14, true), (15, true), (16, true), (17, true), (18, true), (19, true), (20, true), (21, true), (22, true)] [] (No) (by kernel_rfl) fun w29 hE29 hs29 => ?_
     have hd3 := hb3
     have hd5 := hb5
     have hd7 := hb7
     have hd9 := hb9
     have hd10 := hb10
     have hTd := hT
     have hOId := hOI
     have hOAd := hOA
     have hC3d := hC3
     have hXd := hX
     have hb3 := hb3.extNo hE29
     have hb5 := hb5.extNo hE29
     have hb7 := hb7.extNo hE29
     have hb9 := hb9.extNo hE29
     have hb10 := hb10.extNo hE29
     have hT := hT.no hE29
     have hOI := hOI.ext hE29 fun _ _ => id
     have hOA := hOA.extNo hE29
     have hC3 := hC3.no hE29
     have hX := hX.thenNo hE29
     have hC : Ext (No) _ w29 := hE29.no
     refine wd_k I_ok 4 rfl (wd_caseD 82 rfl (fun hg => ?_) (fun hg => ?_))
     ·exact absurd rfl hg
     ·refine wd_k I_ok 3 rfl ?_
      refine wd_caseD 85 rfl (fun hg => ?_) (fun hg => ?_)
      ·have hcy : (toHp m).closed (ids2 ++ [id9])[j] = 0 := hg
       have eh : histE (toHp m) (ids2 ++ [id9])[j] = (toHp m).hist (ids2 ++ [id9])[j] := if_pos hcy
       rw [eh]
       refine wd_k I_ok 1 rfl (wd_ldN I_ok rfl rfl (fun w' hw' => (hd5.extNo hw').seg) rfl ?_)
       refine wd_ldN I_ok rfl rfl (fun w' hw' => (hd9.extNo hw').seg) hci.len ?_
       refine wd_ldN I_ok rfl rfl (fun w' hw' => (hd7.extNo hw').seg) hai.len ?_
       refine wd_l rfl (st_call Tryz.call15 rfl rfl rfl rfl rfl rfl (history8_calls w29 hT.now.2 hci) fun v30 w30 hr30 => ⟨(by obtain ⟨q7, k7, rfl, h7, hE30⟩ := hr30; exact hC.thenNo hE30), ?_⟩)
       obtain ⟨q7, k7, rfl, h7, hE30⟩ := hr30
       have hb3 := hb3.extNo hE30
       have hb5 := hb5.extNo hE30
       have hb7 := hb7.extNo hE30
       have hb9 := hb9.extNo hE30
       have hb10 := hb10.extNo hE30
       have hT := hT.no hE30
       have hOI := hOI.ext hE30 fun _ _ => id
       have hOA := hOA.extNo hE30
       have hC3 := hC3.no hE30
       have hX := hX.thenNo hE30
       have hC := hC.thenNo hE30
       rw [hcp] at h7 ⊢
       refine wd_l rfl (st_call Tryz.call14 rfl rfl rfl rfl rfl rfl (has8_calls w30 h7 (by have := hT.now.1.hsLen (ids2 ++ [id9])[j]; omega) (hT.now.1.hsIn hci) hai) fun v31 w31 hr31 => ⟨(by obtain ⟨rfl, hE31⟩ := hr31; exact hC.thenNo hE31), ?_⟩)
       obtain ⟨rfl, hE31⟩ := hr31
       have hb3 := hb3.extNo hE31
       have hb5 := hb5.extNo hE31
       have hb7 := hb7.extNo hE31
       have hb9 := hb9.extNo hE31
       have hb10 := hb10.extNo hE31
       have hT := hT.no hE31
       have hOI := hOI.ext hE31 fun _ _ => id
       have hOA := hOA.extNo hE31
       have hC3 := hC3.no hE31
       have h7 := h7.extNo hE31
       have hX := hX.thenNo hE31
       have hC := hC.thenNo hE31
       refine wd_k I_ok 4 rfl (wd_case 95 rfl (fun hg => ?_) (fun hg => ?_))
       ·exact absurd hg (by simp)
       ·refine wd_k I_ok 3 rfl ?_
        refine wd_caseD 98 rfl (fun hg => ?_) (fun hg => ?_)
        ·exact absurd hcy hg
        ·refine wd_k I_ok 3 rfl ?_
         refine wd_sw (wb_nil ?_)
         exact f_cut (()) rfl ⟨⟨⟨hOI, hOA, hT⟩, hC3⟩, hb3, hb5, hb7, hb9, hb10, hX⟩
      ·have hcy : ¬ (toHp m).closed (ids2 ++ [id9])[j] = 0 := hg
       have eh : histE (toHp m) (ids2 ++ [id9])[j] = [] := if_neg hcy
       rw [eh]
       refine wd_k I_ok 13 rfl (wd_caseD 98 rfl (fun hg => ?_) (fun hg => ?_))
       ·rw [show decide ((ids2 ++ [id9])[i] ∈ ([] : List IdB)) = false from by simp]
        refine wd_k I_ok 3 rfl (wd_sw (wb_nil ?_))
        exact f_cut (()) rfl ⟨⟨⟨hOI, hOA, hT⟩, hC3⟩, hb3, hb5, hb7, hb9, hb10, hX⟩
       ·exact absurd hcy hg
    rintro z w32 ⟨⟨⟨hOI, hOA, hT⟩, hC3⟩, hb3, hb5, hb7, hb9, hb10, hX⟩
    refine c_condF rfl (c_skip (f_then (c_cutK (α := Unit) [3, 4, 5, 7, 9, 10, 11, 12, 43, 44, 45, 52, 53, 54] rfl (fun z => [(15, .int .i64 (baseE (toHp m) (ids2 ++ [id9])[i] (ids2 ++ [id9])[j]))]) (fun z u => u = w32) ?_ ?_)))
    ·refine c_seq ?_
     refine c_region (wl_p I_ok rfl (wl_nil (f_then (c_if rfl (fun hc => ?_) (fun hc => ?_)))))
     ·have hcx : (toHp m).closed (ids2 ++ [id9])[i] = 0 := hc
      have eb : (baseE (toHp m) (ids2 ++ [id9])[i] (ids2 ++ [id9])[j]) = (toHp m).closed (ids2 ++ [id9])[j] := if_neg fun k => k hcx
      refine c_region (wl_p I_ok rfl (wl_nil ?_))
      exact f_cut (()) (by rw [eb]; rfl) rfl
     ·have hcx : ¬ (toHp m).closed (ids2 ++ [id9])[i] = 0 := hc
      have eb : (baseE (toHp m) (ids2 ++ [id9])[i] (ids2 ++ [id9])[j]) = (toHp m).closed (ids2 ++ [id9])[i] := if_pos hcx
      refine c_skip ?_
      exact f_cut (()) (by rw [eb]; rfl) rfl
    rintro z w33 hu
    have hu := hu.symm
    subst hu
    refine c_seq (c_seq (c_region (wl_p I_ok rfl (wl_nil (f_then (c_if rfl (fun hc => ?_) (fun hc => ?_)))))))
    ·have ebo : (baseO (toHp m) (ids2 ++ [id9])[i] (ids2 ++ [id9])[j]) = none := if_neg hc
     rw [ebo]
     rw [ebo] at hbi hb10
     refine c_seq (c_cutK (α := Unit) [3, 4, 5, 7, 43, 44, 45, 52, 53, 54] rfl (fun z => [(117, .bool false)]) (fun z u => u = w32) ?_ ?_)
     ·refine c_region ?_
      refine wl_p I_ok rfl (wl_caseD 110 rfl (fun hg => ?_) (fun hg => ?_))
      ·exact absurd rfl hg
      ·refine wl_pk I_ok 3 rfl ?_
       refine wl_case 113 rfl (fun hg => ?_) (fun hg => ?_)
       ·exact absurd hg (by decide)
       ·refine wl (st_ldB I_ok hb10 rfl hbi.len ?_)
        refine wl (st_bd I_ok rfl trivial (l' := bytesU idZ) idZ_c.symm (wl (st_eqK rfl gId 10 (by decide) kId (idForm hbi) (idForm idZ_in) (idKey hbi) (idKey idZ_in) idLits_inj ?_)))
        simp only [Bool.false_eq_true, if_false]
        rw [show decide (¬ idO (none : Option IdB) = idZ) = false from decide_eq_false fun k => k rfl]
        refine wl_p I_ok rfl (wl_nil ?_)
        exact f_cut (()) rfl rfl
     rintro z w34 hu
     have hu := hu.symm
     subst hu
     refine c_condF rfl (c_skip (f_then (c_exit ?_)))
     exact f_thenE (f_blockE (f_cut (()) rfl ⟨⟨⟨hOI, hOA, hT⟩, hC3⟩, hb3, hb5, hb7, hX⟩))
    ·have hbe : (baseE (toHp m) (ids2 ++ [id9])[i] (ids2 ++ [id9])[j]) = 0 := Decidable.not_not.1 hc
     have ebo : (baseO (toHp m) (ids2 ++ [id9])[i] (ids2 ++ [id9])[j]) = (toHp m).base (ids2 ++ [id9])[i] (ids2 ++ [id9])[j] := if_pos hbe
     refine c_skip (f_then (c_seq (c_region (wl (st_ldB I_ok hb5 rfl rfl (wl (st_ldB I_ok hb7 rfl hai.len (wl (st_ldB I_ok hb9 rfl hci.len ?_)))))))))
     refine wl (st_call Tryz.call16 rfl rfl rfl rfl rfl rfl (base8_calls w32 hT.now.2 hai hci) fun v35 w35 hr35 => ?_)
     obtain ⟨rfl, hE35⟩ := hr35
     have hb3 := hb3.extNo hE35
     have hb5 := hb5.extNo hE35
     have hb7 := hb7.extNo hE35
     have hb9 := hb9.extNo hE35
     have hb10 := hb10.extNo hE35
     have hT := hT.no hE35
     have hOI := hOI.ext hE35 fun _ _ => id
     have hOA := hOA.extNo hE35
     have hC3 := hC3.no hE35
     have hX := hX.thenNo hE35
     rw [hcp, ← ebo]
     refine wl_p I_ok rfl ?_
     have hR0 := hT.n
     have hR3 := hC3.n
     refine wl (st_al I_ok rfl fun b17 w36 hn17 hb17 hE36 => ?_)
     have ne3_17 : b3 ≠ b17 := Nat.ne_of_lt (Nat.lt_of_lt_of_le hb3.lt hn17)
     have ne5_17 : b5 ≠ b17 := Nat.ne_of_lt (Nat.lt_of_lt_of_le hb5.lt hn17)
     have ne7_17 : b7 ≠ b17 := Nat.ne_of_lt (Nat.lt_of_lt_of_le hb7.lt hn17)
     have ne9_17 : b9 ≠ b17 := Nat.ne_of_lt (Nat.lt_of_lt_of_le hb9.lt hn17)
     have ne10_17 : b10 ≠ b17 := Nat.ne_of_lt (Nat.lt_of_lt_of_le hb10.lt hn17)
     have fr17 := Nat.le_trans hX.size hn17
     have hb3 := hb3.extNo hE36
     have hb5 := hb5.extNo hE36
     have hb7 := hb7.extNo hE36
     have hb9 := hb9.extNo hE36
     have hb10 := hb10.extNo hE36
     have hT := hT.no hE36
     have hOI := hOI.ext hE36 fun _ _ => id
     have hOA := hOA.extNo hE36
     have hC3 := hC3.no hE36
     have hX := hX.thenNo hE36
     have fN17 := Nat.le_trans hR0 hn17
     have fN317 := Nat.le_trans hR3 hn17
     refine wl (st_stW (l' := bytesU (idO (baseO (toHp m) (ids2 ++ [id9])[i] (ids2 ++ [id9])[j]))) I_ok hb17 rfl rfl hbi.len (by rw [bytesU_len, hbi]; rfl) OneC.h fun w37 hb17 hE37 hs37 => ?_)
     have hb3 := hb3.ext1 hE37 ne3_17
     have hb5 := hb5.ext1 hE37 ne5_17
     have hb7 := hb7.ext1 hE37 ne7_17
     have hb9 := hb9.ext1 hE37 ne9_17
     have hb10 := hb10.ext1 hE37 ne10_17
     have hT := hT.one hE37 fN17
     have hOI := hOI.ext hE37 (fun x hx e => by have e : x = b17 := e; have := hqN x hx; have := fN17; omega)
     have hOA := hOA.ext hE37 (fun b off hb e => by have e : b = b17 := e; have := hqaN b off hb; have := fN17; omega)
     have hC3 := hC3.one hE37 fN317
     have hX := hX.thenNew hE37 fr17
     refine wl_p I_ok rfl (wl_nil (f_then (c_cutK (α := Unit) [3, 4, 5, 7, 43, 44, 45, 52, 53, 54] rfl (fun z => [(136, .bool false)]) (fun z u => u = w37) ?_ ?_)))
     ·refine c_region ?_
      refine wl_p I_ok rfl (wl_caseD 127 rfl (fun hg => ?_) (fun hg => ?_))
      ·exact absurd hg (by rw [hbe]; exact fun k => k rfl)
      ·refine wl (st_ldB I_ok hb10 rfl hbi.len ?_)
       refine wl (st_ldB I_ok hb17 rfl hbi.len (wl (st_eqK rfl gId 10 (by decide) kId (idForm hbi) (idForm hbi) (idKey hbi) (idKey hbi) idLits_inj ?_)))
       simp only [Bool.false_eq_true, if_false]
       refine wl_p I_ok rfl (wl_caseD 132 rfl (fun hg => ?_) (fun hg => ?_))
       ·exact absurd trivial hg
       ·refine wl_pk I_ok 4 rfl ?_
        refine wl_nil ?_
        rw [show (!(((baseO (toHp m) (ids2 ++ [id9])[i] (ids2 ++ [id9])[j])).isSome == ((baseO (toHp m) (ids2 ++ [id9])[i] (ids2 ++ [id9])[j])).isSome)) = false from by simp]
        exact f_cut (()) rfl rfl
     rintro z w38 hu
     have hu := hu.symm
     subst hu
     refine c_condF rfl (c_skip ?_)
     exact f_blockN (f_cut (()) rfl ⟨⟨⟨hOI, hOA, hT⟩, hC3⟩, hb3, hb5, hb7, hX⟩)
   rintro z w39 ⟨⟨⟨hOI, hOA, hT⟩, hC3⟩, hb3, hb5, hb7, hX⟩
   refine c_region (wl_p I_ok rfl ?_)
   rw [IntWalk.i64_in _ (by omega)]
   refine wl_nil (fin_put 52 rfl (v' := .slice qc (ids2 ++ [id9]).length kc) (by rw [hcq]) ?_)
   exact f_round (j + 1) rfl ⟨⟨hcl, ⟨hOI, hOA, hT⟩, hC3⟩, hb3, hb5, hb7, hX⟩ (by first | omega | (dsimp only; omega))
  ·refine c_exit ?_
   refine f_thenE (f_thenE (f_blockE (f_blockN (f_then (c_region (wl_p I_ok rfl ?_))))))
   rw [IntWalk.i64_in _ (by omega)]
   refine wl_nil (fin_put 43 rfl (v' := .slice qa (ids2 ++ [id9]).length ka) (by rw [haq]) ?_)
   exact f_round (i + 1) rfl ⟨⟨hal, hOI, hOA, hT⟩, hb3, hb5, hX⟩ (by first | omega | (dsimp only; omega))
 ·refine c_exit ?_
  refine f_thenE (f_thenE (f_blockE (f_then (c_seq (c_region (wl (st_ldB I_ok hb3 rfl rfl (wl (st_ldB I_ok hb5 rfl rfl (wl (st_call Tryz.call17 rfl rfl rfl rfl rfl rfl (sameHeap_calls w14 hT.now.1 hT.now.2) fun v40 w40 hr40 => ?_)))))))))))
  obtain ⟨rfl, hE40⟩ := hr40
  have hb3 := hb3.extNo hE40
  have hb5 := hb5.extNo hE40
  have hT := hT.no hE40
  have hOI := hOI.ext hE40 fun _ _ => id
  have hOA := hOA.extNo hE40
  have hX := hX.thenNo hE40
  rw [show decide (toHp m = toHp m5) = true from decide_eq_true hcp.symm]
  refine wl_p I_ok rfl (wl_nil (f_then (c_ret (f_ret1 rfl rfl ?_))))
  exact ⟨rfl, hX⟩
end Go.Proofs.YtoapldhadeoeiaaGreat
namespace Go.Proofs.YtoapldhadeoeiaaGreat
open Go.Vc Go.ChangeShapes Go.WideShapes Go.ChangeAt Go.RowKit
theorem own : ownKnob Tryz.prog.godebug = none := by kernel_rfl

set_option maxRecDepth 100000 in
theorem bases_lifted (os : Os) (started : os.Started) (H : Type) (enc : TypeId × Value → H) :
  ReturnsInHanded {} Tryz.checked os 3 .any (Rows.dagBasesSpec.pre6 enc Tryz.prog Tryz.f3 Rows.dagBasesRow.domain false) (Rows.dagBasesSpec.post enc Tryz.prog Tryz.f3 false true false false) := by
 refine returnsInHanded_of_change (C := Tryz.checked) own started (by kernel_rfl) Tryz.func3
  (ChangeSpec.witness6 (enc := enc) (C := Tryz.checked) false ⟨#[], #[.agg #[.slice none 0 0, .slice none 0 0]], []⟩ 40 (by kernel_rfl) (by kernel_rfl) (by kernel_rfl) (by kernel_rfl)) ?_
 intro W base args ds gs before hval0 hW hcnd _
 have hval : ∀ (j : Nat) t v, Tryz.f3.params[j]? = some t → args[j]? = some v → Value.okWide Tryz.prog W .any base t v := hval0
 have hW' := hW
 obtain ⟨p, q, hA0, hV, rfl, hfz, hnd⟩ := hW
 have hA : DataW.TrodAll enc Tryz.prog W 0 (fun _ => true) true Tryz.f3.params.toList args.toList ds p := hA0
 rw [Tryz.params3] at hA hval
 obtain ⟨v0, vs0, d0, ds0, p0, q0, hargs, rfl, rfl, h0, r0⟩ := trodAll_cons hA
 obtain ⟨rfl, rfl, rfl⟩ := trodAll_nil r0
 obtain rfl : args = #[v0] := by cases args; simp_all
 obtain ⟨rfl, rfl⟩ := trodVars_none hV
 have w0 := hval 0 25 v0 rfl rfl
 obtain ⟨k0, h0⟩ := h0
 obtain ⟨c0, rfl, _⟩ := okWide_struct Tryz.underlying25 w0
 obtain ⟨ps, steps, ck, pt, turns, ct, e0, hs, hsi, hsl, ht, hti, htl⟩ := open_world h0
 obtain rfl : c0 = #[.slice ps steps.length ck, .slice pt turns.length ct] := by apply Array.ext'; exact e0
 clear hA0 hval0
 simp only [List.append_nil] at hW'
 refine Calls.mono (dagBases_calls W hs hsi hsl ht hti htl) fun e W' he => ?_
 cases e with
 | returned v =>
  obtain ⟨rfl, hE⟩ : v = .bool true ∧ Ext No W W' := he
  refine ⟨_, rfl, post_true (by kernel_rfl) (by kernel_rfl) (by kernel_rfl) hW' rfl (by kernel_rfl) (by kernel_rfl) Tryz.underlying4 rfl rfl rfl hE⟩
 | panicked _ => exact he.elim
 | outgrown => exact he.elim
theorem bases_holds : Rows.DagBasesSaid :=
 OpenClaim.holds_of_wide 3 Tryz.f3 rfl rfl rfl rfl rfl rfl rfl ⟨rfl, rfl, rfl, rfl, rfl⟩ rfl rfl rfl rfl rfl (by kernel_rfl) Tryz.func3 (by kernel_rfl)
  (of_decide_eq_true (by kernel_rfl)) (by unfold Func.isWrapper; first | (rw [if_pos (by decide +kernel)]; kernel_rfl) | (rw [if_neg (by decide +kernel)]; exact ⟨rfl, rfl⟩))
  (fun os started H enc _ => bases_lifted os started H enc)

end Go.Proofs.YtoapldhadeoeiaaGreat
