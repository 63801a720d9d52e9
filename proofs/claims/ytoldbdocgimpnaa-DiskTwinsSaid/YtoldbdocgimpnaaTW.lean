/- a copy goes its own way: the walk -/
import Derived.Test.YtoldbdocgimpnaaR8
namespace Go.Proofs.Ytoldbdocgimpnaa
open Go.Vc

def Off (F Fc : Nat → Prop) (b9 b13 : Nat) (p : Option Addr) (l : List Ent) : Prop := l.length ≠ 0 → ∀ b off, p = some ⟨b, off, none⟩ → ¬ F b ∧ ¬ Fc b ∧ b ≠ b9 ∧ b ≠ b13
structure TI (w u : World) (d c b9 b13 m : Nat) (D : Dsk) (F : Nat → Prop) (x : RDsk) (p : Option Addr) (E : Dsk) (Fc : Nat → Prop) (y : RDsk) (q : Option Addr) : Prop where
  okD : D.Ok (2 * m)
  okE : E.Ok (2 * m)
  atD : At u d F D
  atE : At u c Fc E
  newD : ∀ t, F t → w.heap.size ≤ t
  newE : ∀ t, Fc t → w.heap.size ≤ t
  lenD : D.secs.length = 5
  lenE : E.secs.length = 5
  goD : ∃ s t, Goes D x s t
  goE : ∃ s t, Goes E y s t
  fewX : x.wr.length ≤ m
  fewY : y.wr.length ≤ m
  refX : RefW u p x.wr
  refY : RefW u q y.wr
  offX : Off F Fc b9 b13 p x.wr
  offY : Off F Fc b9 b13 q y.wr
  disj : ∀ t, F t → ¬ Fc t
  f9 : ¬ F b9
  f13 : ¬ F b13
  c9 : ¬ Fc b9
  c13 : ¬ Fc b13
  l9 : b9 < u.heap.size
  l13 : b13 < u.heap.size
  ne : b9 ≠ b13
theorem Off.swap {F Fc : Nat → Prop} {b9 b13 : Nat} {p : Option Addr} {l : List Ent} (h : Off F Fc b9 b13 p l) : Off Fc F b13 b9 p l := fun hl b off hb => let ⟨h1, h2, h3, h4⟩ := h hl b off hb; ⟨h2, h1, h4, h3⟩
section
variable {w u : World} {d c b9 b13 m : Nat} {D : Dsk} {F : Nat → Prop} {x : RDsk} {p : Option Addr} {E : Dsk} {Fc : Nat → Prop} {y : RDsk} {q : Option Addr}
theorem TI.swap (h : TI w u d c b9 b13 m D F x p E Fc y q) : TI w u c d b13 b9 m E Fc y q D F x p :=
  ⟨h.okE, h.okD, h.atE, h.atD, h.newE, h.newD, h.lenE, h.lenD, h.goE, h.goD, h.fewY, h.fewX, h.refY, h.refX, h.offY.swap, h.offX.swap, fun t h1 h2 => h.disj t h2 h1, h.c13, h.c9, h.f13, h.f9, h.l13, h.l9, h.ne.symm⟩
theorem TI.up (h : TI w u d c b9 b13 m D F x p E Fc y q) {m' : Nat} (hm : m ≤ m') : TI w u d c b9 b13 m' D F x p E Fc y q :=
  { h with okD := h.okD.mono (by omega), okE := h.okE.mono (by omega), fewX := by have := h.fewX; omega, fewY := by have := h.fewY; omega }
theorem TI.ext (h : TI w u d c b9 b13 m D F x p E Fc y q) {u' : World} (hE : Ext No u u') : TI w u' d c b9 b13 m D F x p E Fc y q :=
  { h with atD := h.atD.extNo hE, atE := h.atE.extNo hE, refX := h.refX.extNo hE, refY := h.refY.extNo hE, l9 := Nat.lt_of_lt_of_le h.l9 hE.size, l13 := Nat.lt_of_lt_of_le h.l13 hE.size }
/-- the one half of a round -/
theorem TI.half (h : TI w u d c b9 b13 m D F x p E Fc y q) (hw : w.heap.size ≤ u.heap.size) {u2 u5 : World} (a : PAct) (ha : -9223372036854775808 ≤ a.n ∧ a.n < 9223372036854775808)
    (hA : At u2 d (Grow F u u2) (D.act a).1) (hE : Ext F u u2) (hZ : Ext (One b9) u2 u5) {p2 : Option Addr} (hR : RefW u5 p2 (x.should a).1.wr) (hN : NewOr u2 p p2 x.wr (x.should a).1.wr) :
    TI w u5 d c b9 b13 (m + 1) (D.act a).1 (Grow F u u2) (x.should a).1 p2 E Fc y q := by
  obtain ⟨gs, gt, hGo⟩ := h.goD
  obtain ⟨gs2, gt2, hGo2, _⟩ := act_goes hGo h.okD a
  have hlE : ∀ t, Fc t → t < u.heap.size := h.atE.lt
  have hsz := hE.size
  have hl9 := h.l9
  have hl13 := h.l13
  have off : ∀ {q : Option Addr} {l : List Ent}, RefW u q l → Off F Fc b9 b13 q l → Off (Grow F u u2) Fc b9 b13 q l := fun hr ho hl b off hb =>
    let ⟨h1, h2, h3, h4⟩ := ho hl b off hb
    ⟨fun e => e.elim h1 fun e => by have := hr.lt hl b off hb; omega, h2, h3, h4⟩
  have hR2 : RefW u5 q y.wr := ⟨Sl.ext0 (Sl.ext0 h.refY.1 hE fun hl b off hb => (h.offY hl b off hb).1) hZ fun hl b off hb => (h.offY hl b off hb).2.2.1, h.refY.2⟩
  have hf9 : ¬ Grow F u u2 b9 := fun e => e.elim h.f9 fun e => by omega
  refine ⟨(h.okD.act a ha.1 ha.2).mono (by omega), h.okE.mono (by omega), hA.ext hZ fun t ht e => hf9 ((show t = b9 from e) ▸ ht), (h.atE.ext hE fun t ht e => h.disj t e ht).ext hZ fun t ht e => h.c9 ((show t = b9 from e) ▸ ht),
    fun t ht => ht.elim (h.newD t) fun e => Nat.le_trans hw e.1, h.newE, by rw [act_len]; exact h.lenD, h.lenE, ⟨_, _, hGo2⟩, h.goE, Nat.le_trans (should_len x a) (by have := h.fewX; omega), by have := h.fewY; omega, hR, hR2, ?_, off h.refY h.offY,
    fun t ht hc => ht.elim (fun e => h.disj t e hc) fun e => by have := hlE t hc; omega, hf9, fun e => e.elim h.f13 fun e => by omega, h.c9, h.c13, by have := hZ.size; omega, by have := hZ.size; omega, h.ne⟩
  intro hl b of hb
  rcases hN with ⟨e1, e2⟩ | hN
  · rw [e2] at hl
    rw [e1] at hb
    exact off h.refX h.offX hl b of hb
  · have h1 := hN b of hb
    refine ⟨fun e => by have := hA.lt b e; omega, fun e => by have := hlE b e; omega, by omega, by omega⟩
end
structure TS where
  k : Nat
  D : Dsk
  F : Nat → Prop
  x : RDsk
  p : Option Addr
  c : Nat
  E : Dsk
  Fc : Nat → Prop
  y : RDsk
  q : Option Addr
  e : Nat
theorem twins_calls (w : World) {p p1 p2 : Option Addr} {c c1 c2 : Nat} {l l1 l2 : List PAct} {G : Nat → Prop} (hcap : l.length ≤ c) (hl : ActsSl w G p l) (hcap1 : l1.length ≤ c1) (hl1 : ActsSl w G p1 l1) (hcap2 : l2.length ≤ c2) (hl2 : ActsSl w G p2 l2) :
    CallsV Try.prog 8 [.slice p l.length c, .slice p1 l1.length c1, .slice p2 l2.length c2] w fun v w' => v = .bool true ∧ Ext No w w' := by
  refine calls_enter Try.func8 rfl rfl rfl rfl ?_
  have hX := Ext.refl No w
  refine c_seq (c_region (wl_p I_ok rfl (wl_nil (f_then (c_seq (c_seq (c_region (wl (st_call Try.call10 rfl rfl rfl rfl rfl rfl (wakes_calls w) fun v1 w1 hr1 => ?_)))))))))
  obtain ⟨rfl, hE1⟩ := hr1
  have hX := hX.thenNo hE1
  refine wl_p I_ok rfl (wl_nil (f_then (c_condF rfl (c_skip (f_then (c_seq (c_region ?_)))))))
  have hX1 := hX
  refine wl (st_call Try.call11 rfl rfl rfl rfl rfl rfl (newGood_calls w1 5 (by decide)) fun v2 w2 hr2 => ?_)
  obtain ⟨d, rfl, frd, hA, hE2⟩ := hr2
  have hX := hX.thenNo hE2
  have hnew : ∀ x, Grow No w1 w2 x → w.heap.size ≤ x := fun x hx => hx.elim False.elim fun h => Nat.le_trans hX1.size h.1
  have hY := Ext.refl No w2
  refine wl_p I_ok rfl (wl_nil (f_then (c_seq (c_seq (c_region (wl_p I_ok rfl (wl_nil (f_then (c_if rfl (fun hc => ?_) (fun hc => ?_))))))))))
  · exact absurd rfl hc
  · refine c_skip ?_
    refine f_then (c_seq (c_region (wl (st_call Try.call19 rfl rfl rfl rfl rfl rfl (fresh_calls w2 5) fun v3 w3 hr3 => ?_))))
    obtain ⟨rfl, hE3⟩ := hr3
    have hY := hY.thenNo hE3
    have hX := hX.thenNo hE3
    refine wl (st_al I_ok rfl fun b9 w4 hn9 hb9 hE4 => ?_)
    have fr9 := Nat.le_trans hX.size hn9
    have frhY9 := Nat.le_trans hY.size hn9
    have hY := hY.thenNo hE4
    have hX := hX.thenNo hE4
    refine wl (st_stW (l' := refL (RDsk.fresh 5) none 0) I_ok hb9 rfl rfl rfl rfl OneC.h fun w5 hb9 hE5 hs5 => ?_)
    have hY := hY.thenNew hE5 frhY9
    have hX := hX.thenNew hE5 fr9
    refine wl_nil (f_then (c_seq (c_seq (c_region (wl_p I_ok rfl (wl (st_call Try.call12 rfl rfl rfl rfl rfl rfl (someActs_calls w5 hcap hl) fun v6 w6 hr6 => ?_)))))))
    obtain ⟨rfl, hl, hE6⟩ := hr6
    have hb9 := hb9.extNo hE6
    have hY := hY.thenNo hE6
    have hX := hX.thenNo hE6
    have hl100 : (l.take 100).length ≤ 100 := by simp; omega
    generalize l.take 100 = l at hl hl100
    refine wl_p I_ok rfl (wl_nil (f_then (c_block ?_)))
    refine c_loopK (α := Nat × Dsk × (Nat → Prop) × RDsk × Option Addr × Nat) [1, 2, 7, 9, 35, 36] rfl (fun z => [(37, .int .i64 (z.1 : Int))]) (fun z u => (z.1 ≤ l.length ∧ GInv w u d b9 5 z.1 z.2.1 z.2.2.1 z.2.2.2.1 z.2.2.2.2.1) ∧ Blk u b9 48 (refL z.2.2.2.1 z.2.2.2.2.1 z.2.2.2.2.2) ∧ Ext No w u) (fun z u => l.length - z.1) (0, Dsk.fresh 5, Grow No w1 w2, RDsk.fresh 5, none, 0) rfl ⟨⟨Nat.zero_le _, ⟨(Dsk.Ok.fresh (by omega)).mono (by omega), hA.ext hY fun _ _ => id, hnew, fun e => by have := hA.lt b9 e; omega, ⟨Sl.nil _ _ _, fun e he => by cases he⟩, ⟨[], [], fresh_goes 5⟩, Nat.le_refl _, fun h => absurd rfl h, rfl⟩⟩, hb9, hX⟩ ?_
    rintro ⟨i, D, F, x, rp, rc⟩ w7 ⟨⟨hi, hI⟩, hb9, hX⟩
    dsimp only
    dsimp only at hi hI hb9
    obtain ⟨hok, hA, hnew, hF9, hR, ⟨gs, gt, hGo⟩, hfew, hrf, hlen⟩ := hI
    have hY := Ext.refl No w7
    refine c_seq (c_region (wl_p I_ok rfl (wl_nil (f_then (c_seq (c_if rfl (fun hc => ?_) (fun hc => ?_)))))))
    · have hi' : i < l.length := by omega
      obtain ⟨bl, off, r, hp, hseg, hr4, hat⟩ := hl.get2 hX hi'
      subst hp
      have hfits := hGo.fits hok (by omega)
      have hlt9 := hb9.lt
      have hb64 := bytesL_len (act_blk hok l[i])
      refine c_skip (f_then (c_seq (c_block (c_seq (c_region (wl (st_ix I_ok rfl 4 rfl i rfl hi' (off + i * 4) rfl (wl (st_ldN I_ok rfl hseg hr4 (wl (st_al I_ok rfl fun b11 w8 hn11 hb11 hE8 => ?_)))))))))))
      have ne9_11 : b9 ≠ b11 := Nat.ne_of_lt (Nat.lt_of_lt_of_le hb9.lt hn11)
      have fr11 := Nat.le_trans hX.size hn11
      have frhY11 := Nat.le_trans hY.size hn11
      have hb9 := hb9.extNo hE8
      have hY := hY.thenNo hE8
      have hX := hX.thenNo hE8
      have hF11 : ¬ F b11 := fun e => by have := hA.lt b11 e; omega
      refine wl (st_stW (l' := r) I_ok hb11 rfl (by rw [cellsOf_agg]) hr4 hr4 hat.one fun w9 hb11 hE9 hs9 => ?_)
      have hb9 := hb9.ext1 hE9 ne9_11
      have hY := hY.thenNew hE9 frhY11
      have hX := hX.thenNew hE9 fr11
      refine wl_nil (f_then (c_seq (c_region (wl_p I_ok rfl (wl (st_ldB I_ok hb11 rfl hr4 ?_))))))
      have hA := hA.ext hY (fun _ _ => id)
      have hXo := hX
      have hR2 := hR.extNo hY
      have hsY := hY.size
      refine wl (st_call Try.call15 rfl rfl rfl rfl rfl rfl (happens_calls w9 hA hok (by omega) (hat.ext hX fun _ _ => id)) fun v10 w10 hr10 => ?_)
      obtain ⟨rfl, hA, hE10⟩ := hr10
      have hb9 := hb9.ext hE10 hF9
      have hb11 := hb11.ext hE10 hF11
      have hX := hX.trans hE10 fun y hy hF => by have := hnew y hF; omega
      have hsE := hE10.size
      have hok2 := hok.act _ hat.nb.1 hat.nb.2
      obtain ⟨gs2, gt2, hGo2, hsh⟩ := act_goes hGo hok l[i]
      have hR2 : RefW w10 rp x.wr := ⟨Sl.ext0 hR2.1 hE10 fun h b off hb => (hrf h b off hb).1, hR2.2⟩
      have hx64 := bytesL_len ((congrArg (fun y => y.1.length) hsh).trans (act_blk hok l[i]))
      have hsl := should_len x l[i]
      have hZ := Ext.refl (One b9) w10
      refine wl_nil (f_then (c_region (wl (st_ldB I_ok hb9 rfl rfl (wl (st_ldB I_ok hb11 rfl hr4 ?_))))))
      have hsZ := hZ.size
      refine wl (st_call Try.call20 rfl rfl rfl rfl rfl rfl (should_calls w10 x rp rc hfits ⟨Sl.ext0 hR2.1 hZ fun h b off hb => (hrf h b off hb).2, hR2.2⟩ (by omega) (hat.ext hX fun _ _ => id)) fun v11 w11 hr11 => ?_)
      obtain ⟨q2, d2, rfl, hR3, hN3, hE11⟩ := hr11
      have hb9 := hb9.extNo hE11
      have hb11 := hb11.extNo hE11
      have hZ := hZ.thenNo hE11
      have hX := hX.thenNo hE11
      have hne2 : (x.should l[i]).1.wr.length ≠ 0 → ∀ b off, q2 = some ⟨b, off, none⟩ → ¬ Grow F w9 w10 b ∧ b ≠ b9 := fun h b off hb => by
        rcases hN3 with ⟨e1, e2⟩ | hN3
        · rw [e2] at h
          rw [e1] at hb
          have h1 := hrf h b off hb
          have h2 := hR.lt h b off hb
          exact ⟨fun e => e.elim h1.1 fun e => by omega, h1.2⟩
        · have h1 := hN3 b off hb
          exact ⟨fun e => by have := hA.lt b e; omega, by omega⟩
      have hV := Ext.refl (One b9) w11
      refine wl_p I_ok rfl (wl (st_stW (l' := refL (x.should l[i]).1 q2 d2) I_ok hb9 rfl rfl rfl rfl OneC.h fun w12 hb9 hE12 hs12 => ?_))
      have hb11 := hb11.ext1 hE12 ne9_11.symm
      have hZ := hZ.then (hE12.mono fun _ _ e => by have e : _ = _ := e; subst e; first | rfl | simp)
      have hV := hV.then (hE12.mono fun _ _ e => by have e : _ = _ := e; subst e; first | rfl | simp)
      have hX := hX.thenNew hE12 fr9
      refine wl_nil (f_blockN (f_then (c_region (wl_p I_ok rfl ?_))))
      rw [IntWalk.i64_in _ (by omega)]
      refine wl_nil ?_
      exact f_round (i + 1, (D.act l[i]).1, Grow F w9 w10, (x.should l[i]).1, q2, d2) rfl ⟨⟨by dsimp only; omega, ⟨hok2.mono (by dsimp only; omega), hA.ext hZ fun y hy e => (by have e : y = b9 := e; subst e; exact hy.elim hF9 fun h => by omega), fun y hy => hy.elim (hnew y) fun h => Nat.le_trans hXo.size h.1, fun e => e.elim hF9 fun h => (by omega), ⟨Sl.ext0 hR3.1 hV fun h b off hb => (hne2 h b off hb).2, hR3.2⟩, ⟨_, _, hGo2⟩, by dsimp only; omega, hne2, by rw [act_len]; exact hlen⟩⟩, hb9, hX⟩ (by first | omega | (dsimp only; omega))
    · have hlt9 := hb9.lt
      have hsw := hX.size
      refine c_exit (f_thenE (f_thenE (f_blockE (f_then ?_))))
      have hltc9 := hb9.lt
      have hszc := hX.size
      have hszchY := hY.size
      refine c_cutK (α := (Nat × (Nat → Prop)) × Nat) [1, 2, 7, 9] rfl (fun z => [(12, .pointer (some ⟨z.1.1, 0, none⟩)), (13, .pointer (some ⟨z.2, 0, none⟩))]) (fun z u => (At u z.1.1 z.1.2 D ∧ (∀ y, z.1.2 y → w7.heap.size ≤ y) ∧ ¬ z.1.2 z.2) ∧ Blk u b9 48 (refL x rp rc) ∧ Blk u z.2 48 (refL x rp rc) ∧ w7.heap.size ≤ z.2 ∧ Ext No w7 u ∧ Ext No w u) ?_ ?_
      · have hQ := Nat.le_refl w7.heap.size
        refine c_drawX rfl 6 6 [] (No) (by kernel_rfl) fun w13 hE13 hs13 => ?_
        have hd9 := hb9
        have hXd := hX
        have hb9 := hb9.extNo hE13
        have hQ := Nat.le_trans hQ hE13.size
        have hY := hY.thenNo hE13
        have hX := hX.thenNo hE13
        have hC : Ext No _ w13 := hE13
        refine wx_plan [(0, true), (2, true)] 4 rfl (by kernel_rfl) (wd_k I_ok 1 rfl (wd_ldN I_ok rfl rfl (fun w' hw' => (hd9.extNo hw').seg) rfl ?_))
        refine wd_tail rfl (wx_alt [1, 3] rfl (by kernel_rfl) ⟨⟨_, rfl, ?_⟩, ⟨_, rfl, ?_⟩, trivial⟩)
        · have hlb9 := hb9.lt
          have hQp := hQ
          refine st_call Try.call27 rfl rfl rfl rfl rfl rfl (copy_calls w13 (hA.ext hY fun _ _ => id) hok (by omega)) fun v14 w14 hr14 => ⟨(by obtain ⟨cd, rfl, hcd, hAc, hE14⟩ := hr14; exact hC.thenNo hE14), ?_⟩
          obtain ⟨cd, rfl, hcd, hAc, hE14⟩ := hr14
          have hb9 := hb9.extNo hE14
          have hQ := Nat.le_trans hQ hE14.size
          have hY := hY.thenNo hE14
          have hX := hX.thenNo hE14
          have hC := hC.thenNo hE14
          have hFclt := hAc.lt
          have hFcnew : ∀ y, Grow No w13 w14 y → w13.heap.size ≤ y := fun y hy => hy.elim False.elim And.left
          generalize Grow No w13 w14 = Fc at hAc hFclt hFcnew
          have hZ := Ext.refl No w14
          refine wx_plan [(3, false), (4, true), (5, false)] 0 rfl (by kernel_rfl) (wd_l rfl (st_al I_ok rfl fun b13 w15 hn13 hb13 hE15 => ⟨hC.thenNo hE15, ?_⟩))
          have ne9_13 : b9 ≠ b13 := Nat.ne_of_lt (Nat.lt_of_lt_of_le hb9.lt hn13)
          have fr13 := Nat.le_trans hX.size hn13
          have frhY13 := Nat.le_trans hY.size hn13
          have frhQ13 := Nat.le_trans hQ hn13
          have frhZ13 := Nat.le_trans hZ.size hn13
          have frhC13 := Nat.le_trans hC.size hn13
          have hb9 := hb9.extNo hE15
          have hQ := Nat.le_trans hQ hE15.size
          have hY := hY.thenNo hE15
          have hZ := hZ.thenNo hE15
          have hX := hX.thenNo hE15
          have hC := hC.thenNo hE15
          refine wd_k I_ok 1 rfl (wd_l rfl (st_stW (l' := refL x rp rc) I_ok hb13 rfl rfl rfl rfl OneC.h fun w16 hb13 hE16 hs16 => ⟨hC.thenNew hE16 frhC13, ?_⟩))
          have hC := hC.thenNew hE16 frhC13
          have hb9 := hb9.ext1 hE16 ne9_13
          have hQ := Nat.le_trans hQ hE16.size
          have hY := hY.thenNew hE16 frhY13
          have hZ := hZ.thenNew hE16 frhZ13
          have hX := hX.thenNew hE16 fr13
          refine wd_sw (wb_nil ?_)
          have hFc : ¬ Fc b13 := fun e => by have := hFclt b13 e; omega
          exact f_cut ((cd, Fc), b13) rfl ⟨⟨hAc.ext hZ fun _ _ => id, fun y hy => Nat.le_trans hQp (hFcnew y hy), hFc⟩, hb9, hb13, frhQ13, hY, hX⟩
        · refine st_al I_ok rfl fun b13 w17 hn13 hb13 hE17 => ⟨hC.thenNo hE17, ?_⟩
          have ne9_13 : b9 ≠ b13 := Nat.ne_of_lt (Nat.lt_of_lt_of_le hb9.lt hn13)
          have fr13 := Nat.le_trans hX.size hn13
          have frhY13 := Nat.le_trans hY.size hn13
          have frhQ13 := Nat.le_trans hQ hn13
          have frhC13 := Nat.le_trans hC.size hn13
          have hb9 := hb9.extNo hE17
          have hQ := Nat.le_trans hQ hE17.size
          have hY := hY.thenNo hE17
          have hX := hX.thenNo hE17
          have hC := hC.thenNo hE17
          refine wx_plan [(1, false), (4, true), (5, false)] 0 rfl (by kernel_rfl) ?_
          have hlb9 := hb9.lt
          have hlb13 := hb13.lt
          have hQp := hQ
          refine wd_l rfl (st_call Try.call27 rfl rfl rfl rfl rfl rfl (copy_calls w17 (hA.ext hY fun _ _ => id) hok (by omega)) fun v18 w18 hr18 => ⟨(by obtain ⟨cd, rfl, hcd, hAc, hE18⟩ := hr18; exact hC.thenNo hE18), ?_⟩)
          obtain ⟨cd, rfl, hcd, hAc, hE18⟩ := hr18
          have hb9 := hb9.extNo hE18
          have hb13 := hb13.extNo hE18
          have hQ := Nat.le_trans hQ hE18.size
          have hY := hY.thenNo hE18
          have hX := hX.thenNo hE18
          have hC := hC.thenNo hE18
          have hFclt := hAc.lt
          have hFcnew : ∀ y, Grow No w17 w18 y → w17.heap.size ≤ y := fun y hy => hy.elim False.elim And.left
          generalize Grow No w17 w18 = Fc at hAc hFclt hFcnew
          have hZ := Ext.refl (One b13) w18
          refine wd_k I_ok 1 rfl (wd_l rfl (st_stW (l' := refL x rp rc) I_ok hb13 rfl rfl rfl rfl OneC.h fun w19 hb13 hE19 hs19 => ⟨hC.thenNew hE19 frhC13, ?_⟩))
          have hC := hC.thenNew hE19 frhC13
          have hb9 := hb9.ext1 hE19 ne9_13
          have hQ := Nat.le_trans hQ hE19.size
          have hY := hY.thenNew hE19 frhY13
          have hZ := hZ.then (hE19.mono fun _ _ e => by have e : _ = _ := e; subst e; first | rfl | simp)
          have hX := hX.thenNew hE19 fr13
          refine wd_sw (wb_nil ?_)
          have hFc : ¬ Fc b13 := fun e => by have := hFcnew b13 e; omega
          exact f_cut ((cd, Fc), b13) rfl ⟨⟨hAc.ext hZ fun y hy e => hFc ((show y = b13 from e) ▸ hy), fun y hy => Nat.le_trans hQp (hFcnew y hy), hFc⟩, hb9, hb13, frhQ13, hY, hX⟩
      rintro ⟨⟨cd, Fc⟩, b13⟩ w20 ⟨⟨hAc, hcnew, hc13⟩, hb9, hb13, hn13, hY, hX⟩
      dsimp only
      dsimp only at hb13 hn13
      have ne9_13 : b9 ≠ b13 := Nat.ne_of_lt (Nat.lt_of_lt_of_le hltc9 hn13)
      have fr13 := Nat.le_trans hszc hn13
      have frhY13 := Nat.le_trans hszchY hn13
      dsimp only at hAc hcnew hc13
      have hZ := Ext.refl No w20
      refine c_seq (c_cutK (α := Bool) [1, 2, 7, 9, 12, 13] rfl (fun z => [(62, .bool z)]) (fun z u => (z = false) ∧ Blk u b9 48 (refL x rp rc) ∧ Blk u b13 48 (refL x rp rc) ∧ Ext No w7 u ∧ Ext No w20 u ∧ Ext No w u) ?_ ?_)
      · refine c_region ?_
        refine wl_p I_ok rfl (wl_case 57 rfl (fun hg => ?_) (fun hg => ?_))
        · cases hg
        · refine wl_pk I_ok 1 rfl ?_
          refine wl (st_ldB I_ok hb9 rfl rfl (wl (st_call Try.call21 rfl rfl rfl rfl rfl rfl (stands_calls w20 (hAc.ext hZ fun _ _ => id) hok (by omega) x rp rc (hR.extNo hY) (by omega) hGo) fun v21 w21 hr21 => ?_)))
          obtain ⟨rfl, hE21⟩ := hr21
          have hb9 := hb9.extNo hE21
          have hb13 := hb13.extNo hE21
          have hY := hY.thenNo hE21
          have hZ := hZ.thenNo hE21
          have hX := hX.thenNo hE21
          refine wl_pk I_ok 2 rfl (wl_nil ?_)
          exact f_cut (_) rfl ⟨rfl, hb9, hb13, hY, hZ, hX⟩
      rintro z w22 ⟨rfl, hb9, hb13, hY, hZ, hX⟩
      refine c_condF rfl (c_skip (f_then (c_seq (c_region (wl_p I_ok rfl (wl (st_call Try.call12 rfl rfl rfl rfl rfl rfl (someActs_calls w22 hcap1 hl1) fun v23 w23 hr23 => ?_)))))))
      obtain ⟨rfl, hl1, hE23⟩ := hr23
      have hb9 := hb9.extNo hE23
      have hb13 := hb13.extNo hE23
      have hY := hY.thenNo hE23
      have hZ := hZ.thenNo hE23
      have hX := hX.thenNo hE23
      have hoff : Off F Fc b9 b13 rp x.wr := fun hl b off hb => ⟨(hrf hl b off hb).1, fun e => by (have := hcnew b e; have := hR.lt hl b off hb; omega), (hrf hl b off hb).2, by (have := hR.lt hl b off hb; omega)⟩
      have hl1100 : (l1.take 100).length ≤ 100 := by simp; omega
      generalize l1.take 100 = l1 at hl1 hl1100
      refine wl_p I_ok rfl (wl (st_call Try.call12 rfl rfl rfl rfl rfl rfl (someActs_calls w23 hcap2 hl2) fun v24 w24 hr24 => ?_))
      obtain ⟨rfl, hl2, hE24⟩ := hr24
      have hb9 := hb9.extNo hE24
      have hb13 := hb13.extNo hE24
      have hY := hY.thenNo hE24
      have hZ := hZ.thenNo hE24
      have hX := hX.thenNo hE24
      have hl2100 : (l2.take 100).length ≤ 100 := by simp; omega
      generalize l2.take 100 = l2 at hl2 hl2100
      refine wl_p I_ok rfl (wl_nil (f_then (c_seq (c_seq (c_region (wl_p I_ok rfl (wl_nil (f_then (c_block ?_)))))))))
      refine c_loopK (α := TS) [1, 2, 7, 9, 12, 13, 71] rfl (fun z => [(72, .int .i64 (z.k : Int))]) (fun z u => (z.k ≤ l1.length + l2.length ∧ TI w u d cd b9 b13 (l.length + 2 * z.k) z.D z.F z.x z.p z.E z.Fc z.y z.q) ∧ Blk u b9 48 (refL z.x z.p z.c) ∧ Blk u b13 48 (refL z.y z.q z.e) ∧ Ext No w u) (fun z u => l1.length + l2.length - z.k) (⟨0, D, F, x, rp, rc, D, Fc, x, rp, rc⟩) rfl ⟨⟨Nat.zero_le _, hok.mono (by omega), hok.mono (by omega), hA.ext hY fun _ _ => id, hAc.ext hZ fun _ _ => id, hnew, fun t ht => Nat.le_trans hszc (hcnew t ht), by dsimp only; omega, by dsimp only; omega, ⟨_, _, hGo⟩, ⟨_, _, hGo⟩, by dsimp only; omega, by dsimp only; omega, hR.extNo hY, hR.extNo hY, hoff, hoff, fun t h1 h2 => by (have := hA.lt t h1; have := hcnew t h2; omega), hF9, fun e => by (have := hA.lt b13 e; omega), fun e => by (have := hcnew b9 e; omega), hc13, hb9.lt, hb13.lt, ne9_13⟩, hb9, hb13, hX⟩ ?_
      rintro ⟨k, D, F, x, rp, rc, E, Fc, y, q, qc⟩ w25 ⟨⟨hkb, hI⟩, hb9, hb13, hX⟩
      dsimp only
      dsimp only at hkb hI hb9 hb13
      have hY := Ext.refl No w25
      refine c_seq (c_region (wl_p I_ok rfl (wl_nil (f_then (c_seq (c_if rfl (fun hc => ?_) (fun hc => ?_)))))))
      · have hkm : k < l1.length + l2.length := by split at hc <;> omega
        refine c_skip (f_then ?_)
        refine c_cutK (α := TS) [1, 2, 7, 9, 12, 13, 71, 72] rfl (fun z => []) (fun z u => (TI w u d cd b9 b13 (l.length + 2 * k + 2) z.D z.F z.x z.p z.E z.Fc z.y z.q) ∧ Blk u b9 48 (refL z.x z.p z.c) ∧ Blk u b13 48 (refL z.y z.q z.e) ∧ Ext No w u) ?_ ?_
        · refine c_block ?_
          refine c_seq (c_region (wl_p I_ok rfl (wl_nil (f_then ?_))))
          refine c_cutK (α := TS) [1, 2, 7, 9, 12, 13, 14, 71, 72] rfl (fun z => []) (fun z u => (TI w u d cd b9 b13 (l.length + 2 * k + 1) z.D z.F z.x z.p z.E z.Fc z.y z.q) ∧ Blk u b9 48 (refL z.x z.p z.c) ∧ Blk u b13 48 (refL z.y z.q z.e) ∧ Ext No w u) ?_ ?_
          · refine c_seq ?_
            refine c_region (wl_p I_ok rfl (wl_nil (f_then (c_if rfl (fun hc => ?_) (fun hc => ?_)))))
            · have hk1 : k < l1.length := by omega
              obtain ⟨bl, off, r, hp, hseg, hr4, hat⟩ := hl1.get2 (Ext.refl No w) hk1
              subst hp
              refine c_seq (c_region (wl_p I_ok rfl (wl (st_ix I_ok rfl 4 rfl k rfl hk1 (off + k * 4) rfl (wl (st_ldN I_ok rfl (hseg.extNo hX) hr4 ?_))))))
              have hI := hI.ext hY
              have hS := hI
              have hXs := hX.size
              have hF9 := hS.f9
              have hF13 := hS.f13
              refine wl (st_call Try.call15 rfl rfl rfl rfl rfl rfl (happens_calls w25 hS.atD hS.okD (by omega) (hat.ext hX fun _ _ => id)) fun v26 w26 hr26 => ?_)
              obtain ⟨rfl, hA, hE26⟩ := hr26
              have hb9 := hb9.ext hE26 hF9
              have hb13 := hb13.ext hE26 hF13
              have hX := hX.trans hE26 fun y hy hF => by have := hS.newD y hF; omega
              have hEh := hE26
              have hsE := hE26.size
              obtain ⟨gs, gt, hGo⟩ := hS.goD
              obtain ⟨gs2, gt2, hGo2, hsh⟩ := act_goes hGo hS.okD l1[k]
              have hfits := hGo.fits hS.okD (by omega)
              have hb64 := bytesL_len (act_blk hS.okD l1[k])
              have hx64 := bytesL_len ((congrArg (fun y => y.1.length) hsh).trans (act_blk hS.okD l1[k]))
              have hR2 : RefW w26 rp x.wr := ⟨Sl.ext0 hS.refX.1 hE26 fun h b off hb => (hS.offX h b off hb).1, hS.refX.2⟩
              have hfewX := hS.fewX
              have hl9 := hS.l9
              have hZ := Ext.refl (One b9) w26
              refine wl_p I_ok rfl (wl (st_al I_ok rfl fun b15 w27 hn15 hb15 hE27 => ?_))
              have ne9_15 : b9 ≠ b15 := Nat.ne_of_lt (Nat.lt_of_lt_of_le hb9.lt hn15)
              have ne13_15 : b13 ≠ b15 := Nat.ne_of_lt (Nat.lt_of_lt_of_le hb13.lt hn15)
              have fr15 := Nat.le_trans hX.size hn15
              have frhZ15 := Nat.le_trans hZ.size hn15
              have hb9 := hb9.extNo hE27
              have hb13 := hb13.extNo hE27
              have hZ := hZ.thenNo hE27
              have hX := hX.thenNo hE27
              refine wl (st_stW (l' := bytesL (D.act l1[k]).2.1) I_ok hb15 rfl (by rw [cells_num]) hb64 (by rw [hb64]; rfl) OneC.h fun w28 hb15 hE28 hs28 => ?_)
              have hb9 := hb9.ext1 hE28 ne9_15
              have hb13 := hb13.ext1 hE28 ne13_15
              have hZ := hZ.thenNew hE28 frhZ15
              have hX := hX.thenNew hE28 fr15
              refine wl_p I_ok rfl (wl_nil (f_then ?_))
              have hltc9 := hb9.lt
              have hltc13 := hb13.lt
              have hltc15 := hb15.lt
              have hszc := hX.size
              have hszchZ := hZ.size
              refine c_cutK (α := (Option Addr × Nat) × Nat × Nat) [1, 2, 7, 9, 12, 13, 14, 15, 16, 71, 72] rfl (fun z => [(17, .pointer (some ⟨z.2.1, 0, none⟩)), (18, .pointer (some ⟨z.2.2, 0, none⟩)), (19, .int .i64 (x.should l1[k]).2.2)]) (fun z u => (RefW u z.1.1 (x.should l1[k]).1.wr ∧ NewOr w26 rp z.1.1 x.wr (x.should l1[k]).1.wr) ∧ Blk u b9 48 (refL x rp rc) ∧ Blk u b13 48 (refL y q qc) ∧ Blk u b15 29 (bytesL (D.act l1[k]).2.1) ∧ Blk u z.2.1 48 (refL (x.should l1[k]).1 z.1.1 z.1.2) ∧ w28.heap.size ≤ z.2.1 ∧ Blk u z.2.2 29 (bytesL (x.should l1[k]).2.1) ∧ w28.heap.size ≤ z.2.2 ∧ z.2.1 ≠ z.2.2 ∧ Ext (One b9) w26 u ∧ Ext No w u) ?_ ?_
              · have hQ := Nat.le_refl w28.heap.size
                refine c_drawX rfl 15 15 [] (No) (by kernel_rfl) fun w29 hE29 hs29 => ?_
                have hd9 := hb9
                have hd13 := hb13
                have hd15 := hb15
                have hXd := hX
                have hb9 := hb9.extNo hE29
                have hb13 := hb13.extNo hE29
                have hb15 := hb15.extNo hE29
                have hQ := Nat.le_trans hQ hE29.size
                have hZ := hZ.thenNo hE29
                have hX := hX.thenNo hE29
                have hC : Ext No _ w29 := hE29
                refine wx_plan [(0, true), (1, true), (2, true), (3, true), (4, true)] 10 rfl (by kernel_rfl) (wd_ldN I_ok rfl rfl (fun w' hw' => (hd9.extNo hw').seg) rfl ?_)
                refine wd_k I_ok 2 rfl (wd_ix I_ok rfl rfl 4 rfl k rfl hk1 (off + k * 4) rfl (wd_ldN I_ok rfl rfl (fun w' hw' => hseg.extNo (hXd.thenNo hw')) hr4 ?_))
                refine wd_tail rfl (wx_alt [5, 10, 11] rfl (by kernel_rfl) ⟨⟨_, rfl, ?_⟩, ⟨_, rfl, ?_⟩, ⟨_, rfl, ?_⟩, trivial⟩)
                · have hlb9 := hb9.lt
                  have hlb13 := hb13.lt
                  have hlb15 := hb15.lt
                  have hsZ := hZ.size
                  refine st_call Try.call20 rfl rfl rfl rfl rfl rfl (should_calls w29 x rp rc hfits ⟨Sl.ext0 hR2.1 hZ fun h b off hb => (hS.offX h b off hb).2.2.1, hR2.2⟩ (by omega) (hat.ext hX fun _ _ => id)) fun v30 w30 hr30 => ⟨(by obtain ⟨q2, d2, rfl, hR3, hN3, hE30⟩ := hr30; exact hC.thenNo hE30), ?_⟩
                  obtain ⟨q2, d2, rfl, hR3, hN3, hE30⟩ := hr30
                  have hb9 := hb9.extNo hE30
                  have hb13 := hb13.extNo hE30
                  have hb15 := hb15.extNo hE30
                  have hQ := Nat.le_trans hQ hE30.size
                  have hZ := hZ.thenNo hE30
                  have hX := hX.thenNo hE30
                  have hC := hC.thenNo hE30
                  have hRor : (x.should l1[k]).1.wr.length ≠ 0 → ∀ b off, q2 = some ⟨b, off, none⟩ → b < w26.heap.size ∨ (w29.heap.size ≤ b ∧ b < w30.heap.size) := fun h b off hb => by
                    rcases hN3 with ⟨e1, e2⟩ | hN
                    · rw [e2] at h
                      rw [e1] at hb
                      exact .inl (hR2.lt h b off hb)
                    · exact .inr ⟨hN b off hb, hR3.lt h b off hb⟩
                  have hV := Nat.le_refl w30.heap.size
                  refine wx_plan [(6, true), (7, true), (8, true), (9, true)] 5 rfl (by kernel_rfl) (wd_k I_ok 4 rfl (wd_tail rfl (wx_alt [10, 11] rfl (by kernel_rfl) ⟨⟨_, rfl, ?_⟩, ⟨_, rfl, ?_⟩, trivial⟩)))
                  · refine st_al I_ok rfl fun b17 w31 hn17 hb17 hE31 => ⟨hC.thenNo hE31, ?_⟩
                    have ne9_17 : b9 ≠ b17 := Nat.ne_of_lt (Nat.lt_of_lt_of_le hb9.lt hn17)
                    have ne13_17 : b13 ≠ b17 := Nat.ne_of_lt (Nat.lt_of_lt_of_le hb13.lt hn17)
                    have ne15_17 : b15 ≠ b17 := Nat.ne_of_lt (Nat.lt_of_lt_of_le hb15.lt hn17)
                    have fr17 := Nat.le_trans hX.size hn17
                    have frhZ17 := Nat.le_trans hZ.size hn17
                    have frhQ17 := Nat.le_trans hQ hn17
                    have frhV17 := Nat.le_trans hV hn17
                    have frhC17 := Nat.le_trans hC.size hn17
                    have hb9 := hb9.extNo hE31
                    have hb13 := hb13.extNo hE31
                    have hb15 := hb15.extNo hE31
                    have hR3 := hR3.extNo hE31
                    have hQ := Nat.le_trans hQ hE31.size
                    have hV := Nat.le_trans hV hE31.size
                    have hZ := hZ.thenNo hE31
                    have hX := hX.thenNo hE31
                    have hC := hC.thenNo hE31
                    refine wx_plan [(11, false), (12, false), (13, false), (14, true)] 0 rfl (by kernel_rfl) (wd_l rfl (st_al I_ok rfl fun b18 w32 hn18 hb18 hE32 => ⟨hC.thenNo hE32, ?_⟩))
                    have ne9_18 : b9 ≠ b18 := Nat.ne_of_lt (Nat.lt_of_lt_of_le hb9.lt hn18)
                    have ne13_18 : b13 ≠ b18 := Nat.ne_of_lt (Nat.lt_of_lt_of_le hb13.lt hn18)
                    have ne15_18 : b15 ≠ b18 := Nat.ne_of_lt (Nat.lt_of_lt_of_le hb15.lt hn18)
                    have ne17_18 : b17 ≠ b18 := Nat.ne_of_lt (Nat.lt_of_lt_of_le hb17.lt hn18)
                    have fr18 := Nat.le_trans hX.size hn18
                    have frhZ18 := Nat.le_trans hZ.size hn18
                    have frhQ18 := Nat.le_trans hQ hn18
                    have frhV18 := Nat.le_trans hV hn18
                    have frhC18 := Nat.le_trans hC.size hn18
                    have hb9 := hb9.extNo hE32
                    have hb13 := hb13.extNo hE32
                    have hb15 := hb15.extNo hE32
                    have hb17 := hb17.extNo hE32
                    have hR3 := hR3.extNo hE32
                    have hQ := Nat.le_trans hQ hE32.size
                    have hV := Nat.le_trans hV hE32.size
                    have hZ := hZ.thenNo hE32
                    have hX := hX.thenNo hE32
                    have hC := hC.thenNo hE32
                    refine wd_l rfl (st_stW (l' := refL (x.should l1[k]).1 q2 d2) I_ok hb17 rfl rfl rfl rfl OneC.h fun w33 hb17 hE33 hs33 => ⟨hC.thenNew hE33 frhC17, ?_⟩)
                    have hC := hC.thenNew hE33 frhC17
                    have hb9 := hb9.ext1 hE33 ne9_17
                    have hb13 := hb13.ext1 hE33 ne13_17
                    have hb15 := hb15.ext1 hE33 ne15_17
                    have hb18 := hb18.ext1 hE33 ne17_18.symm
                    have hQ := Nat.le_trans hQ hE33.size
                    have hV := Nat.le_trans hV hE33.size
                    have hZ := hZ.thenNew hE33 frhZ17
                    have hX := hX.thenNew hE33 fr17
                    have hR3 : RefW w33 q2 _ := ⟨Sl.ext0 hR3.1 hE33 (fun h b off hb e => by (have := hRor h b off hb); (have e : b = b17 := e); omega), hR3.2⟩
                    refine wd_l rfl (st_stW (l' := bytesL (x.should l1[k]).2.1) I_ok hb18 rfl (by rw [cells_num]) hx64 (by rw [hx64]; rfl) OneC.h fun w34 hb18 hE34 hs34 => ⟨hC.thenNew hE34 frhC18, ?_⟩)
                    have hC := hC.thenNew hE34 frhC18
                    have hb9 := hb9.ext1 hE34 ne9_18
                    have hb13 := hb13.ext1 hE34 ne13_18
                    have hb15 := hb15.ext1 hE34 ne15_18
                    have hb17 := hb17.ext1 hE34 ne17_18
                    have hQ := Nat.le_trans hQ hE34.size
                    have hV := Nat.le_trans hV hE34.size
                    have hZ := hZ.thenNew hE34 frhZ18
                    have hX := hX.thenNew hE34 fr18
                    have hR3 : RefW w34 q2 _ := ⟨Sl.ext0 hR3.1 hE34 (fun h b off hb e => by (have := hRor h b off hb); (have e : b = b18 := e); omega), hR3.2⟩
                    refine wd_k I_ok 1 rfl (wd_sw (wb_nil ?_))
                    exact f_cut ((q2, d2), b17, b18) rfl ⟨⟨hR3, hN3.wide hsZ⟩, hb9, hb13, hb15, hb17, frhQ17, hb18, frhQ18, ne17_18, hZ, hX⟩
                  · refine st_al I_ok rfl fun b18 w35 hn18 hb18 hE35 => ⟨hC.thenNo hE35, ?_⟩
                    have ne9_18 : b9 ≠ b18 := Nat.ne_of_lt (Nat.lt_of_lt_of_le hb9.lt hn18)
                    have ne13_18 : b13 ≠ b18 := Nat.ne_of_lt (Nat.lt_of_lt_of_le hb13.lt hn18)
                    have ne15_18 : b15 ≠ b18 := Nat.ne_of_lt (Nat.lt_of_lt_of_le hb15.lt hn18)
                    have fr18 := Nat.le_trans hX.size hn18
                    have frhZ18 := Nat.le_trans hZ.size hn18
                    have frhQ18 := Nat.le_trans hQ hn18
                    have frhV18 := Nat.le_trans hV hn18
                    have frhC18 := Nat.le_trans hC.size hn18
                    have hb9 := hb9.extNo hE35
                    have hb13 := hb13.extNo hE35
                    have hb15 := hb15.extNo hE35
                    have hR3 := hR3.extNo hE35
                    have hQ := Nat.le_trans hQ hE35.size
                    have hV := Nat.le_trans hV hE35.size
                    have hZ := hZ.thenNo hE35
                    have hX := hX.thenNo hE35
                    have hC := hC.thenNo hE35
                    refine wx_plan [(10, false), (12, false), (13, false), (14, true)] 0 rfl (by kernel_rfl) (wd_l rfl (st_al I_ok rfl fun b17 w36 hn17 hb17 hE36 => ⟨hC.thenNo hE36, ?_⟩))
                    have ne9_17 : b9 ≠ b17 := Nat.ne_of_lt (Nat.lt_of_lt_of_le hb9.lt hn17)
                    have ne13_17 : b13 ≠ b17 := Nat.ne_of_lt (Nat.lt_of_lt_of_le hb13.lt hn17)
                    have ne15_17 : b15 ≠ b17 := Nat.ne_of_lt (Nat.lt_of_lt_of_le hb15.lt hn17)
                    have ne18_17 : b18 ≠ b17 := Nat.ne_of_lt (Nat.lt_of_lt_of_le hb18.lt hn17)
                    have fr17 := Nat.le_trans hX.size hn17
                    have frhZ17 := Nat.le_trans hZ.size hn17
                    have frhQ17 := Nat.le_trans hQ hn17
                    have frhV17 := Nat.le_trans hV hn17
                    have frhC17 := Nat.le_trans hC.size hn17
                    have hb9 := hb9.extNo hE36
                    have hb13 := hb13.extNo hE36
                    have hb15 := hb15.extNo hE36
                    have hb18 := hb18.extNo hE36
                    have hR3 := hR3.extNo hE36
                    have hQ := Nat.le_trans hQ hE36.size
                    have hV := Nat.le_trans hV hE36.size
                    have hZ := hZ.thenNo hE36
                    have hX := hX.thenNo hE36
                    have hC := hC.thenNo hE36
                    refine wd_l rfl (st_stW (l' := refL (x.should l1[k]).1 q2 d2) I_ok hb17 rfl rfl rfl rfl OneC.h fun w37 hb17 hE37 hs37 => ⟨hC.thenNew hE37 frhC17, ?_⟩)
                    have hC := hC.thenNew hE37 frhC17
                    have hb9 := hb9.ext1 hE37 ne9_17
                    have hb13 := hb13.ext1 hE37 ne13_17
                    have hb15 := hb15.ext1 hE37 ne15_17
                    have hb18 := hb18.ext1 hE37 ne18_17
                    have hQ := Nat.le_trans hQ hE37.size
                    have hV := Nat.le_trans hV hE37.size
                    have hZ := hZ.thenNew hE37 frhZ17
                    have hX := hX.thenNew hE37 fr17
                    have hR3 : RefW w37 q2 _ := ⟨Sl.ext0 hR3.1 hE37 (fun h b off hb e => by (have := hRor h b off hb); (have e : b = b17 := e); omega), hR3.2⟩
                    refine wd_l rfl (st_stW (l' := bytesL (x.should l1[k]).2.1) I_ok hb18 rfl (by rw [cells_num]) hx64 (by rw [hx64]; rfl) OneC.h fun w38 hb18 hE38 hs38 => ⟨hC.thenNew hE38 frhC18, ?_⟩)
                    have hC := hC.thenNew hE38 frhC18
                    have hb9 := hb9.ext1 hE38 ne9_18
                    have hb13 := hb13.ext1 hE38 ne13_18
                    have hb15 := hb15.ext1 hE38 ne15_18
                    have hb17 := hb17.ext1 hE38 ne18_17.symm
                    have hQ := Nat.le_trans hQ hE38.size
                    have hV := Nat.le_trans hV hE38.size
                    have hZ := hZ.thenNew hE38 frhZ18
                    have hX := hX.thenNew hE38 fr18
                    have hR3 : RefW w38 q2 _ := ⟨Sl.ext0 hR3.1 hE38 (fun h b off hb e => by (have := hRor h b off hb); (have e : b = b18 := e); omega), hR3.2⟩
                    refine wd_k I_ok 1 rfl (wd_sw (wb_nil ?_))
                    exact f_cut ((q2, d2), b17, b18) rfl ⟨⟨hR3, hN3.wide hsZ⟩, hb9, hb13, hb15, hb17, frhQ17, hb18, frhQ18, ne18_17.symm, hZ, hX⟩
                · refine st_al I_ok rfl fun b17 w39 hn17 hb17 hE39 => ⟨hC.thenNo hE39, ?_⟩
                  have ne9_17 : b9 ≠ b17 := Nat.ne_of_lt (Nat.lt_of_lt_of_le hb9.lt hn17)
                  have ne13_17 : b13 ≠ b17 := Nat.ne_of_lt (Nat.lt_of_lt_of_le hb13.lt hn17)
                  have ne15_17 : b15 ≠ b17 := Nat.ne_of_lt (Nat.lt_of_lt_of_le hb15.lt hn17)
                  have fr17 := Nat.le_trans hX.size hn17
                  have frhZ17 := Nat.le_trans hZ.size hn17
                  have frhQ17 := Nat.le_trans hQ hn17
                  have frhC17 := Nat.le_trans hC.size hn17
                  have hb9 := hb9.extNo hE39
                  have hb13 := hb13.extNo hE39
                  have hb15 := hb15.extNo hE39
                  have hQ := Nat.le_trans hQ hE39.size
                  have hZ := hZ.thenNo hE39
                  have hX := hX.thenNo hE39
                  have hC := hC.thenNo hE39
                  refine wx_plan [] 9 rfl (by kernel_rfl) (wd_tail rfl (wx_alt [5, 11] rfl (by kernel_rfl) ⟨⟨_, rfl, ?_⟩, ⟨_, rfl, ?_⟩, trivial⟩))
                  · have hlb9 := hb9.lt
                    have hlb13 := hb13.lt
                    have hlb15 := hb15.lt
                    have hlb17 := hb17.lt
                    have hsZ := hZ.size
                    refine st_call Try.call20 rfl rfl rfl rfl rfl rfl (should_calls w39 x rp rc hfits ⟨Sl.ext0 hR2.1 hZ fun h b off hb => (hS.offX h b off hb).2.2.1, hR2.2⟩ (by omega) (hat.ext hX fun _ _ => id)) fun v40 w40 hr40 => ⟨(by obtain ⟨q2, d2, rfl, hR3, hN3, hE40⟩ := hr40; exact hC.thenNo hE40), ?_⟩
                    obtain ⟨q2, d2, rfl, hR3, hN3, hE40⟩ := hr40
                    have hb9 := hb9.extNo hE40
                    have hb13 := hb13.extNo hE40
                    have hb15 := hb15.extNo hE40
                    have hb17 := hb17.extNo hE40
                    have hQ := Nat.le_trans hQ hE40.size
                    have hZ := hZ.thenNo hE40
                    have hX := hX.thenNo hE40
                    have hC := hC.thenNo hE40
                    have hRor : (x.should l1[k]).1.wr.length ≠ 0 → ∀ b off, q2 = some ⟨b, off, none⟩ → b < w26.heap.size ∨ (w39.heap.size ≤ b ∧ b < w40.heap.size) := fun h b off hb => by
                      rcases hN3 with ⟨e1, e2⟩ | hN
                      · rw [e2] at h
                        rw [e1] at hb
                        exact .inl (hR2.lt h b off hb)
                      · exact .inr ⟨hN b off hb, hR3.lt h b off hb⟩
                    have hV := Nat.le_refl w40.heap.size
                    refine wx_plan [(6, true), (7, true), (8, true), (9, true), (11, false), (12, false), (13, false), (14, true)] 0 rfl (by kernel_rfl) (wd_k I_ok 4 rfl (wd_l rfl (st_al I_ok rfl fun b18 w41 hn18 hb18 hE41 => ⟨hC.thenNo hE41, ?_⟩)))
                    have ne9_18 : b9 ≠ b18 := Nat.ne_of_lt (Nat.lt_of_lt_of_le hb9.lt hn18)
                    have ne13_18 : b13 ≠ b18 := Nat.ne_of_lt (Nat.lt_of_lt_of_le hb13.lt hn18)
                    have ne15_18 : b15 ≠ b18 := Nat.ne_of_lt (Nat.lt_of_lt_of_le hb15.lt hn18)
                    have ne17_18 : b17 ≠ b18 := Nat.ne_of_lt (Nat.lt_of_lt_of_le hb17.lt hn18)
                    have fr18 := Nat.le_trans hX.size hn18
                    have frhZ18 := Nat.le_trans hZ.size hn18
                    have frhQ18 := Nat.le_trans hQ hn18
                    have frhV18 := Nat.le_trans hV hn18
                    have frhC18 := Nat.le_trans hC.size hn18
                    have hb9 := hb9.extNo hE41
                    have hb13 := hb13.extNo hE41
                    have hb15 := hb15.extNo hE41
                    have hb17 := hb17.extNo hE41
                    have hR3 := hR3.extNo hE41
                    have hQ := Nat.le_trans hQ hE41.size
                    have hV := Nat.le_trans hV hE41.size
                    have hZ := hZ.thenNo hE41
                    have hX := hX.thenNo hE41
                    have hC := hC.thenNo hE41
                    refine wd_l rfl (st_stW (l' := refL (x.should l1[k]).1 q2 d2) I_ok hb17 rfl rfl rfl rfl OneC.h fun w42 hb17 hE42 hs42 => ⟨hC.thenNew hE42 frhC17, ?_⟩)
                    have hC := hC.thenNew hE42 frhC17
                    have hb9 := hb9.ext1 hE42 ne9_17
                    have hb13 := hb13.ext1 hE42 ne13_17
                    have hb15 := hb15.ext1 hE42 ne15_17
                    have hb18 := hb18.ext1 hE42 ne17_18.symm
                    have hQ := Nat.le_trans hQ hE42.size
                    have hV := Nat.le_trans hV hE42.size
                    have hZ := hZ.thenNew hE42 frhZ17
                    have hX := hX.thenNew hE42 fr17
                    have hR3 : RefW w42 q2 _ := ⟨Sl.ext0 hR3.1 hE42 (fun h b off hb e => by (have := hRor h b off hb); (have e : b = b17 := e); omega), hR3.2⟩
                    refine wd_l rfl (st_stW (l' := bytesL (x.should l1[k]).2.1) I_ok hb18 rfl (by rw [cells_num]) hx64 (by rw [hx64]; rfl) OneC.h fun w43 hb18 hE43 hs43 => ⟨hC.thenNew hE43 frhC18, ?_⟩)
                    have hC := hC.thenNew hE43 frhC18
                    have hb9 := hb9.ext1 hE43 ne9_18
                    have hb13 := hb13.ext1 hE43 ne13_18
                    have hb15 := hb15.ext1 hE43 ne15_18
                    have hb17 := hb17.ext1 hE43 ne17_18
                    have hQ := Nat.le_trans hQ hE43.size
                    have hV := Nat.le_trans hV hE43.size
                    have hZ := hZ.thenNew hE43 frhZ18
                    have hX := hX.thenNew hE43 fr18
                    have hR3 : RefW w43 q2 _ := ⟨Sl.ext0 hR3.1 hE43 (fun h b off hb e => by (have := hRor h b off hb); (have e : b = b18 := e); omega), hR3.2⟩
                    refine wd_k I_ok 1 rfl (wd_sw (wb_nil ?_))
                    exact f_cut ((q2, d2), b17, b18) rfl ⟨⟨hR3, hN3.wide hsZ⟩, hb9, hb13, hb15, hb17, frhQ17, hb18, frhQ18, ne17_18, hZ, hX⟩
                  · refine st_al I_ok rfl fun b18 w44 hn18 hb18 hE44 => ⟨hC.thenNo hE44, ?_⟩
                    have ne9_18 : b9 ≠ b18 := Nat.ne_of_lt (Nat.lt_of_lt_of_le hb9.lt hn18)
                    have ne13_18 : b13 ≠ b18 := Nat.ne_of_lt (Nat.lt_of_lt_of_le hb13.lt hn18)
                    have ne15_18 : b15 ≠ b18 := Nat.ne_of_lt (Nat.lt_of_lt_of_le hb15.lt hn18)
                    have ne17_18 : b17 ≠ b18 := Nat.ne_of_lt (Nat.lt_of_lt_of_le hb17.lt hn18)
                    have fr18 := Nat.le_trans hX.size hn18
                    have frhZ18 := Nat.le_trans hZ.size hn18
                    have frhQ18 := Nat.le_trans hQ hn18
                    have frhC18 := Nat.le_trans hC.size hn18
                    have hb9 := hb9.extNo hE44
                    have hb13 := hb13.extNo hE44
                    have hb15 := hb15.extNo hE44
                    have hb17 := hb17.extNo hE44
                    have hQ := Nat.le_trans hQ hE44.size
                    have hZ := hZ.thenNo hE44
                    have hX := hX.thenNo hE44
                    have hC := hC.thenNo hE44
                    refine wx_plan [(5, false), (6, true), (7, true), (8, true), (9, true), (12, false), (13, false), (14, true)] 0 rfl (by kernel_rfl) ?_
                    have hlb9 := hb9.lt
                    have hlb13 := hb13.lt
                    have hlb15 := hb15.lt
                    have hlb17 := hb17.lt
                    have hlb18 := hb18.lt
                    have hsZ := hZ.size
                    refine wd_l rfl (st_call Try.call20 rfl rfl rfl rfl rfl rfl (should_calls w44 x rp rc hfits ⟨Sl.ext0 hR2.1 hZ fun h b off hb => (hS.offX h b off hb).2.2.1, hR2.2⟩ (by omega) (hat.ext hX fun _ _ => id)) fun v45 w45 hr45 => ⟨(by obtain ⟨q2, d2, rfl, hR3, hN3, hE45⟩ := hr45; exact hC.thenNo hE45), ?_⟩)
                    obtain ⟨q2, d2, rfl, hR3, hN3, hE45⟩ := hr45
                    have hb9 := hb9.extNo hE45
                    have hb13 := hb13.extNo hE45
                    have hb15 := hb15.extNo hE45
                    have hb17 := hb17.extNo hE45
                    have hb18 := hb18.extNo hE45
                    have hQ := Nat.le_trans hQ hE45.size
                    have hZ := hZ.thenNo hE45
                    have hX := hX.thenNo hE45
                    have hC := hC.thenNo hE45
                    have hRor : (x.should l1[k]).1.wr.length ≠ 0 → ∀ b off, q2 = some ⟨b, off, none⟩ → b < w26.heap.size ∨ (w44.heap.size ≤ b ∧ b < w45.heap.size) := fun h b off hb => by
                      rcases hN3 with ⟨e1, e2⟩ | hN
                      · rw [e2] at h
                        rw [e1] at hb
                        exact .inl (hR2.lt h b off hb)
                      · exact .inr ⟨hN b off hb, hR3.lt h b off hb⟩
                    have hV := Nat.le_refl w45.heap.size
                    refine wd_k I_ok 4 rfl (wd_l rfl (st_stW (l' := refL (x.should l1[k]).1 q2 d2) I_ok hb17 rfl rfl rfl rfl OneC.h fun w46 hb17 hE46 hs46 => ⟨hC.thenNew hE46 frhC17, ?_⟩))
                    have hC := hC.thenNew hE46 frhC17
                    have hb9 := hb9.ext1 hE46 ne9_17
                    have hb13 := hb13.ext1 hE46 ne13_17
                    have hb15 := hb15.ext1 hE46 ne15_17
                    have hb18 := hb18.ext1 hE46 ne17_18.symm
                    have hQ := Nat.le_trans hQ hE46.size
                    have hV := Nat.le_trans hV hE46.size
                    have hZ := hZ.thenNew hE46 frhZ17
                    have hX := hX.thenNew hE46 fr17
                    have hR3 : RefW w46 q2 _ := ⟨Sl.ext0 hR3.1 hE46 (fun h b off hb e => by (have := hRor h b off hb); (have e : b = b17 := e); omega), hR3.2⟩
                    refine wd_l rfl (st_stW (l' := bytesL (x.should l1[k]).2.1) I_ok hb18 rfl (by rw [cells_num]) hx64 (by rw [hx64]; rfl) OneC.h fun w47 hb18 hE47 hs47 => ⟨hC.thenNew hE47 frhC18, ?_⟩)
                    have hC := hC.thenNew hE47 frhC18
                    have hb9 := hb9.ext1 hE47 ne9_18
                    have hb13 := hb13.ext1 hE47 ne13_18
                    have hb15 := hb15.ext1 hE47 ne15_18
                    have hb17 := hb17.ext1 hE47 ne17_18
                    have hQ := Nat.le_trans hQ hE47.size
                    have hV := Nat.le_trans hV hE47.size
                    have hZ := hZ.thenNew hE47 frhZ18
                    have hX := hX.thenNew hE47 fr18
                    have hR3 : RefW w47 q2 _ := ⟨Sl.ext0 hR3.1 hE47 (fun h b off hb e => by (have := hRor h b off hb); (have e : b = b18 := e); omega), hR3.2⟩
                    refine wd_k I_ok 1 rfl (wd_sw (wb_nil ?_))
                    exact f_cut ((q2, d2), b17, b18) rfl ⟨⟨hR3, hN3.wide hsZ⟩, hb9, hb13, hb15, hb17, frhQ17, hb18, frhQ18, ne17_18, hZ, hX⟩
                · refine st_al I_ok rfl fun b18 w48 hn18 hb18 hE48 => ⟨hC.thenNo hE48, ?_⟩
                  have ne9_18 : b9 ≠ b18 := Nat.ne_of_lt (Nat.lt_of_lt_of_le hb9.lt hn18)
                  have ne13_18 : b13 ≠ b18 := Nat.ne_of_lt (Nat.lt_of_lt_of_le hb13.lt hn18)
                  have ne15_18 : b15 ≠ b18 := Nat.ne_of_lt (Nat.lt_of_lt_of_le hb15.lt hn18)
                  have fr18 := Nat.le_trans hX.size hn18
                  have frhZ18 := Nat.le_trans hZ.size hn18
                  have frhQ18 := Nat.le_trans hQ hn18
                  have frhC18 := Nat.le_trans hC.size hn18
                  have hb9 := hb9.extNo hE48
                  have hb13 := hb13.extNo hE48
                  have hb15 := hb15.extNo hE48
                  have hQ := Nat.le_trans hQ hE48.size
                  have hZ := hZ.thenNo hE48
                  have hX := hX.thenNo hE48
                  have hC := hC.thenNo hE48
                  refine wx_plan [] 9 rfl (by kernel_rfl) (wd_tail rfl (wx_alt [5, 10] rfl (by kernel_rfl) ⟨⟨_, rfl, ?_⟩, ⟨_, rfl, ?_⟩, trivial⟩))
                  · have hlb9 := hb9.lt
                    have hlb13 := hb13.lt
                    have hlb15 := hb15.lt
                    have hlb18 := hb18.lt
                    have hsZ := hZ.size
                    refine st_call Try.call20 rfl rfl rfl rfl rfl rfl (should_calls w48 x rp rc hfits ⟨Sl.ext0 hR2.1 hZ fun h b off hb => (hS.offX h b off hb).2.2.1, hR2.2⟩ (by omega) (hat.ext hX fun _ _ => id)) fun v49 w49 hr49 => ⟨(by obtain ⟨q2, d2, rfl, hR3, hN3, hE49⟩ := hr49; exact hC.thenNo hE49), ?_⟩
                    obtain ⟨q2, d2, rfl, hR3, hN3, hE49⟩ := hr49
                    have hb9 := hb9.extNo hE49
                    have hb13 := hb13.extNo hE49
                    have hb15 := hb15.extNo hE49
                    have hb18 := hb18.extNo hE49
                    have hQ := Nat.le_trans hQ hE49.size
                    have hZ := hZ.thenNo hE49
                    have hX := hX.thenNo hE49
                    have hC := hC.thenNo hE49
                    have hRor : (x.should l1[k]).1.wr.length ≠ 0 → ∀ b off, q2 = some ⟨b, off, none⟩ → b < w26.heap.size ∨ (w48.heap.size ≤ b ∧ b < w49.heap.size) := fun h b off hb => by
                      rcases hN3 with ⟨e1, e2⟩ | hN
                      · rw [e2] at h
                        rw [e1] at hb
                        exact .inl (hR2.lt h b off hb)
                      · exact .inr ⟨hN b off hb, hR3.lt h b off hb⟩
                    have hV := Nat.le_refl w49.heap.size
                    refine wx_plan [(6, true), (7, true), (8, true), (9, true), (10, false), (12, false), (13, false), (14, true)] 0 rfl (by kernel_rfl) (wd_k I_ok 4 rfl (wd_l rfl (st_al I_ok rfl fun b17 w50 hn17 hb17 hE50 => ⟨hC.thenNo hE50, ?_⟩)))
                    have ne9_17 : b9 ≠ b17 := Nat.ne_of_lt (Nat.lt_of_lt_of_le hb9.lt hn17)
                    have ne13_17 : b13 ≠ b17 := Nat.ne_of_lt (Nat.lt_of_lt_of_le hb13.lt hn17)
                    have ne15_17 : b15 ≠ b17 := Nat.ne_of_lt (Nat.lt_of_lt_of_le hb15.lt hn17)
                    have ne18_17 : b18 ≠ b17 := Nat.ne_of_lt (Nat.lt_of_lt_of_le hb18.lt hn17)
                    have fr17 := Nat.le_trans hX.size hn17
                    have frhZ17 := Nat.le_trans hZ.size hn17
                    have frhQ17 := Nat.le_trans hQ hn17
                    have frhV17 := Nat.le_trans hV hn17
                    have frhC17 := Nat.le_trans hC.size hn17
                    have hb9 := hb9.extNo hE50
                    have hb13 := hb13.extNo hE50
                    have hb15 := hb15.extNo hE50
                    have hb18 := hb18.extNo hE50
                    have hR3 := hR3.extNo hE50
                    have hQ := Nat.le_trans hQ hE50.size
                    have hV := Nat.le_trans hV hE50.size
                    have hZ := hZ.thenNo hE50
                    have hX := hX.thenNo hE50
                    have hC := hC.thenNo hE50
                    refine wd_l rfl (st_stW (l' := refL (x.should l1[k]).1 q2 d2) I_ok hb17 rfl rfl rfl rfl OneC.h fun w51 hb17 hE51 hs51 => ⟨hC.thenNew hE51 frhC17, ?_⟩)
                    have hC := hC.thenNew hE51 frhC17
                    have hb9 := hb9.ext1 hE51 ne9_17
                    have hb13 := hb13.ext1 hE51 ne13_17
                    have hb15 := hb15.ext1 hE51 ne15_17
                    have hb18 := hb18.ext1 hE51 ne18_17
                    have hQ := Nat.le_trans hQ hE51.size
                    have hV := Nat.le_trans hV hE51.size
                    have hZ := hZ.thenNew hE51 frhZ17
                    have hX := hX.thenNew hE51 fr17
                    have hR3 : RefW w51 q2 _ := ⟨Sl.ext0 hR3.1 hE51 (fun h b off hb e => by (have := hRor h b off hb); (have e : b = b17 := e); omega), hR3.2⟩
                    refine wd_l rfl (st_stW (l' := bytesL (x.should l1[k]).2.1) I_ok hb18 rfl (by rw [cells_num]) hx64 (by rw [hx64]; rfl) OneC.h fun w52 hb18 hE52 hs52 => ⟨hC.thenNew hE52 frhC18, ?_⟩)
                    have hC := hC.thenNew hE52 frhC18
                    have hb9 := hb9.ext1 hE52 ne9_18
                    have hb13 := hb13.ext1 hE52 ne13_18
                    have hb15 := hb15.ext1 hE52 ne15_18
                    have hb17 := hb17.ext1 hE52 ne18_17.symm
                    have hQ := Nat.le_trans hQ hE52.size
                    have hV := Nat.le_trans hV hE52.size
                    have hZ := hZ.thenNew hE52 frhZ18
                    have hX := hX.thenNew hE52 fr18
                    have hR3 : RefW w52 q2 _ := ⟨Sl.ext0 hR3.1 hE52 (fun h b off hb e => by (have := hRor h b off hb); (have e : b = b18 := e); omega), hR3.2⟩
                    refine wd_k I_ok 1 rfl (wd_sw (wb_nil ?_))
                    exact f_cut ((q2, d2), b17, b18) rfl ⟨⟨hR3, hN3.wide hsZ⟩, hb9, hb13, hb15, hb17, frhQ17, hb18, frhQ18, ne18_17.symm, hZ, hX⟩
                  · refine st_al I_ok rfl fun b17 w53 hn17 hb17 hE53 => ⟨hC.thenNo hE53, ?_⟩
                    have ne9_17 : b9 ≠ b17 := Nat.ne_of_lt (Nat.lt_of_lt_of_le hb9.lt hn17)
                    have ne13_17 : b13 ≠ b17 := Nat.ne_of_lt (Nat.lt_of_lt_of_le hb13.lt hn17)
                    have ne15_17 : b15 ≠ b17 := Nat.ne_of_lt (Nat.lt_of_lt_of_le hb15.lt hn17)
                    have ne18_17 : b18 ≠ b17 := Nat.ne_of_lt (Nat.lt_of_lt_of_le hb18.lt hn17)
                    have fr17 := Nat.le_trans hX.size hn17
                    have frhZ17 := Nat.le_trans hZ.size hn17
                    have frhQ17 := Nat.le_trans hQ hn17
                    have frhC17 := Nat.le_trans hC.size hn17
                    have hb9 := hb9.extNo hE53
                    have hb13 := hb13.extNo hE53
                    have hb15 := hb15.extNo hE53
                    have hb18 := hb18.extNo hE53
                    have hQ := Nat.le_trans hQ hE53.size
                    have hZ := hZ.thenNo hE53
                    have hX := hX.thenNo hE53
                    have hC := hC.thenNo hE53
                    refine wx_plan [(5, false), (6, true), (7, true), (8, true), (9, true), (12, false), (13, false), (14, true)] 0 rfl (by kernel_rfl) ?_
                    have hlb9 := hb9.lt
                    have hlb13 := hb13.lt
                    have hlb15 := hb15.lt
                    have hlb18 := hb18.lt
                    have hlb17 := hb17.lt
                    have hsZ := hZ.size
                    refine wd_l rfl (st_call Try.call20 rfl rfl rfl rfl rfl rfl (should_calls w53 x rp rc hfits ⟨Sl.ext0 hR2.1 hZ fun h b off hb => (hS.offX h b off hb).2.2.1, hR2.2⟩ (by omega) (hat.ext hX fun _ _ => id)) fun v54 w54 hr54 => ⟨(by obtain ⟨q2, d2, rfl, hR3, hN3, hE54⟩ := hr54; exact hC.thenNo hE54), ?_⟩)
                    obtain ⟨q2, d2, rfl, hR3, hN3, hE54⟩ := hr54
                    have hb9 := hb9.extNo hE54
                    have hb13 := hb13.extNo hE54
                    have hb15 := hb15.extNo hE54
                    have hb18 := hb18.extNo hE54
                    have hb17 := hb17.extNo hE54
                    have hQ := Nat.le_trans hQ hE54.size
                    have hZ := hZ.thenNo hE54
                    have hX := hX.thenNo hE54
                    have hC := hC.thenNo hE54
                    have hRor : (x.should l1[k]).1.wr.length ≠ 0 → ∀ b off, q2 = some ⟨b, off, none⟩ → b < w26.heap.size ∨ (w53.heap.size ≤ b ∧ b < w54.heap.size) := fun h b off hb => by
                      rcases hN3 with ⟨e1, e2⟩ | hN
                      · rw [e2] at h
                        rw [e1] at hb
                        exact .inl (hR2.lt h b off hb)
                      · exact .inr ⟨hN b off hb, hR3.lt h b off hb⟩
                    have hV := Nat.le_refl w54.heap.size
                    refine wd_k I_ok 4 rfl (wd_l rfl (st_stW (l' := refL (x.should l1[k]).1 q2 d2) I_ok hb17 rfl rfl rfl rfl OneC.h fun w55 hb17 hE55 hs55 => ⟨hC.thenNew hE55 frhC17, ?_⟩))
                    have hC := hC.thenNew hE55 frhC17
                    have hb9 := hb9.ext1 hE55 ne9_17
                    have hb13 := hb13.ext1 hE55 ne13_17
                    have hb15 := hb15.ext1 hE55 ne15_17
                    have hb18 := hb18.ext1 hE55 ne18_17
                    have hQ := Nat.le_trans hQ hE55.size
                    have hV := Nat.le_trans hV hE55.size
                    have hZ := hZ.thenNew hE55 frhZ17
                    have hX := hX.thenNew hE55 fr17
                    have hR3 : RefW w55 q2 _ := ⟨Sl.ext0 hR3.1 hE55 (fun h b off hb e => by (have := hRor h b off hb); (have e : b = b17 := e); omega), hR3.2⟩
                    refine wd_l rfl (st_stW (l' := bytesL (x.should l1[k]).2.1) I_ok hb18 rfl (by rw [cells_num]) hx64 (by rw [hx64]; rfl) OneC.h fun w56 hb18 hE56 hs56 => ⟨hC.thenNew hE56 frhC18, ?_⟩)
                    have hC := hC.thenNew hE56 frhC18
                    have hb9 := hb9.ext1 hE56 ne9_18
                    have hb13 := hb13.ext1 hE56 ne13_18
                    have hb15 := hb15.ext1 hE56 ne15_18
                    have hb17 := hb17.ext1 hE56 ne18_17.symm
                    have hQ := Nat.le_trans hQ hE56.size
                    have hV := Nat.le_trans hV hE56.size
                    have hZ := hZ.thenNew hE56 frhZ18
                    have hX := hX.thenNew hE56 fr18
                    have hR3 : RefW w56 q2 _ := ⟨Sl.ext0 hR3.1 hE56 (fun h b off hb e => by (have := hRor h b off hb); (have e : b = b18 := e); omega), hR3.2⟩
                    refine wd_k I_ok 1 rfl (wd_sw (wb_nil ?_))
                    exact f_cut ((q2, d2), b17, b18) rfl ⟨⟨hR3, hN3.wide hsZ⟩, hb9, hb13, hb15, hb17, frhQ17, hb18, frhQ18, ne18_17.symm, hZ, hX⟩
              rintro ⟨⟨q2, d2⟩, b17, b18⟩ w57 ⟨⟨hR3, hN3⟩, hb9, hb13, hb15, hb17, hn17, hb18, hn18, ne17_18, hZ, hX⟩
              dsimp only
              dsimp only at hb17 hn17 hb18 hn18 ne17_18
              have ne9_17 : b9 ≠ b17 := Nat.ne_of_lt (Nat.lt_of_lt_of_le hltc9 hn17)
              have ne13_17 : b13 ≠ b17 := Nat.ne_of_lt (Nat.lt_of_lt_of_le hltc13 hn17)
              have ne15_17 : b15 ≠ b17 := Nat.ne_of_lt (Nat.lt_of_lt_of_le hltc15 hn17)
              have fr17 := Nat.le_trans hszc hn17
              have frhZ17 := Nat.le_trans hszchZ hn17
              have ne9_18 : b9 ≠ b18 := Nat.ne_of_lt (Nat.lt_of_lt_of_le hltc9 hn18)
              have ne13_18 : b13 ≠ b18 := Nat.ne_of_lt (Nat.lt_of_lt_of_le hltc13 hn18)
              have ne15_18 : b15 ≠ b18 := Nat.ne_of_lt (Nat.lt_of_lt_of_le hltc15 hn18)
              have fr18 := Nat.le_trans hszc hn18
              have frhZ18 := Nat.le_trans hszchZ hn18
              dsimp only at hR3 hN3
              refine c_seq (c_region (wl (st_ldB I_ok hb17 rfl rfl (wl (st_stW (l' := refL (x.should l1[k]).1 q2 d2) I_ok hb9 rfl rfl rfl rfl OneC.h fun w58 hb9 hE58 hs58 => ?_)))))
              have hb13 := hb13.ext1 hE58 ne9_13.symm
              have hb15 := hb15.ext1 hE58 ne9_15.symm
              have hb17 := hb17.ext1 hE58 ne9_17.symm
              have hb18 := hb18.ext1 hE58 ne9_18.symm
              have hZ := hZ.then (hE58.mono fun _ _ e => by have e : _ = _ := e; subst e; first | rfl | simp)
              have hX := hX.thenNew hE58 fr9
              have hR3 : RefW w58 q2 _ := ⟨Sl.ext0 hR3.1 hE58 (fun h b off hb e => by
                have e : b = b9 := e
                rcases hN3 with ⟨e1, e2⟩ | hN
                · rw [e2] at h
                  rw [e1] at hb
                  exact (hS.offX h b off hb).2.2.1 e
                · have := hN b off hb
                  omega), hR3.2⟩
              refine wl_nil (f_then (c_cutK (α := Bool) [1, 2, 7, 9, 12, 13, 14, 71, 72] rfl (fun z => [(106, .bool z)]) (fun z u => u = w58 ∧ z = false) ?_ ?_))
              · refine c_region ?_
                refine wl (st_ldB I_ok hb15 rfl hb64 (wl (st_ldB I_ok hb18 rfl hx64 ?_)))
                refine wl (st_eqA (xs := (D.act l1[k]).2.1) (ys := (x.should l1[k]).2.1) I_ok rfl (by kernel_rfl) rfl rfl (act_blk hS.okD l1[k]) ((congrArg (fun y => y.1.length) hsh).trans (act_blk hS.okD l1[k])) ?_)
                refine wl_p I_ok rfl (wl_caseD 102 rfl (fun hg => ?_) (fun hg => ?_))
                · exact absurd (congrArg Prod.fst hsh).symm hg
                · refine wl_pk I_ok 4 rfl ?_
                  refine wl_nil ?_
                  exact f_cut (_) rfl ⟨rfl, by rw [hsh]; simp⟩
              rintro z w59 ⟨hu, rfl⟩
              have hu := hu.symm
              subst hu
              refine c_condF rfl (c_skip ?_)
              exact f_cut (⟨k, (D.act l1[k]).1, Grow F w25 w26, (x.should l1[k]).1, q2, d2, E, Fc, y, q, qc⟩) rfl ⟨hS.half hXs l1[k] hat.nb hA hEh hZ hR3 hN3, hb9, hb13, hX⟩
            · refine c_skip ?_
              exact f_cut (⟨k, D, F, x, rp, rc, E, Fc, y, q, qc⟩) rfl ⟨(hI.ext hY).up (by omega), hb9, hb13, hX⟩
          rintro ⟨_, D, F, x, rp, rc, E, Fc, y, q, qc⟩ w60 ⟨hI, hb9, hb13, hX⟩
          dsimp only at hI hb9 hb13
          have hY := Ext.refl No w60
          refine c_seq (c_region (wl_p I_ok rfl (wl_nil (f_then (c_if rfl (fun hc => ?_) (fun hc => ?_))))))
          · have hk1 : k < l2.length := by omega
            obtain ⟨bl, off, r, hp, hseg, hr4, hat⟩ := hl2.get2 (Ext.refl No w) hk1
            subst hp
            refine c_seq (c_region (wl_p I_ok rfl (wl (st_ix I_ok rfl 4 rfl k rfl hk1 (off + k * 4) rfl (wl (st_ldN I_ok rfl (hseg.extNo hX) hr4 ?_))))))
            have hI := hI.ext hY
            have hS := hI.swap
            have hXs := hX.size
            have hF13 := hS.f9
            have hF9 := hS.f13
            refine wl (st_call Try.call15 rfl rfl rfl rfl rfl rfl (happens_calls w60 hS.atD hS.okD (by omega) (hat.ext hX fun _ _ => id)) fun v61 w61 hr61 => ?_)
            obtain ⟨rfl, hA, hE61⟩ := hr61
            have hb9 := hb9.ext hE61 hF9
            have hb13 := hb13.ext hE61 hF13
            have hX := hX.trans hE61 fun y hy hF => by have := hS.newD y hF; omega
            have hEh := hE61
            have hsE := hE61.size
            obtain ⟨gs, gt, hGo⟩ := hS.goD
            obtain ⟨gs2, gt2, hGo2, hsh⟩ := act_goes hGo hS.okD l2[k]
            have hfits := hGo.fits hS.okD (by omega)
            have hb64 := bytesL_len (act_blk hS.okD l2[k])
            have hx64 := bytesL_len ((congrArg (fun y => y.1.length) hsh).trans (act_blk hS.okD l2[k]))
            have hR2 : RefW w61 q y.wr := ⟨Sl.ext0 hS.refX.1 hE61 fun h b off hb => (hS.offX h b off hb).1, hS.refX.2⟩
            have hfewX := hS.fewX
            have hl9 := hS.l9
            have hZ := Ext.refl (One b13) w61
            refine wl_p I_ok rfl (wl (st_al I_ok rfl fun b20 w62 hn20 hb20 hE62 => ?_))
            have ne9_20 : b9 ≠ b20 := Nat.ne_of_lt (Nat.lt_of_lt_of_le hb9.lt hn20)
            have ne13_20 : b13 ≠ b20 := Nat.ne_of_lt (Nat.lt_of_lt_of_le hb13.lt hn20)
            have fr20 := Nat.le_trans hX.size hn20
            have frhZ20 := Nat.le_trans hZ.size hn20
            have hb9 := hb9.extNo hE62
            have hb13 := hb13.extNo hE62
            have hZ := hZ.thenNo hE62
            have hX := hX.thenNo hE62
            refine wl (st_stW (l' := bytesL (E.act l2[k]).2.1) I_ok hb20 rfl (by rw [cells_num]) hb64 (by rw [hb64]; rfl) OneC.h fun w63 hb20 hE63 hs63 => ?_)
            have hb9 := hb9.ext1 hE63 ne9_20
            have hb13 := hb13.ext1 hE63 ne13_20
            have hZ := hZ.thenNew hE63 frhZ20
            have hX := hX.thenNew hE63 fr20
            refine wl_p I_ok rfl (wl_nil (f_then ?_))
            have hltc9 := hb9.lt
            have hltc13 := hb13.lt
            have hltc20 := hb20.lt
            have hszc := hX.size
            have hszchZ := hZ.size
            refine c_cutK (α := (Option Addr × Nat) × Nat × Nat) [1, 2, 7, 9, 12, 13, 20, 21, 71, 72] rfl (fun z => [(22, .pointer (some ⟨z.2.1, 0, none⟩)), (23, .pointer (some ⟨z.2.2, 0, none⟩)), (24, .int .i64 (y.should l2[k]).2.2)]) (fun z u => (RefW u z.1.1 (y.should l2[k]).1.wr ∧ NewOr w61 q z.1.1 y.wr (y.should l2[k]).1.wr) ∧ Blk u b9 48 (refL x rp rc) ∧ Blk u b13 48 (refL y q qc) ∧ Blk u b20 29 (bytesL (E.act l2[k]).2.1) ∧ Blk u z.2.1 48 (refL (y.should l2[k]).1 z.1.1 z.1.2) ∧ w63.heap.size ≤ z.2.1 ∧ Blk u z.2.2 29 (bytesL (y.should l2[k]).2.1) ∧ w63.heap.size ≤ z.2.2 ∧ z.2.1 ≠ z.2.2 ∧ Ext (One b13) w61 u ∧ Ext No w u) ?_ ?_
            · have hQ := Nat.le_refl w63.heap.size
              refine c_drawX rfl 15 15 [] (No) (by kernel_rfl) fun w64 hE64 hs64 => ?_
              have hd9 := hb9
              have hd13 := hb13
              have hd20 := hb20
              have hXd := hX
              have hb9 := hb9.extNo hE64
              have hb13 := hb13.extNo hE64
              have hb20 := hb20.extNo hE64
              have hQ := Nat.le_trans hQ hE64.size
              have hZ := hZ.thenNo hE64
              have hX := hX.thenNo hE64
              have hC : Ext No _ w64 := hE64
              refine wx_plan [(0, true), (1, true), (2, true), (3, true), (4, true)] 10 rfl (by kernel_rfl) (wd_ldN I_ok rfl rfl (fun w' hw' => (hd13.extNo hw').seg) rfl ?_)
              refine wd_k I_ok 2 rfl (wd_ix I_ok rfl rfl 4 rfl k rfl hk1 (off + k * 4) rfl (wd_ldN I_ok rfl rfl (fun w' hw' => hseg.extNo (hXd.thenNo hw')) hr4 ?_))
              refine wd_tail rfl (wx_alt [5, 10, 11] rfl (by kernel_rfl) ⟨⟨_, rfl, ?_⟩, ⟨_, rfl, ?_⟩, ⟨_, rfl, ?_⟩, trivial⟩)
              · have hlb9 := hb9.lt
                have hlb13 := hb13.lt
                have hlb20 := hb20.lt
                have hsZ := hZ.size
                refine st_call Try.call20 rfl rfl rfl rfl rfl rfl (should_calls w64 y q qc hfits ⟨Sl.ext0 hR2.1 hZ fun h b off hb => (hS.offX h b off hb).2.2.1, hR2.2⟩ (by omega) (hat.ext hX fun _ _ => id)) fun v65 w65 hr65 => ⟨(by obtain ⟨q2, d2, rfl, hR3, hN3, hE65⟩ := hr65; exact hC.thenNo hE65), ?_⟩
                obtain ⟨q2, d2, rfl, hR3, hN3, hE65⟩ := hr65
                have hb9 := hb9.extNo hE65
                have hb13 := hb13.extNo hE65
                have hb20 := hb20.extNo hE65
                have hQ := Nat.le_trans hQ hE65.size
                have hZ := hZ.thenNo hE65
                have hX := hX.thenNo hE65
                have hC := hC.thenNo hE65
                have hRor : (y.should l2[k]).1.wr.length ≠ 0 → ∀ b off, q2 = some ⟨b, off, none⟩ → b < w61.heap.size ∨ (w64.heap.size ≤ b ∧ b < w65.heap.size) := fun h b off hb => by
                  rcases hN3 with ⟨e1, e2⟩ | hN
                  · rw [e2] at h
                    rw [e1] at hb
                    exact .inl (hR2.lt h b off hb)
                  · exact .inr ⟨hN b off hb, hR3.lt h b off hb⟩
                have hV := Nat.le_refl w65.heap.size
                refine wx_plan [(6, true), (7, true), (8, true), (9, true)] 5 rfl (by kernel_rfl) (wd_k I_ok 4 rfl (wd_tail rfl (wx_alt [10, 11] rfl (by kernel_rfl) ⟨⟨_, rfl, ?_⟩, ⟨_, rfl, ?_⟩, trivial⟩)))
                · refine st_al I_ok rfl fun b22 w66 hn22 hb22 hE66 => ⟨hC.thenNo hE66, ?_⟩
                  have ne9_22 : b9 ≠ b22 := Nat.ne_of_lt (Nat.lt_of_lt_of_le hb9.lt hn22)
                  have ne13_22 : b13 ≠ b22 := Nat.ne_of_lt (Nat.lt_of_lt_of_le hb13.lt hn22)
                  have ne20_22 : b20 ≠ b22 := Nat.ne_of_lt (Nat.lt_of_lt_of_le hb20.lt hn22)
                  have fr22 := Nat.le_trans hX.size hn22
                  have frhZ22 := Nat.le_trans hZ.size hn22
                  have frhQ22 := Nat.le_trans hQ hn22
                  have frhV22 := Nat.le_trans hV hn22
                  have frhC22 := Nat.le_trans hC.size hn22
                  have hb9 := hb9.extNo hE66
                  have hb13 := hb13.extNo hE66
                  have hb20 := hb20.extNo hE66
                  have hR3 := hR3.extNo hE66
                  have hQ := Nat.le_trans hQ hE66.size
                  have hV := Nat.le_trans hV hE66.size
                  have hZ := hZ.thenNo hE66
                  have hX := hX.thenNo hE66
                  have hC := hC.thenNo hE66
                  refine wx_plan [(11, false), (12, false), (13, false), (14, true)] 0 rfl (by kernel_rfl) (wd_l rfl (st_al I_ok rfl fun b23 w67 hn23 hb23 hE67 => ⟨hC.thenNo hE67, ?_⟩))
                  have ne9_23 : b9 ≠ b23 := Nat.ne_of_lt (Nat.lt_of_lt_of_le hb9.lt hn23)
                  have ne13_23 : b13 ≠ b23 := Nat.ne_of_lt (Nat.lt_of_lt_of_le hb13.lt hn23)
                  have ne20_23 : b20 ≠ b23 := Nat.ne_of_lt (Nat.lt_of_lt_of_le hb20.lt hn23)
                  have ne22_23 : b22 ≠ b23 := Nat.ne_of_lt (Nat.lt_of_lt_of_le hb22.lt hn23)
                  have fr23 := Nat.le_trans hX.size hn23
                  have frhZ23 := Nat.le_trans hZ.size hn23
                  have frhQ23 := Nat.le_trans hQ hn23
                  have frhV23 := Nat.le_trans hV hn23
                  have frhC23 := Nat.le_trans hC.size hn23
                  have hb9 := hb9.extNo hE67
                  have hb13 := hb13.extNo hE67
                  have hb20 := hb20.extNo hE67
                  have hb22 := hb22.extNo hE67
                  have hR3 := hR3.extNo hE67
                  have hQ := Nat.le_trans hQ hE67.size
                  have hV := Nat.le_trans hV hE67.size
                  have hZ := hZ.thenNo hE67
                  have hX := hX.thenNo hE67
                  have hC := hC.thenNo hE67
                  refine wd_l rfl (st_stW (l' := refL (y.should l2[k]).1 q2 d2) I_ok hb22 rfl rfl rfl rfl OneC.h fun w68 hb22 hE68 hs68 => ⟨hC.thenNew hE68 frhC22, ?_⟩)
                  have hC := hC.thenNew hE68 frhC22
                  have hb9 := hb9.ext1 hE68 ne9_22
                  have hb13 := hb13.ext1 hE68 ne13_22
                  have hb20 := hb20.ext1 hE68 ne20_22
                  have hb23 := hb23.ext1 hE68 ne22_23.symm
                  have hQ := Nat.le_trans hQ hE68.size
                  have hV := Nat.le_trans hV hE68.size
                  have hZ := hZ.thenNew hE68 frhZ22
                  have hX := hX.thenNew hE68 fr22
                  have hR3 : RefW w68 q2 _ := ⟨Sl.ext0 hR3.1 hE68 (fun h b off hb e => by (have := hRor h b off hb); (have e : b = b22 := e); omega), hR3.2⟩
                  refine wd_l rfl (st_stW (l' := bytesL (y.should l2[k]).2.1) I_ok hb23 rfl (by rw [cells_num]) hx64 (by rw [hx64]; rfl) OneC.h fun w69 hb23 hE69 hs69 => ⟨hC.thenNew hE69 frhC23, ?_⟩)
                  have hC := hC.thenNew hE69 frhC23
                  have hb9 := hb9.ext1 hE69 ne9_23
                  have hb13 := hb13.ext1 hE69 ne13_23
                  have hb20 := hb20.ext1 hE69 ne20_23
                  have hb22 := hb22.ext1 hE69 ne22_23
                  have hQ := Nat.le_trans hQ hE69.size
                  have hV := Nat.le_trans hV hE69.size
                  have hZ := hZ.thenNew hE69 frhZ23
                  have hX := hX.thenNew hE69 fr23
                  have hR3 : RefW w69 q2 _ := ⟨Sl.ext0 hR3.1 hE69 (fun h b off hb e => by (have := hRor h b off hb); (have e : b = b23 := e); omega), hR3.2⟩
                  refine wd_k I_ok 1 rfl (wd_sw (wb_nil ?_))
                  exact f_cut ((q2, d2), b22, b23) rfl ⟨⟨hR3, hN3.wide hsZ⟩, hb9, hb13, hb20, hb22, frhQ22, hb23, frhQ23, ne22_23, hZ, hX⟩
                · refine st_al I_ok rfl fun b23 w70 hn23 hb23 hE70 => ⟨hC.thenNo hE70, ?_⟩
                  have ne9_23 : b9 ≠ b23 := Nat.ne_of_lt (Nat.lt_of_lt_of_le hb9.lt hn23)
                  have ne13_23 : b13 ≠ b23 := Nat.ne_of_lt (Nat.lt_of_lt_of_le hb13.lt hn23)
                  have ne20_23 : b20 ≠ b23 := Nat.ne_of_lt (Nat.lt_of_lt_of_le hb20.lt hn23)
                  have fr23 := Nat.le_trans hX.size hn23
                  have frhZ23 := Nat.le_trans hZ.size hn23
                  have frhQ23 := Nat.le_trans hQ hn23
                  have frhV23 := Nat.le_trans hV hn23
                  have frhC23 := Nat.le_trans hC.size hn23
                  have hb9 := hb9.extNo hE70
                  have hb13 := hb13.extNo hE70
                  have hb20 := hb20.extNo hE70
                  have hR3 := hR3.extNo hE70
                  have hQ := Nat.le_trans hQ hE70.size
                  have hV := Nat.le_trans hV hE70.size
                  have hZ := hZ.thenNo hE70
                  have hX := hX.thenNo hE70
                  have hC := hC.thenNo hE70
                  refine wx_plan [(10, false), (12, false), (13, false), (14, true)] 0 rfl (by kernel_rfl) (wd_l rfl (st_al I_ok rfl fun b22 w71 hn22 hb22 hE71 => ⟨hC.thenNo hE71, ?_⟩))
                  have ne9_22 : b9 ≠ b22 := Nat.ne_of_lt (Nat.lt_of_lt_of_le hb9.lt hn22)
                  have ne13_22 : b13 ≠ b22 := Nat.ne_of_lt (Nat.lt_of_lt_of_le hb13.lt hn22)
                  have ne20_22 : b20 ≠ b22 := Nat.ne_of_lt (Nat.lt_of_lt_of_le hb20.lt hn22)
                  have ne23_22 : b23 ≠ b22 := Nat.ne_of_lt (Nat.lt_of_lt_of_le hb23.lt hn22)
                  have fr22 := Nat.le_trans hX.size hn22
                  have frhZ22 := Nat.le_trans hZ.size hn22
                  have frhQ22 := Nat.le_trans hQ hn22
                  have frhV22 := Nat.le_trans hV hn22
                  have frhC22 := Nat.le_trans hC.size hn22
                  have hb9 := hb9.extNo hE71
                  have hb13 := hb13.extNo hE71
                  have hb20 := hb20.extNo hE71
                  have hb23 := hb23.extNo hE71
                  have hR3 := hR3.extNo hE71
                  have hQ := Nat.le_trans hQ hE71.size
                  have hV := Nat.le_trans hV hE71.size
                  have hZ := hZ.thenNo hE71
                  have hX := hX.thenNo hE71
                  have hC := hC.thenNo hE71
                  refine wd_l rfl (st_stW (l' := refL (y.should l2[k]).1 q2 d2) I_ok hb22 rfl rfl rfl rfl OneC.h fun w72 hb22 hE72 hs72 => ⟨hC.thenNew hE72 frhC22, ?_⟩)
                  have hC := hC.thenNew hE72 frhC22
                  have hb9 := hb9.ext1 hE72 ne9_22
                  have hb13 := hb13.ext1 hE72 ne13_22
                  have hb20 := hb20.ext1 hE72 ne20_22
                  have hb23 := hb23.ext1 hE72 ne23_22
                  have hQ := Nat.le_trans hQ hE72.size
                  have hV := Nat.le_trans hV hE72.size
                  have hZ := hZ.thenNew hE72 frhZ22
                  have hX := hX.thenNew hE72 fr22
                  have hR3 : RefW w72 q2 _ := ⟨Sl.ext0 hR3.1 hE72 (fun h b off hb e => by (have := hRor h b off hb); (have e : b = b22 := e); omega), hR3.2⟩
                  refine wd_l rfl (st_stW (l' := bytesL (y.should l2[k]).2.1) I_ok hb23 rfl (by rw [cells_num]) hx64 (by rw [hx64]; rfl) OneC.h fun w73 hb23 hE73 hs73 => ⟨hC.thenNew hE73 frhC23, ?_⟩)
                  have hC := hC.thenNew hE73 frhC23
                  have hb9 := hb9.ext1 hE73 ne9_23
                  have hb13 := hb13.ext1 hE73 ne13_23
                  have hb20 := hb20.ext1 hE73 ne20_23
                  have hb22 := hb22.ext1 hE73 ne23_22.symm
                  have hQ := Nat.le_trans hQ hE73.size
                  have hV := Nat.le_trans hV hE73.size
                  have hZ := hZ.thenNew hE73 frhZ23
                  have hX := hX.thenNew hE73 fr23
                  have hR3 : RefW w73 q2 _ := ⟨Sl.ext0 hR3.1 hE73 (fun h b off hb e => by (have := hRor h b off hb); (have e : b = b23 := e); omega), hR3.2⟩
                  refine wd_k I_ok 1 rfl (wd_sw (wb_nil ?_))
                  exact f_cut ((q2, d2), b22, b23) rfl ⟨⟨hR3, hN3.wide hsZ⟩, hb9, hb13, hb20, hb22, frhQ22, hb23, frhQ23, ne23_22.symm, hZ, hX⟩
              · refine st_al I_ok rfl fun b22 w74 hn22 hb22 hE74 => ⟨hC.thenNo hE74, ?_⟩
                have ne9_22 : b9 ≠ b22 := Nat.ne_of_lt (Nat.lt_of_lt_of_le hb9.lt hn22)
                have ne13_22 : b13 ≠ b22 := Nat.ne_of_lt (Nat.lt_of_lt_of_le hb13.lt hn22)
                have ne20_22 : b20 ≠ b22 := Nat.ne_of_lt (Nat.lt_of_lt_of_le hb20.lt hn22)
                have fr22 := Nat.le_trans hX.size hn22
                have frhZ22 := Nat.le_trans hZ.size hn22
                have frhQ22 := Nat.le_trans hQ hn22
                have frhC22 := Nat.le_trans hC.size hn22
                have hb9 := hb9.extNo hE74
                have hb13 := hb13.extNo hE74
                have hb20 := hb20.extNo hE74
                have hQ := Nat.le_trans hQ hE74.size
                have hZ := hZ.thenNo hE74
                have hX := hX.thenNo hE74
                have hC := hC.thenNo hE74
                refine wx_plan [] 9 rfl (by kernel_rfl) (wd_tail rfl (wx_alt [5, 11] rfl (by kernel_rfl) ⟨⟨_, rfl, ?_⟩, ⟨_, rfl, ?_⟩, trivial⟩))
                · have hlb9 := hb9.lt
                  have hlb13 := hb13.lt
                  have hlb20 := hb20.lt
                  have hlb22 := hb22.lt
                  have hsZ := hZ.size
                  refine st_call Try.call20 rfl rfl rfl rfl rfl rfl (should_calls w74 y q qc hfits ⟨Sl.ext0 hR2.1 hZ fun h b off hb => (hS.offX h b off hb).2.2.1, hR2.2⟩ (by omega) (hat.ext hX fun _ _ => id)) fun v75 w75 hr75 => ⟨(by obtain ⟨q2, d2, rfl, hR3, hN3, hE75⟩ := hr75; exact hC.thenNo hE75), ?_⟩
                  obtain ⟨q2, d2, rfl, hR3, hN3, hE75⟩ := hr75
                  have hb9 := hb9.extNo hE75
                  have hb13 := hb13.extNo hE75
                  have hb20 := hb20.extNo hE75
                  have hb22 := hb22.extNo hE75
                  have hQ := Nat.le_trans hQ hE75.size
                  have hZ := hZ.thenNo hE75
                  have hX := hX.thenNo hE75
                  have hC := hC.thenNo hE75
                  have hRor : (y.should l2[k]).1.wr.length ≠ 0 → ∀ b off, q2 = some ⟨b, off, none⟩ → b < w61.heap.size ∨ (w74.heap.size ≤ b ∧ b < w75.heap.size) := fun h b off hb => by
                    rcases hN3 with ⟨e1, e2⟩ | hN
                    · rw [e2] at h
                      rw [e1] at hb
                      exact .inl (hR2.lt h b off hb)
                    · exact .inr ⟨hN b off hb, hR3.lt h b off hb⟩
                  have hV := Nat.le_refl w75.heap.size
                  refine wx_plan [(6, true), (7, true), (8, true), (9, true), (11, false), (12, false), (13, false), (14, true)] 0 rfl (by kernel_rfl) (wd_k I_ok 4 rfl (wd_l rfl (st_al I_ok rfl fun b23 w76 hn23 hb23 hE76 => ⟨hC.thenNo hE76, ?_⟩)))
                  have ne9_23 : b9 ≠ b23 := Nat.ne_of_lt (Nat.lt_of_lt_of_le hb9.lt hn23)
                  have ne13_23 : b13 ≠ b23 := Nat.ne_of_lt (Nat.lt_of_lt_of_le hb13.lt hn23)
                  have ne20_23 : b20 ≠ b23 := Nat.ne_of_lt (Nat.lt_of_lt_of_le hb20.lt hn23)
                  have ne22_23 : b22 ≠ b23 := Nat.ne_of_lt (Nat.lt_of_lt_of_le hb22.lt hn23)
                  have fr23 := Nat.le_trans hX.size hn23
                  have frhZ23 := Nat.le_trans hZ.size hn23
                  have frhQ23 := Nat.le_trans hQ hn23
                  have frhV23 := Nat.le_trans hV hn23
                  have frhC23 := Nat.le_trans hC.size hn23
                  have hb9 := hb9.extNo hE76
                  have hb13 := hb13.extNo hE76
                  have hb20 := hb20.extNo hE76
                  have hb22 := hb22.extNo hE76
                  have hR3 := hR3.extNo hE76
                  have hQ := Nat.le_trans hQ hE76.size
                  have hV := Nat.le_trans hV hE76.size
                  have hZ := hZ.thenNo hE76
                  have hX := hX.thenNo hE76
                  have hC := hC.thenNo hE76
                  refine wd_l rfl (st_stW (l' := refL (y.should l2[k]).1 q2 d2) I_ok hb22 rfl rfl rfl rfl OneC.h fun w77 hb22 hE77 hs77 => ⟨hC.thenNew hE77 frhC22, ?_⟩)
                  have hC := hC.thenNew hE77 frhC22
                  have hb9 := hb9.ext1 hE77 ne9_22
                  have hb13 := hb13.ext1 hE77 ne13_22
                  have hb20 := hb20.ext1 hE77 ne20_22
                  have hb23 := hb23.ext1 hE77 ne22_23.symm
                  have hQ := Nat.le_trans hQ hE77.size
                  have hV := Nat.le_trans hV hE77.size
                  have hZ := hZ.thenNew hE77 frhZ22
                  have hX := hX.thenNew hE77 fr22
                  have hR3 : RefW w77 q2 _ := ⟨Sl.ext0 hR3.1 hE77 (fun h b off hb e => by (have := hRor h b off hb); (have e : b = b22 := e); omega), hR3.2⟩
                  refine wd_l rfl (st_stW (l' := bytesL (y.should l2[k]).2.1) I_ok hb23 rfl (by rw [cells_num]) hx64 (by rw [hx64]; rfl) OneC.h fun w78 hb23 hE78 hs78 => ⟨hC.thenNew hE78 frhC23, ?_⟩)
                  have hC := hC.thenNew hE78 frhC23
                  have hb9 := hb9.ext1 hE78 ne9_23
                  have hb13 := hb13.ext1 hE78 ne13_23
                  have hb20 := hb20.ext1 hE78 ne20_23
                  have hb22 := hb22.ext1 hE78 ne22_23
                  have hQ := Nat.le_trans hQ hE78.size
                  have hV := Nat.le_trans hV hE78.size
                  have hZ := hZ.thenNew hE78 frhZ23
                  have hX := hX.thenNew hE78 fr23
                  have hR3 : RefW w78 q2 _ := ⟨Sl.ext0 hR3.1 hE78 (fun h b off hb e => by (have := hRor h b off hb); (have e : b = b23 := e); omega), hR3.2⟩
                  refine wd_k I_ok 1 rfl (wd_sw (wb_nil ?_))
                  exact f_cut ((q2, d2), b22, b23) rfl ⟨⟨hR3, hN3.wide hsZ⟩, hb9, hb13, hb20, hb22, frhQ22, hb23, frhQ23, ne22_23, hZ, hX⟩
                · refine st_al I_ok rfl fun b23 w79 hn23 hb23 hE79 => ⟨hC.thenNo hE79, ?_⟩
                  have ne9_23 : b9 ≠ b23 := Nat.ne_of_lt (Nat.lt_of_lt_of_le hb9.lt hn23)
                  have ne13_23 : b13 ≠ b23 := Nat.ne_of_lt (Nat.lt_of_lt_of_le hb13.lt hn23)
                  have ne20_23 : b20 ≠ b23 := Nat.ne_of_lt (Nat.lt_of_lt_of_le hb20.lt hn23)
                  have ne22_23 : b22 ≠ b23 := Nat.ne_of_lt (Nat.lt_of_lt_of_le hb22.lt hn23)
                  have fr23 := Nat.le_trans hX.size hn23
                  have frhZ23 := Nat.le_trans hZ.size hn23
                  have frhQ23 := Nat.le_trans hQ hn23
                  have frhC23 := Nat.le_trans hC.size hn23
                  have hb9 := hb9.extNo hE79
                  have hb13 := hb13.extNo hE79
                  have hb20 := hb20.extNo hE79
                  have hb22 := hb22.extNo hE79
                  have hQ := Nat.le_trans hQ hE79.size
                  have hZ := hZ.thenNo hE79
                  have hX := hX.thenNo hE79
                  have hC := hC.thenNo hE79
                  refine wx_plan [(5, false), (6, true), (7, true), (8, true), (9, true), (12, false), (13, false), (14, true)] 0 rfl (by kernel_rfl) ?_
                  have hlb9 := hb9.lt
                  have hlb13 := hb13.lt
                  have hlb20 := hb20.lt
                  have hlb22 := hb22.lt
                  have hlb23 := hb23.lt
                  have hsZ := hZ.size
                  refine wd_l rfl (st_call Try.call20 rfl rfl rfl rfl rfl rfl (should_calls w79 y q qc hfits ⟨Sl.ext0 hR2.1 hZ fun h b off hb => (hS.offX h b off hb).2.2.1, hR2.2⟩ (by omega) (hat.ext hX fun _ _ => id)) fun v80 w80 hr80 => ⟨(by obtain ⟨q2, d2, rfl, hR3, hN3, hE80⟩ := hr80; exact hC.thenNo hE80), ?_⟩)
                  obtain ⟨q2, d2, rfl, hR3, hN3, hE80⟩ := hr80
                  have hb9 := hb9.extNo hE80
                  have hb13 := hb13.extNo hE80
                  have hb20 := hb20.extNo hE80
                  have hb22 := hb22.extNo hE80
                  have hb23 := hb23.extNo hE80
                  have hQ := Nat.le_trans hQ hE80.size
                  have hZ := hZ.thenNo hE80
                  have hX := hX.thenNo hE80
                  have hC := hC.thenNo hE80
                  have hRor : (y.should l2[k]).1.wr.length ≠ 0 → ∀ b off, q2 = some ⟨b, off, none⟩ → b < w61.heap.size ∨ (w79.heap.size ≤ b ∧ b < w80.heap.size) := fun h b off hb => by
                    rcases hN3 with ⟨e1, e2⟩ | hN
                    · rw [e2] at h
                      rw [e1] at hb
                      exact .inl (hR2.lt h b off hb)
                    · exact .inr ⟨hN b off hb, hR3.lt h b off hb⟩
                  have hV := Nat.le_refl w80.heap.size
                  refine wd_k I_ok 4 rfl (wd_l rfl (st_stW (l' := refL (y.should l2[k]).1 q2 d2) I_ok hb22 rfl rfl rfl rfl OneC.h fun w81 hb22 hE81 hs81 => ⟨hC.thenNew hE81 frhC22, ?_⟩))
                  have hC := hC.thenNew hE81 frhC22
                  have hb9 := hb9.ext1 hE81 ne9_22
                  have hb13 := hb13.ext1 hE81 ne13_22
                  have hb20 := hb20.ext1 hE81 ne20_22
                  have hb23 := hb23.ext1 hE81 ne22_23.symm
                  have hQ := Nat.le_trans hQ hE81.size
                  have hV := Nat.le_trans hV hE81.size
                  have hZ := hZ.thenNew hE81 frhZ22
                  have hX := hX.thenNew hE81 fr22
                  have hR3 : RefW w81 q2 _ := ⟨Sl.ext0 hR3.1 hE81 (fun h b off hb e => by (have := hRor h b off hb); (have e : b = b22 := e); omega), hR3.2⟩
                  refine wd_l rfl (st_stW (l' := bytesL (y.should l2[k]).2.1) I_ok hb23 rfl (by rw [cells_num]) hx64 (by rw [hx64]; rfl) OneC.h fun w82 hb23 hE82 hs82 => ⟨hC.thenNew hE82 frhC23, ?_⟩)
                  have hC := hC.thenNew hE82 frhC23
                  have hb9 := hb9.ext1 hE82 ne9_23
                  have hb13 := hb13.ext1 hE82 ne13_23
                  have hb20 := hb20.ext1 hE82 ne20_23
                  have hb22 := hb22.ext1 hE82 ne22_23
                  have hQ := Nat.le_trans hQ hE82.size
                  have hV := Nat.le_trans hV hE82.size
                  have hZ := hZ.thenNew hE82 frhZ23
                  have hX := hX.thenNew hE82 fr23
                  have hR3 : RefW w82 q2 _ := ⟨Sl.ext0 hR3.1 hE82 (fun h b off hb e => by (have := hRor h b off hb); (have e : b = b23 := e); omega), hR3.2⟩
                  refine wd_k I_ok 1 rfl (wd_sw (wb_nil ?_))
                  exact f_cut ((q2, d2), b22, b23) rfl ⟨⟨hR3, hN3.wide hsZ⟩, hb9, hb13, hb20, hb22, frhQ22, hb23, frhQ23, ne22_23, hZ, hX⟩
              · refine st_al I_ok rfl fun b23 w83 hn23 hb23 hE83 => ⟨hC.thenNo hE83, ?_⟩
                have ne9_23 : b9 ≠ b23 := Nat.ne_of_lt (Nat.lt_of_lt_of_le hb9.lt hn23)
                have ne13_23 : b13 ≠ b23 := Nat.ne_of_lt (Nat.lt_of_lt_of_le hb13.lt hn23)
                have ne20_23 : b20 ≠ b23 := Nat.ne_of_lt (Nat.lt_of_lt_of_le hb20.lt hn23)
                have fr23 := Nat.le_trans hX.size hn23
                have frhZ23 := Nat.le_trans hZ.size hn23
                have frhQ23 := Nat.le_trans hQ hn23
                have frhC23 := Nat.le_trans hC.size hn23
                have hb9 := hb9.extNo hE83
                have hb13 := hb13.extNo hE83
                have hb20 := hb20.extNo hE83
                have hQ := Nat.le_trans hQ hE83.size
                have hZ := hZ.thenNo hE83
                have hX := hX.thenNo hE83
                have hC := hC.thenNo hE83
                refine wx_plan [] 9 rfl (by kernel_rfl) (wd_tail rfl (wx_alt [5, 10] rfl (by kernel_rfl) ⟨⟨_, rfl, ?_⟩, ⟨_, rfl, ?_⟩, trivial⟩))
                · have hlb9 := hb9.lt
                  have hlb13 := hb13.lt
                  have hlb20 := hb20.lt
                  have hlb23 := hb23.lt
                  have hsZ := hZ.size
                  refine st_call Try.call20 rfl rfl rfl rfl rfl rfl (should_calls w83 y q qc hfits ⟨Sl.ext0 hR2.1 hZ fun h b off hb => (hS.offX h b off hb).2.2.1, hR2.2⟩ (by omega) (hat.ext hX fun _ _ => id)) fun v84 w84 hr84 => ⟨(by obtain ⟨q2, d2, rfl, hR3, hN3, hE84⟩ := hr84; exact hC.thenNo hE84), ?_⟩
                  obtain ⟨q2, d2, rfl, hR3, hN3, hE84⟩ := hr84
                  have hb9 := hb9.extNo hE84
                  have hb13 := hb13.extNo hE84
                  have hb20 := hb20.extNo hE84
                  have hb23 := hb23.extNo hE84
                  have hQ := Nat.le_trans hQ hE84.size
                  have hZ := hZ.thenNo hE84
                  have hX := hX.thenNo hE84
                  have hC := hC.thenNo hE84
                  have hRor : (y.should l2[k]).1.wr.length ≠ 0 → ∀ b off, q2 = some ⟨b, off, none⟩ → b < w61.heap.size ∨ (w83.heap.size ≤ b ∧ b < w84.heap.size) := fun h b off hb => by
                    rcases hN3 with ⟨e1, e2⟩ | hN
                    · rw [e2] at h
                      rw [e1] at hb
                      exact .inl (hR2.lt h b off hb)
                    · exact .inr ⟨hN b off hb, hR3.lt h b off hb⟩
                  have hV := Nat.le_refl w84.heap.size
                  refine wx_plan [(6, true), (7, true), (8, true), (9, true), (10, false), (12, false), (13, false), (14, true)] 0 rfl (by kernel_rfl) (wd_k I_ok 4 rfl (wd_l rfl (st_al I_ok rfl fun b22 w85 hn22 hb22 hE85 => ⟨hC.thenNo hE85, ?_⟩)))
                  have ne9_22 : b9 ≠ b22 := Nat.ne_of_lt (Nat.lt_of_lt_of_le hb9.lt hn22)
                  have ne13_22 : b13 ≠ b22 := Nat.ne_of_lt (Nat.lt_of_lt_of_le hb13.lt hn22)
                  have ne20_22 : b20 ≠ b22 := Nat.ne_of_lt (Nat.lt_of_lt_of_le hb20.lt hn22)
                  have ne23_22 : b23 ≠ b22 := Nat.ne_of_lt (Nat.lt_of_lt_of_le hb23.lt hn22)
                  have fr22 := Nat.le_trans hX.size hn22
                  have frhZ22 := Nat.le_trans hZ.size hn22
                  have frhQ22 := Nat.le_trans hQ hn22
                  have frhV22 := Nat.le_trans hV hn22
                  have frhC22 := Nat.le_trans hC.size hn22
                  have hb9 := hb9.extNo hE85
                  have hb13 := hb13.extNo hE85
                  have hb20 := hb20.extNo hE85
                  have hb23 := hb23.extNo hE85
                  have hR3 := hR3.extNo hE85
                  have hQ := Nat.le_trans hQ hE85.size
                  have hV := Nat.le_trans hV hE85.size
                  have hZ := hZ.thenNo hE85
                  have hX := hX.thenNo hE85
                  have hC := hC.thenNo hE85
                  refine wd_l rfl (st_stW (l' := refL (y.should l2[k]).1 q2 d2) I_ok hb22 rfl rfl rfl rfl OneC.h fun w86 hb22 hE86 hs86 => ⟨hC.thenNew hE86 frhC22, ?_⟩)
                  have hC := hC.thenNew hE86 frhC22
                  have hb9 := hb9.ext1 hE86 ne9_22
                  have hb13 := hb13.ext1 hE86 ne13_22
                  have hb20 := hb20.ext1 hE86 ne20_22
                  have hb23 := hb23.ext1 hE86 ne23_22
                  have hQ := Nat.le_trans hQ hE86.size
                  have hV := Nat.le_trans hV hE86.size
                  have hZ := hZ.thenNew hE86 frhZ22
                  have hX := hX.thenNew hE86 fr22
                  have hR3 : RefW w86 q2 _ := ⟨Sl.ext0 hR3.1 hE86 (fun h b off hb e => by (have := hRor h b off hb); (have e : b = b22 := e); omega), hR3.2⟩
                  refine wd_l rfl (st_stW (l' := bytesL (y.should l2[k]).2.1) I_ok hb23 rfl (by rw [cells_num]) hx64 (by rw [hx64]; rfl) OneC.h fun w87 hb23 hE87 hs87 => ⟨hC.thenNew hE87 frhC23, ?_⟩)
                  have hC := hC.thenNew hE87 frhC23
                  have hb9 := hb9.ext1 hE87 ne9_23
                  have hb13 := hb13.ext1 hE87 ne13_23
                  have hb20 := hb20.ext1 hE87 ne20_23
                  have hb22 := hb22.ext1 hE87 ne23_22.symm
                  have hQ := Nat.le_trans hQ hE87.size
                  have hV := Nat.le_trans hV hE87.size
                  have hZ := hZ.thenNew hE87 frhZ23
                  have hX := hX.thenNew hE87 fr23
                  have hR3 : RefW w87 q2 _ := ⟨Sl.ext0 hR3.1 hE87 (fun h b off hb e => by (have := hRor h b off hb); (have e : b = b23 := e); omega), hR3.2⟩
                  refine wd_k I_ok 1 rfl (wd_sw (wb_nil ?_))
                  exact f_cut ((q2, d2), b22, b23) rfl ⟨⟨hR3, hN3.wide hsZ⟩, hb9, hb13, hb20, hb22, frhQ22, hb23, frhQ23, ne23_22.symm, hZ, hX⟩
                · refine st_al I_ok rfl fun b22 w88 hn22 hb22 hE88 => ⟨hC.thenNo hE88, ?_⟩
                  have ne9_22 : b9 ≠ b22 := Nat.ne_of_lt (Nat.lt_of_lt_of_le hb9.lt hn22)
                  have ne13_22 : b13 ≠ b22 := Nat.ne_of_lt (Nat.lt_of_lt_of_le hb13.lt hn22)
                  have ne20_22 : b20 ≠ b22 := Nat.ne_of_lt (Nat.lt_of_lt_of_le hb20.lt hn22)
                  have ne23_22 : b23 ≠ b22 := Nat.ne_of_lt (Nat.lt_of_lt_of_le hb23.lt hn22)
                  have fr22 := Nat.le_trans hX.size hn22
                  have frhZ22 := Nat.le_trans hZ.size hn22
                  have frhQ22 := Nat.le_trans hQ hn22
                  have frhC22 := Nat.le_trans hC.size hn22
                  have hb9 := hb9.extNo hE88
                  have hb13 := hb13.extNo hE88
                  have hb20 := hb20.extNo hE88
                  have hb23 := hb23.extNo hE88
                  have hQ := Nat.le_trans hQ hE88.size
                  have hZ := hZ.thenNo hE88
                  have hX := hX.thenNo hE88
                  have hC := hC.thenNo hE88
                  refine wx_plan [(5, false), (6, true), (7, true), (8, true), (9, true), (12, false), (13, false), (14, true)] 0 rfl (by kernel_rfl) ?_
                  have hlb9 := hb9.lt
                  have hlb13 := hb13.lt
                  have hlb20 := hb20.lt
                  have hlb23 := hb23.lt
                  have hlb22 := hb22.lt
                  have hsZ := hZ.size
                  refine wd_l rfl (st_call Try.call20 rfl rfl rfl rfl rfl rfl (should_calls w88 y q qc hfits ⟨Sl.ext0 hR2.1 hZ fun h b off hb => (hS.offX h b off hb).2.2.1, hR2.2⟩ (by omega) (hat.ext hX fun _ _ => id)) fun v89 w89 hr89 => ⟨(by obtain ⟨q2, d2, rfl, hR3, hN3, hE89⟩ := hr89; exact hC.thenNo hE89), ?_⟩)
                  obtain ⟨q2, d2, rfl, hR3, hN3, hE89⟩ := hr89
                  have hb9 := hb9.extNo hE89
                  have hb13 := hb13.extNo hE89
                  have hb20 := hb20.extNo hE89
                  have hb23 := hb23.extNo hE89
                  have hb22 := hb22.extNo hE89
                  have hQ := Nat.le_trans hQ hE89.size
                  have hZ := hZ.thenNo hE89
                  have hX := hX.thenNo hE89
                  have hC := hC.thenNo hE89
                  have hRor : (y.should l2[k]).1.wr.length ≠ 0 → ∀ b off, q2 = some ⟨b, off, none⟩ → b < w61.heap.size ∨ (w88.heap.size ≤ b ∧ b < w89.heap.size) := fun h b off hb => by
                    rcases hN3 with ⟨e1, e2⟩ | hN
                    · rw [e2] at h
                      rw [e1] at hb
                      exact .inl (hR2.lt h b off hb)
                    · exact .inr ⟨hN b off hb, hR3.lt h b off hb⟩
                  have hV := Nat.le_refl w89.heap.size
                  refine wd_k I_ok 4 rfl (wd_l rfl (st_stW (l' := refL (y.should l2[k]).1 q2 d2) I_ok hb22 rfl rfl rfl rfl OneC.h fun w90 hb22 hE90 hs90 => ⟨hC.thenNew hE90 frhC22, ?_⟩))
                  have hC := hC.thenNew hE90 frhC22
                  have hb9 := hb9.ext1 hE90 ne9_22
                  have hb13 := hb13.ext1 hE90 ne13_22
                  have hb20 := hb20.ext1 hE90 ne20_22
                  have hb23 := hb23.ext1 hE90 ne23_22
                  have hQ := Nat.le_trans hQ hE90.size
                  have hV := Nat.le_trans hV hE90.size
                  have hZ := hZ.thenNew hE90 frhZ22
                  have hX := hX.thenNew hE90 fr22
                  have hR3 : RefW w90 q2 _ := ⟨Sl.ext0 hR3.1 hE90 (fun h b off hb e => by (have := hRor h b off hb); (have e : b = b22 := e); omega), hR3.2⟩
                  refine wd_l rfl (st_stW (l' := bytesL (y.should l2[k]).2.1) I_ok hb23 rfl (by rw [cells_num]) hx64 (by rw [hx64]; rfl) OneC.h fun w91 hb23 hE91 hs91 => ⟨hC.thenNew hE91 frhC23, ?_⟩)
                  have hC := hC.thenNew hE91 frhC23
                  have hb9 := hb9.ext1 hE91 ne9_23
                  have hb13 := hb13.ext1 hE91 ne13_23
                  have hb20 := hb20.ext1 hE91 ne20_23
                  have hb22 := hb22.ext1 hE91 ne23_22.symm
                  have hQ := Nat.le_trans hQ hE91.size
                  have hV := Nat.le_trans hV hE91.size
                  have hZ := hZ.thenNew hE91 frhZ23
                  have hX := hX.thenNew hE91 fr23
                  have hR3 : RefW w91 q2 _ := ⟨Sl.ext0 hR3.1 hE91 (fun h b off hb e => by (have := hRor h b off hb); (have e : b = b23 := e); omega), hR3.2⟩
                  refine wd_k I_ok 1 rfl (wd_sw (wb_nil ?_))
                  exact f_cut ((q2, d2), b22, b23) rfl ⟨⟨hR3, hN3.wide hsZ⟩, hb9, hb13, hb20, hb22, frhQ22, hb23, frhQ23, ne23_22.symm, hZ, hX⟩
            rintro ⟨⟨q2, d2⟩, b22, b23⟩ w92 ⟨⟨hR3, hN3⟩, hb9, hb13, hb20, hb22, hn22, hb23, hn23, ne22_23, hZ, hX⟩
            dsimp only
            dsimp only at hb22 hn22 hb23 hn23 ne22_23
            have ne9_22 : b9 ≠ b22 := Nat.ne_of_lt (Nat.lt_of_lt_of_le hltc9 hn22)
            have ne13_22 : b13 ≠ b22 := Nat.ne_of_lt (Nat.lt_of_lt_of_le hltc13 hn22)
            have ne20_22 : b20 ≠ b22 := Nat.ne_of_lt (Nat.lt_of_lt_of_le hltc20 hn22)
            have fr22 := Nat.le_trans hszc hn22
            have frhZ22 := Nat.le_trans hszchZ hn22
            have ne9_23 : b9 ≠ b23 := Nat.ne_of_lt (Nat.lt_of_lt_of_le hltc9 hn23)
            have ne13_23 : b13 ≠ b23 := Nat.ne_of_lt (Nat.lt_of_lt_of_le hltc13 hn23)
            have ne20_23 : b20 ≠ b23 := Nat.ne_of_lt (Nat.lt_of_lt_of_le hltc20 hn23)
            have fr23 := Nat.le_trans hszc hn23
            have frhZ23 := Nat.le_trans hszchZ hn23
            dsimp only at hR3 hN3
            refine c_seq (c_region (wl (st_ldB I_ok hb22 rfl rfl (wl (st_stW (l' := refL (y.should l2[k]).1 q2 d2) I_ok hb13 rfl rfl rfl rfl OneC.h fun w93 hb13 hE93 hs93 => ?_)))))
            have hb9 := hb9.ext1 hE93 ne9_13
            have hb20 := hb20.ext1 hE93 ne13_20.symm
            have hb22 := hb22.ext1 hE93 ne13_22.symm
            have hb23 := hb23.ext1 hE93 ne13_23.symm
            have hZ := hZ.then (hE93.mono fun _ _ e => by have e : _ = _ := e; subst e; first | rfl | simp)
            have hX := hX.thenNew hE93 fr13
            have hR3 : RefW w93 q2 _ := ⟨Sl.ext0 hR3.1 hE93 (fun h b off hb e => by
              have e : b = b13 := e
              rcases hN3 with ⟨e1, e2⟩ | hN
              · rw [e2] at h
                rw [e1] at hb
                exact (hS.offX h b off hb).2.2.1 e
              · have := hN b off hb
                omega), hR3.2⟩
            refine wl_nil (f_then (c_cutK (α := Bool) [1, 2, 7, 9, 12, 13, 71, 72] rfl (fun z => [(138, .bool z)]) (fun z u => u = w93 ∧ z = false) ?_ ?_))
            · refine c_region ?_
              refine wl (st_ldB I_ok hb20 rfl hb64 (wl (st_ldB I_ok hb23 rfl hx64 ?_)))
              refine wl (st_eqA (xs := (E.act l2[k]).2.1) (ys := (y.should l2[k]).2.1) I_ok rfl (by kernel_rfl) rfl rfl (act_blk hS.okD l2[k]) ((congrArg (fun y => y.1.length) hsh).trans (act_blk hS.okD l2[k])) ?_)
              refine wl_p I_ok rfl (wl_caseD 134 rfl (fun hg => ?_) (fun hg => ?_))
              · exact absurd (congrArg Prod.fst hsh).symm hg
              · refine wl_pk I_ok 4 rfl ?_
                refine wl_nil ?_
                exact f_cut (_) rfl ⟨rfl, by rw [hsh]; simp⟩
            rintro z w94 ⟨hu, rfl⟩
            have hu := hu.symm
            subst hu
            refine c_condF rfl (c_skip ?_)
            exact f_blockN (f_cut (⟨k, D, F, x, rp, rc, (E.act l2[k]).1, Grow Fc w60 w61, (y.should l2[k]).1, q2, d2⟩) rfl ⟨(hS.half hXs l2[k] hat.nb hA hEh hZ hR3 hN3).swap.up (by omega), hb9, hb13, hX⟩)
          · refine c_skip ?_
            exact f_blockN (f_cut (⟨k, D, F, x, rp, rc, E, Fc, y, q, qc⟩) rfl ⟨(hI.ext hY).up (by omega), hb9, hb13, hX⟩)
        rintro ⟨_, D, F, x, rp, rc, E, Fc, y, q, qc⟩ w95 ⟨hI, hb9, hb13, hX⟩
        dsimp only at hI hb9 hb13
        refine c_region (wl_p I_ok rfl ?_)
        rw [IntWalk.i64_in _ (by omega)]
        refine wl_nil ?_
        exact f_round (⟨k + 1, D, F, x, rp, rc, E, Fc, y, q, qc⟩) rfl ⟨⟨by dsimp only; omega, by (have e : l.length + 2 * (k + 1) = l.length + 2 * k + 2 := by omega); rw [e]; exact hI⟩, hb9, hb13, hX⟩ (by first | omega | (dsimp only; omega))
      · refine c_exit ?_
        refine f_thenE (f_thenE (f_blockE (f_then (c_cutK (α := Unit) [] rfl (fun z => [(6, .bool true)]) (fun z u => Ext No w25 u ∧ Ext No w u) ?_ ?_))))
        · refine c_region ?_
          refine wl_p I_ok rfl (wl (st_ldB I_ok hb9 rfl rfl ?_))
          obtain ⟨gs, gt, hGo⟩ := hI.goD
          refine wl (st_call Try.call21 rfl rfl rfl rfl rfl rfl (stands_calls w25 (hI.atD.extNo hY) hI.okD (by omega) x rp rc (hI.refX.extNo hY) (by have := hI.fewX; omega) hGo) fun v96 w96 hr96 => ?_)
          obtain ⟨rfl, hE96⟩ := hr96
          have hb9 := hb9.extNo hE96
          have hb13 := hb13.extNo hE96
          have hY := hY.thenNo hE96
          have hX := hX.thenNo hE96
          refine wl_p I_ok rfl (wl_case 143 rfl (fun hg => ?_) (fun hg => ?_))
          · refine wl_pk I_ok 1 rfl ?_
            refine wl (st_ldB I_ok hb13 rfl rfl ?_)
            obtain ⟨gs2, gt2, hGo2⟩ := hI.goE
            refine wl (st_call Try.call21 rfl rfl rfl rfl rfl rfl (stands_calls w96 (hI.atE.extNo hY) hI.okE (by omega) y q qc (hI.refY.extNo hY) (by have := hI.fewY; omega) hGo2) fun v97 w97 hr97 => ?_)
            obtain ⟨rfl, hE97⟩ := hr97
            have hb9 := hb9.extNo hE97
            have hb13 := hb13.extNo hE97
            have hY := hY.thenNo hE97
            have hX := hX.thenNo hE97
            refine wl_p I_ok rfl (wl_nil ?_)
            exact f_cut (()) rfl ⟨hY, hX⟩
          · cases hg
        rintro ⟨⟩ w98 ⟨hY, hX⟩
        refine c_ret (f_ret1 rfl rfl ?_)
        exact ⟨rfl, hX⟩
end Go.Proofs.Ytoldbdocgimpnaa
