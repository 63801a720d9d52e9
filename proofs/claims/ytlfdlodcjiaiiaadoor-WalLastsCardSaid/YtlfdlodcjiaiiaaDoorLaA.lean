/-
  WalLasts: wherever the power goes, what is opened tells what was told last, or what was under way; and goes on from there.
-/
import Derived.Test.YtlfdlodcjiaiiaaDoorTie
import Derived.Test.YtlfdlodcjiaiiaaDoorCards
import Derived.SevenTiedAt
import Derived.Test.YtlfdlodcjiaiiaaDoorCrA
namespace Go.Proofs.YtlfdlodcjiaiiaaDoor
open Go.Vc
theorem TaleAt.shape {G : Nat → Prop} {u : World} {t : List Bytes} {v : Value} (h : TaleAt u G t v) : ∃ q c, v = .slice q t.length c := by
  obtain ⟨q, c, rows, h1, _⟩ := h
  exact ⟨q, c, h1⟩
theorem TaleAt.mono {G G' : Nat → Prop} {u : World} {t : List Bytes} {v : Value} (h : TaleAt u G t v) (hG : ∀ y, G y → G' y) : TaleAt u G' t v := by
  obtain ⟨q, c, rows, h1, h2, h3, h4, h5⟩ := h
  exact ⟨q, c, rows, h1, h2, h3, h4.mono hG, fun y off e h0 => hG y (h5 y off e h0)⟩
def TlI (u : World) (G : Nat → Prop) (t : List Bytes) (v : Value) : Prop := TaleAt u G t v ∧ ∀ y, G y → y < u.heap.size
theorem TlI.ext {S G : Nat → Prop} {u u' : World} {t : List Bytes} {v : Value} (h : TlI u G t v) (hE : Ext S u u') (hS : ∀ y, G y → ¬ S y) : TlI u' G t v := ⟨h.1.ext hE hS, fun y hy => Nat.lt_of_lt_of_le (h.2 y hy) hE.size⟩
theorem TlI.extNo {G : Nat → Prop} {u u' : World} {t : List Bytes} {v : Value} (h : TlI u G t v) (hE : Ext No u u') : TlI u' G t v := h.ext hE fun _ _ => id
theorem mem_take_one {ms : List (List Bytes)} {ps : List Bytes} {i : Nat} (hi : i < ms.length) : ps ∈ ms.take (i + 1) ↔ ps ∈ ms.take i ∨ ms[i] = ps := by
  rw [List.take_succ_eq_append_getElem hi, List.mem_append, List.mem_singleton]
  exact ⟨fun h => h.imp id Eq.symm, fun h => h.imp id Eq.symm⟩
/-- the tales that may be told -/
def MayAt (u : World) (G : Nat → Prop) (ms : List (List Bytes)) (v : Value) : Prop := ∃ q c rows, v = .slice q ms.length c ∧ Sl u q ms.length 1 rows ∧ rows.length = ms.length ∧ (∀ (i : Nat) (t : List Bytes) (tv : Value), ms[i]? = some t → rows[i]? = some tv → TaleAt u G t tv) ∧ (∀ y off, q = some ⟨y, off, none⟩ → G y)
theorem MayAt.ext {S G : Nat → Prop} {u u' : World} {ms : List (List Bytes)} {v : Value} (h : MayAt u G ms v) (hE : Ext S u u') (hS : ∀ y, G y → ¬ S y) : MayAt u' G ms v := by
  obtain ⟨q, c, rows, h1, h2, h3, h4, h5⟩ := h
  exact ⟨q, c, rows, h1, h2.ext hE fun y off e => hS y (h5 y off e), h3, fun i t tv a b => (h4 i t tv a b).ext hE hS, h5⟩
def MayI (u : World) (F : Nat → Prop) (ms : List (List Bytes)) (v : Value) : Prop := ∃ G, MayAt u G ms v ∧ ∀ y, G y → y < u.heap.size ∧ ¬ F y
theorem MayI.extNo {F : Nat → Prop} {u u' : World} {ms : List (List Bytes)} {v : Value} (h : MayI u F ms v) (hE : Ext No u u') : MayI u' F ms v := by
  obtain ⟨G, h1, h2⟩ := h
  exact ⟨G, h1.ext hE fun _ _ => id, fun y hy => ⟨Nat.lt_of_lt_of_le (h2 y hy).1 hE.size, (h2 y hy).2⟩⟩
theorem MayI.to {F F' : Nat → Prop} {u u' : World} {ms : List (List Bytes)} {v : Value} (h : MayI u F ms v) (hE : Ext F u u') (hF : ∀ y, F' y → F y ∨ u.heap.size ≤ y) : MayI u' F' ms v := by
  obtain ⟨G, h1, h2⟩ := h
  refine ⟨G, h1.ext hE fun y hy => (h2 y hy).2, fun y hy => ⟨Nat.lt_of_lt_of_le (h2 y hy).1 hE.size, fun e => ?_⟩⟩
  rcases hF y e with e | e
  · exact (h2 y hy).2 e
  · have := (h2 y hy).1; omega
theorem MayI.one {S F : Nat → Prop} {u u' : World} {ms : List (List Bytes)} {v : Value} (h : MayI u F ms v) (hE : Ext S u u') (hS : ∀ y, y < u.heap.size → ¬ S y) : MayI u' F ms v := by
  obtain ⟨G, h1, h2⟩ := h
  exact ⟨G, h1.ext hE fun y hy => hS y (h2 y hy).1, fun y hy => ⟨Nat.lt_of_lt_of_le (h2 y hy).1 hE.size, (h2 y hy).2⟩⟩
theorem may_one {u : World} {F G : Nat → Prop} {b : Nat} {T : Nat} {t : List Bytes} {tv : Value} (hb : Blk u b T [tv]) (ht : TaleAt u G t tv) (hG : ∀ y, G y → y < u.heap.size ∧ ¬ F y) (hF : ¬ F b) : MayI u F [t] (.slice (some ⟨b, 0, none⟩) 1 1) :=
  ⟨fun y => y = b ∨ G y, ⟨some ⟨b, 0, none⟩, 1, [tv], rfl, ⟨rfl, .inr ⟨b, 0, rfl, hb.seg⟩⟩, rfl, fun i t' tv' h1 h2 => by
    have hi : i = 0 := by have := (List.getElem?_eq_some_iff.1 h1).1; simp at this; omega
    subst hi
    simp at h1 h2
    subst h1 h2
    exact ht.mono fun y hy => .inr hy, fun y off e => by cases e; exact .inl rfl⟩, fun y hy => by
    rcases hy with rfl | hy
    · exact ⟨hb.lt, hF⟩
    · exact hG y hy⟩
theorem may_two {u : World} {F G G' : Nat → Prop} {p : Option Addr} {c T : Nat} {t t' : List Bytes} {tv tv' : Value} (hb : Own u p 2 c T 1 [tv, tv']) (ht : TaleAt u G t tv) (ht' : TaleAt u G' t' tv') (hG : ∀ y, G y → y < u.heap.size ∧ ¬ F y) (hG' : ∀ y, G' y → y < u.heap.size ∧ ¬ F y) (hF : ∀ y, OwnB p y → ¬ F y) : MayI u F [t, t'] (.slice p 2 c) :=
  ⟨fun y => OwnB p y ∨ G y ∨ G' y, ⟨p, c, [tv, tv'], rfl, hb.sl, rfl, fun i t1 tv1 h1 h2 => by
    have hi : i < 2 := (List.getElem?_eq_some_iff.1 h1).1
    rcases (by omega : i = 0 ∨ i = 1) with rfl | rfl
    · simp at h1 h2
      subst h1 h2
      exact ht.mono fun y hy => .inr (.inl hy)
    · simp at h1 h2
      subst h1 h2
      exact ht'.mono fun y hy => .inr (.inr hy), fun y off e => .inl (OwnB.of hb e)⟩, fun y hy => by
    rcases hy with hy | hy | hy
    · exact ⟨hb.lt hy, hF y hy⟩
    · exact hG y hy
    · exact hG' y hy⟩
/-- one more deed -/
def moreD : DeedD := ⟨0, 50, 77, none, [], 0⟩
theorem moreD_then (t : List Bytes) : thenD t moreD = t ++ [bytesD moreD] := if_neg (by decide)
theorem more_len : (bytesD moreD).length = 50 := by rw [bytesD_len]; decide
theorem lasts_calls (w : World) (hr : Rt w) {p : Option Addr} {c : Nat} {l : List DeedD} (hs : Sl w p l.length 4 (l.flatMap DeedD.cells)) (hc : l.length ≤ c) (o : DeedD) (hk : Sl w o.p o.keep.length 1 (o.keep.map Value.bool)) (hkc : o.keep.length ≤ o.c)
    {p2 : Option Addr} {c2 : Nat} {l2 : List DeedD} (hs2 : Sl w p2 l2.length 4 (l2.flatMap DeedD.cells)) (hc2 : l2.length ≤ c2) (hd2 : ∀ o ∈ l2, Sl w o.p o.keep.length 1 (o.keep.map Value.bool) ∧ o.keep.length ≤ o.c) :
    CallsV Tryd.prog 4 [.slice p l.length c, o.v, .slice p2 l2.length c2] w fun v w' => v = .bool true ∧ Ext No w w' := by
  refine calls_enter Tryd.func4 rfl rfl rfl rfl ?_
  have hX := Ext.refl No w
  have hr0 := hr.lt
  have hrt := hr
  have hkw := hk
  have hsw2 := hs2
  have hn36 : (l.take 36).length = min l.length 36 := by rw [List.length_take, Nat.min_comm]
  refine c_seq (c_region (wl (st_al I_ok rfl fun b4 w1 hn4 hb4 hE1 => ?_)))
  have fr4 := Nat.le_trans hX.size hn4
  have hrt := Rt.ext hrt hE1 id
  have hX := hX.thenNo hE1
  have hb4 : Blk w1 b4 36 (o.cells) := hb4
  refine wl_p I_ok rfl (wl_nil (f_then (c_seq (c_seq (c_region (wl (st_call Tryd.call8 rfl rfl rfl rfl rfl rfl (wakes_calls w1 hrt) fun v2 w2 hr2 => ?_)))))))
  obtain ⟨rfl, hE2⟩ := hr2
  have hb4 := hb4.extNo hE2
  have hrt := Rt.ext hrt hE2 id
  have hX := hX.thenNo hE2
  refine wl_p I_ok rfl (wl_nil (f_then (c_condF rfl (c_skip (f_then (c_seq (c_region (wl_p I_ok rfl ?_))))))))
  obtain ⟨wq, hwq⟩ : ∃ u, u = w2 := ⟨_, rfl⟩
  have hwqs : w.heap.size ≤ wq.heap.size := by rw [hwq]; exact hX.size
  have hq0 : 0 < wq.heap.size := by omega
  have hb4q : b4 < wq.heap.size := by rw [hwq]; exact hb4.lt
  refine wl (st_call Tryd.call9 rfl rfl rfl rfl rfl rfl (lived_calls w2 hrt (a := 9) (by decide) (hs.extNo hX) hc) fun v3 w3 hr3 => ?_)
  obtain ⟨d, x, z0, rfl, hlv, hE3⟩ := hr3
  have hb4 := hb4.extNo hE3
  have hrt := Rt.ext hrt hE3 id
  have hX := hX.thenNo hE3
  have hqE := hE3.size
  rw [← hwq] at hlv hqE
  have hlive := live_take (a := 9) (by decide) (l.take 36) (l.take 36).length (Nat.le_refl _)
  have hfirm := live_firm (a := 9) (by decide) (l.take 36) (l.take 36).length (Nat.le_refl _)
  rw [List.take_length] at hlive hfirm
  obtain ⟨W0, hW0⟩ : ∃ W, W = livedD 9 (l.take 36) := ⟨_, rfl⟩
  rw [← hW0] at hlv hlive hfirm
  have hmq : 6000 + 2000 * (l.take 36).length ≤ 78000 := by omega
  have hlive : LiveOk 9 78000 W0 := ⟨hlive.ok, hlive.dk.mono hmq, hlive.calm, hlive.size, hlive.well⟩
  have hpl0 := hlive.ok.few
  have hpz0 := hlive.ok.size.2
  refine wl_p I_ok rfl (wl_nil (f_then (c_seq (c_seq (c_region (wl_p I_ok rfl (wl_nil (f_then (c_condF rfl (c_skip (f_then (c_seq (c_region (wl_p I_ok rfl (wl (st_ld I_ok rfl (hb4.cell rfl) (wl_p I_ok rfl ?_)))))))))))))))))
  refine wl (st_st I_ok hb4 rfl rfl rfl fun w4 hb4 hE4 hs4 => ?_)
  have hlv := hlv.ext hE4 (fun y hy e => by have e : y = b4 := e; have := (hlv.lo y hy).1; omega) (fun e => by have e : 0 = b4 := e; omega)
  have hX := hX.thenNew hE4 fr4
  have hb4 : Blk w4 b4 36 (({ o with kind := Int.tmod o.kind 7 } : DeedD).cells) := hb4
  obtain ⟨o1, ho1⟩ : ∃ o1 : DeedD, o1 = { o with kind := Int.tmod o.kind 7 } := ⟨_, rfl⟩
  rw [← ho1] at hb4
  refine wl_nil (f_then (c_cutK (α := DeedD) [2, 4, 7, 8, 9] rfl (fun z => []) (fun z u => ((z.p = o.p ∧ z.keep = o.keep ∧ z.c = o.c) ∧ LvI wq u d x W0 W0.pieces z0) ∧ Blk u b4 36 (z.cells) ∧ Ext No w u) ?_ ?_))
  · refine c_seq ?_
    refine c_region (wl (st_ldB I_ok hb4 rfl rfl (wl (st_call Tryd.call12 rfl rfl rfl rfl rfl rfl (which_calls w4 o1) fun v5 w5 hr5 => ?_))))
    obtain ⟨rfl, hE5⟩ := hr5
    have hb4 := hb4.extNo hE5
    have hlv := hlv.extNo hE5
    have hX := hX.thenNo hE5
    refine wl_p I_ok rfl (wl_nil (f_then (c_if rfl (fun hc => ?_) (fun hc => ?_))))
    · refine c_region ?_
      refine wl_p I_ok rfl (wl (st_st I_ok hb4 rfl rfl rfl fun w6 hb4 hE6 hs6 => ?_))
      have hlv := hlv.ext hE6 (fun y hy e => by have e : y = b4 := e; have := (hlv.lo y hy).1; omega) (fun e => by have e : 0 = b4 := e; omega)
      have hX := hX.thenNew hE6 fr4
      have hb4 : Blk w6 b4 36 (({ o1 with kind := 0 } : DeedD).cells) := hb4
      refine wl_nil ?_
      exact f_cut ({ o1 with kind := 0 }) rfl ⟨⟨by rw [ho1]; exact ⟨rfl, rfl, rfl⟩, hlv⟩, hb4, hX⟩
    · refine c_skip ?_
      exact f_cut (o1) rfl ⟨⟨by rw [ho1]; exact ⟨rfl, rfl, rfl⟩, hlv⟩, hb4, hX⟩
  rintro o2 w7 ⟨⟨⟨hop, hokp, hoc⟩, hlv⟩, hb4, hX⟩
  refine c_seq (c_seq (c_region (wl_p I_ok rfl (wl (st_ld I_ok rfl (hb4.cell rfl) (wl_p I_ok rfl ?_))))))
  refine wl (st_call Tryd.call20 rfl rfl rfl rfl rfl rfl (dk_arm w7 hlv.at_ (IntKind.i64.wrap ((IntKind.u64.wrap (o2.byte.toNat : Int)).tmod 24))) fun v8 w8 hr8 => ?_)
  obtain ⟨rfl, hA9, hE8⟩ := hr8
  obtain ⟨k9, hk9⟩ : ∃ k9, k9 = u64N (o2.byte.toNat : Int) % 24 := ⟨_, rfl⟩
  have h24 := Nat.mod_lt (u64N (o2.byte.toNat : Int)) (by decide : 0 < 24)
  have harm : W0.D.arm (IntKind.i64.wrap ((IntKind.u64.wrap (o2.byte.toNat : Int)).tmod 24)) = ({ W0.D with fuse := (k9 : Int) }, 0) := by
    rw [show IntKind.i64.wrap ((IntKind.u64.wrap (o2.byte.toNat : Int)).tmod 24) = (k9 : Int) from by rw [hk9]; exact u64_mod _ 24 (by decide) (by decide), arm_calm hlive.calm]
  rw [harm] at hA9
  rw [harm]
  have hX := hlv.no hwqs hX hE8
  have hb4 := hb4.ext hE8 fun e => by have := (hlv.lo b4 (.inl e)).1; omega
  have hlv : LvI wq w8 d x (armW W0 k9) W0.pieces z0 := hlv.disk hq0 hA9 hE8
  refine wl_p I_ok rfl (wl_nil (f_then (c_condF rfl (c_skip (f_then (c_seq (c_region (wl_p I_ok rfl (wl (st_ldB I_ok hb4 rfl rfl ?_))))))))))
  have hwu : wq.heap.size ≤ w8.heap.size := hlv.dv.size
  refine wl (st_call Tryd.call14 rfl rfl rfl rfl rfl rfl (lput_calls w8 o2 hlv.log hlv.at_ (dsk_armed hlive.dk (by omega)) (by omega) (hlive.ok.armed _) hlv.rt (fun e => by have := (hlv.lo 0 (.inl e)).1; omega) hlv.hf) fun v9 w9 hr9 => ?_)
  obtain ⟨rfl, hq2⟩ := hr9
  obtain ⟨_, hXp, hEp, F3, H3, hlv3⟩ := hlv.put2 hwqs hwu hq0 hX ⟨rfl, hq2⟩
  have hb4 := hb4.ext hEp fun e => e.elim (fun e => by have := (hlv.lo b4 (.inl e)).1; omega) fun e => by have := (hlv.lo b4 (.inr (.inl e))).1; omega
  have hX := hXp
  have hdv := hlv3.dv
  dsimp only at hdv
  have htl := hlv3.tale
  dsimp only at htl
  have hG0 : ∀ y, z0.2.2.2 y → y < w9.heap.size ∧ ¬ F3 y := fun y hy => ⟨(hlv3.lo y (.inr (.inr hy))).2, (hlv3.gf y hy).1⟩
  have hFl := hdv.at_.lt
  have hthl : (thenD W0.pieces o2).length ≤ 1001 := by unfold thenD; split <;> simp <;> omega
  have hput := put_armed hlive hfirm.1 hfirm.2 (n := k9) (by omega) o2 (keepD o2)
  have hpok := (put_fine (W := armW W0 k9) (dsk_armed hlive.dk (by omega)) (hlive.ok.armed _) o2).1
  obtain ⟨R, hR⟩ : ∃ R, R = putD (armW W0 k9) o2 := ⟨_, rfl⟩
  rw [← hR] at hdv hput hpok ⊢
  obtain ⟨tq, tc, hte⟩ := htl.shape
  rw [hte] at htl ⊢
  refine wl_p I_ok rfl (wl_nil (f_then (c_seq (c_region (wl_p I_ok rfl ?_)))))
  obtain ⟨wt, hwt⟩ : ∃ u, u = w9 := ⟨_, rfl⟩
  have hX12 := hX.size
  rw [← hwt] at hG0 hFl
  refine wl (st_bs I_ok rfl 1 rfl rfl rfl (by decide) (by decide) (by simp [partsOk]) (l' := [.slice tq W0.pieces.length tc]) rfl fun b57 w10 hn57 hb57 hE10 hs10 => ?_)
  have ne4_57 : b4 ≠ b57 := Nat.ne_of_lt (Nat.lt_of_lt_of_le hb4.lt hn57)
  have fr57 := Nat.le_trans hX.size hn57
  have hb4 := hb4.extNo hE10
  have hdv := hdv.extNo hE10
  have htl := htl.extNo hE10
  have hX := hX.thenNo hE10
  have hn12 : wt.heap.size ≤ b57 := by rw [hwt]; assumption
  have hs12 : wt.heap.size ≤ w10.heap.size := by rw [hwt]; exact hE10.size
  have hFb : ∀ y, wt.heap.size ≤ y → ¬ F3 y := fun y hy e => by have := hFl y e; omega
  have hmay : MayI w10 F3 [W0.pieces] (.slice (some ⟨b57, 0, none⟩) 1 1) := may_one hb57 htl (fun y hy => ⟨by have := (hG0 y hy).1; omega, (hG0 y hy).2⟩) (hFb _ hn12)
  refine wl_p I_ok rfl (wl_nil (f_then ?_))
  refine c_cutK (α := Value × List (List Bytes)) [2, 4, 7] rfl (fun z => [(12, z.1)]) (fun z u => (MayI u F3 z.2 z.1 ∧ DvI wq u d F3 R.1.D ∧ z.2.length ≤ 2 ∧ (∀ m ∈ z.2, m.length ≤ 2000) ∧ ∀ ps, (R.2 = 0 → ps = thenD W0.pieces o2) → (R.2 ≠ 0 → R.2 ≠ 9 → ps = W0.pieces) → (ps = W0.pieces ∨ ps = thenD W0.pieces o2) → ps ∈ z.2) ∧ Blk u b4 36 (o2.cells) ∧ Ext No w u) ?_ ?_
  · refine c_seq ?_
    refine c_region (wl_p I_ok rfl (wl_nil (f_then (c_block (c_seq (c_region (wl_p I_ok rfl (wl_nil (f_then (c_if rfl (fun hc => ?_) (fun hc => ?_)))))))))))
    · refine c_region ?_
      refine wl_p I_ok rfl (wl (st_ldB I_ok hb4 rfl rfl ?_))
      have hs15 := hX.size
      have hb57l := hb57.lt
      refine wl (st_call Tryd.call15 rfl rfl rfl rfl rfl rfl (then_calls w10 o2 htl (fun y hy => by have := (hG0 y hy).1; omega) (by omega)) fun v11 w11 hr11 => ?_)
      obtain ⟨G4, ht4, hG4, hG4l, hE11⟩ := hr11
      have hb4 := hb4.extNo hE11
      have hb57 := hb57.extNo hE11
      have hdv := hdv.extNo hE11
      have htl := htl.extNo hE11
      have hmay := hmay.extNo hE11
      have hX := hX.thenNo hE11
      have hs152 := hE11.size
      obtain ⟨tq4, tc4, rfl⟩ := ht4.shape
      refine wl (st_bs I_ok rfl 1 rfl rfl rfl (by decide) (by decide) (by simp [partsOk]) (l' := [.slice tq4 (thenD W0.pieces o2).length tc4]) rfl fun b64 w12 hn64 hb64 hE12 hs12 => ?_)
      have ne4_64 : b4 ≠ b64 := Nat.ne_of_lt (Nat.lt_of_lt_of_le hb4.lt hn64)
      have ne57_64 : b57 ≠ b64 := Nat.ne_of_lt (Nat.lt_of_lt_of_le hb57.lt hn64)
      have fr64 := Nat.le_trans hX.size hn64
      have hb4 := hb4.extNo hE12
      have hb57 := hb57.extNo hE12
      have hdv := hdv.extNo hE12
      have htl := htl.extNo hE12
      have hmay := hmay.extNo hE12
      have ht4 := ht4.extNo hE12
      have hX := hX.thenNo hE12
      have hs153 := hE12.size
      have hG4' : ∀ y, G4 y → ¬ F3 y := fun y hy => (hG4 y hy).elim (fun e => (hG0 y e).2) fun e => hFb y (by omega)
      have hmay3 : MayI w12 F3 [thenD W0.pieces o2] (.slice (some ⟨b64, 0, none⟩) 1 1) := may_one hb64 ht4 (fun y hy => ⟨by have := hG4l y hy; omega, hG4' y hy⟩) (hFb _ (by omega))
      refine wl_p I_ok rfl (wl_nil ?_)
      exact f_blockN (f_cut ((.slice (some ⟨b64, 0, none⟩) 1 1, [thenD W0.pieces o2])) rfl ⟨⟨hmay3, hdv, by dsimp only; simp, fun m hm => by rw [List.mem_singleton.1 hm]; omega, fun ps h1 _ _ => by rw [h1 hc]; simp⟩, hb4, hX⟩)
    · have hne0 : ¬ R.2 = 0 := hc
      refine c_seq (c_region (wl_p I_ok rfl (wl_nil (f_then (c_if rfl (fun hc => ?_) (fun hc => ?_))))))
      · refine c_region ?_
        refine wl_p I_ok rfl (wl (st_ldB I_ok hb4 rfl rfl ?_))
        have hs15 := hX.size
        have hb57l := hb57.lt
        refine wl (st_call Tryd.call15 rfl rfl rfl rfl rfl rfl (then_calls w10 o2 htl (fun y hy => by have := (hG0 y hy).1; omega) (by omega)) fun v13 w13 hr13 => ?_)
        obtain ⟨G4, ht4, hG4, hG4l, hE13⟩ := hr13
        have hb4 := hb4.extNo hE13
        have hb57 := hb57.extNo hE13
        have hdv := hdv.extNo hE13
        have htl := htl.extNo hE13
        have hmay := hmay.extNo hE13
        have hX := hX.thenNo hE13
        have hs152 := hE13.size
        obtain ⟨tq4, tc4, rfl⟩ := ht4.shape
        refine wl (st_bs I_ok rfl 1 rfl rfl rfl (by decide) (by decide) (by simp [partsOk]) (l' := [.slice tq4 (thenD W0.pieces o2).length tc4]) rfl fun b71 w14 hn71 hb71 hE14 hs14 => ?_)
        have ne4_71 : b4 ≠ b71 := Nat.ne_of_lt (Nat.lt_of_lt_of_le hb4.lt hn71)
        have ne57_71 : b57 ≠ b71 := Nat.ne_of_lt (Nat.lt_of_lt_of_le hb57.lt hn71)
        have fr71 := Nat.le_trans hX.size hn71
        have hb4 := hb4.extNo hE14
        have hb57 := hb57.extNo hE14
        have hdv := hdv.extNo hE14
        have htl := htl.extNo hE14
        have hmay := hmay.extNo hE14
        have ht4 := ht4.extNo hE14
        have hX := hX.thenNo hE14
        have hs174 := hE14.size
        have hs175 := hX.size
        have hs175b := w14.heap.size
        refine wl (st_app I_ok rfl 1 24 rfl rfl rfl (by decide) (Own.blk (n := 1) (c := 1) hb57 1 rfl (Nat.le_refl _) (by decide)) (Src.slice (m := 1) ⟨rfl, .inr ⟨b71, 0, rfl, hb71.seg⟩⟩ OneC.h) (by dsimp only [maxLen]; omega) (by dsimp only; omega) fun p15 c15 w15 ho15 hE15 hB15 => ?_)
        have hs176 := hE15.size
        have hX := hX.trans hE15 fun y hy e => by cases e; omega
        have hb4 := hb4.ext hE15 fun e => by cases e; omega
        have htl := htl.ext hE15 fun y hy e => by cases e; have := (hG0 _ hy).1; omega
        have hdv := hdv.ext hE15 (fun y hy e => by cases e; exact hFb _ hn12 hy) fun e => by cases e; omega
        have ht4 := ht4.ext hE15 fun y hy e => by cases e; exact (hG4 _ hy).elim (fun e => by have := (hG0 _ e).1; omega) fun e => by omega
        have ho1 : Own w15 p15 2 c15 28 1 [.slice tq W0.pieces.length tc, .slice tq4 (thenD W0.pieces o2).length tc4] := ho15
        have hG4' : ∀ y, G4 y → ¬ F3 y := fun y hy => (hG4 y hy).elim (fun e => (hG0 y e).2) fun e => hFb y (by omega)
        have hmay4 : MayI w15 F3 [W0.pieces, thenD W0.pieces o2] (.slice p15 2 c15) := may_two ho1 htl ht4 (fun y hy => ⟨by have := (hG0 y hy).1; omega, (hG0 y hy).2⟩) (fun y hy => ⟨by have := hG4l y hy; omega, hG4' y hy⟩) fun y hy => (hB15 y hy).elim (fun e => by cases e; exact hFb _ hn12) fun e => hFb _ (by omega)
        refine wl_p I_ok rfl (wl_nil ?_)
        exact f_blockN (f_cut ((.slice p15 2 c15, [W0.pieces, thenD W0.pieces o2])) rfl ⟨⟨hmay4, hdv, by dsimp only; simp, fun m hm => by simp only [List.mem_cons, List.not_mem_nil, or_false] at hm; rcases hm with rfl | rfl <;> omega, fun ps _ _ h3 => by rcases h3 with rfl | rfl <;> simp⟩, hb4, hX⟩)
      · refine c_skip ?_
        exact f_blockN (f_cut ((.slice (some ⟨b57, 0, none⟩) 1 1, [W0.pieces])) rfl ⟨⟨hmay, hdv, by dsimp only; simp, fun m hm => by rw [List.mem_singleton.1 hm]; omega, fun ps _ h2 _ => by rw [h2 hne0 hc]; simp⟩, hb4, hX⟩)
  rintro ⟨mv, ms⟩ w16 ⟨⟨hmay, hdv, hml, hmlen, hin⟩, hb4, hX⟩
  try dsimp only
  dsimp only at hmay hml hmlen hin
  refine c_seq (c_seq (c_region (wl_p I_ok rfl (wl (st_ldB I_ok hb4 rfl rfl ?_)))))
  have hFl18 := hdv.at_.lt
  refine wl (st_call Tryd.call22 rfl rfl rfl rfl rfl rfl (keep_calls w16 o2 (by rw [hop, hokp]; exact hkw.extNo hX) (by rw [hokp, hoc]; exact hkc)) fun v17 w17 hr17 => ?_)
  obtain ⟨kq, kc, rfl, hks, hkn, hE17⟩ := hr17
  have hb4 := hb4.extNo hE17
  have hdv := hdv.extNo hE17
  have hmay := hmay.extNo hE17
  have hX := hX.thenNo hE17
  have hwu18 := hdv.size
  refine wl (st_call Tryd.call21 rfl rfl rfl rfl rfl rfl (dk_crash w17 hdv.at_ hpok (by omega) rfl hks (fun b off e hF => by have := hFl18 b hF; have := hkn b off e; omega)) fun v18 w18 hr18 => ?_)
  obtain ⟨rfl, hA18, hE18⟩ := hr18
  have hX := hdv.no hwqs hX hE18
  have hb4 := hb4.ext hE18 fun e => by have := hdv.lo b4 e; omega
  have hdv := hdv.to ⟨hq0, hwu18⟩ hA18 hE18 fun y hy => .inl hy
  have hmay := hmay.to hE18 fun y hy => .inl hy
  obtain ⟨t, ps, hdown, hps1, hps2, hps3⟩ := hput
  have hps := hin ps hps1 hps2 hps3
  obtain ⟨D0, hD0⟩ : ∃ D, D = R.1.D.crash (keepD o2) := ⟨_, rfl⟩
  rw [← hD0] at hdv hdown
  refine wl_p I_ok rfl (wl_nil (f_then (c_condF rfl (c_skip (f_then (c_seq (c_seq (c_region (wl_p I_ok rfl ?_)))))))))
  refine wl (st_sl I_ok rfl 0 (min l2.length 4) c2 4 rfl (.inr ⟨rfl, rfl⟩) (.inl (congrArg some (minI _ _))) (.inr ⟨rfl, rfl⟩) (Nat.zero_le _) (by omega) (Nat.le_refl _) ?_)
  rw [slBase_zero, Nat.sub_zero, Nat.sub_zero]
  refine wl_p I_ok rfl (wl_nil (f_then (c_block ?_)))
  refine c_loopK (α := Nat × (Nat → Prop) × Dsk) [7, 12, 82, 83] rfl (fun z => [(84, .int .i64 (z.1 : Int))]) (fun z u => (z.1 ≤ min l2.length 4 ∧ DvI wq u d z.2.1 z.2.2 ∧ Down z.2.2 (80000 + 5000 * z.1) 20 t 9 ps ∧ MayI u z.2.1 ms mv) ∧ Ext No w u) (fun z u => min l2.length 4 - z.1) (0, F3, D0) rfl ⟨⟨Nat.zero_le _, hdv, hdown.mono (by omega), hmay⟩, hX⟩ ?_
  rintro ⟨i, F, D⟩ w19 ⟨⟨hi, hdv, hdown, hmay⟩, hX⟩
  try dsimp only
  dsimp only at hi hdv hdown hmay
  refine c_seq (c_region (wl_p I_ok rfl (wl_nil (f_then (c_seq (c_if rfl (fun hc => ?_) (fun hc => ?_)))))))
  · have hil : i < min l2.length 4 := by omega
    have hi2 : i < l2.length := by omega
    have hsw : Sl w19 p2 l2.length 4 (l2.flatMap DeedD.cells) := hsw2.extNo hX
    obtain ⟨pb, po, rfl, hsr⟩ := hsw.rowAll (fun r _ => deed_len r) (by omega)
    obtain ⟨o8, ho8⟩ : ∃ o, o = l2[i] := ⟨_, rfl⟩
    have hd8 := hd2 o8 (by rw [ho8]; exact List.getElem_mem hi2)
    refine c_skip (f_then (c_seq (c_block (c_seq (c_region (wl (st_ix I_ok rfl 4 rfl i rfl (by omega) (po + i * 4) rfl (wl (st_ldN I_ok rfl (hsr i hi2) (deed_len _) ?_)))))))))
    rw [← ho8]
    have hFl22 := hdv.at_.lt
    obtain ⟨GM, hGM, hGM2⟩ := hmay
    refine wl (st_al I_ok rfl fun b14 w20 hn14 hb14 hE20 => ?_)
    have fr14 := Nat.le_trans hX.size hn14
    have hdv := hdv.extNo hE20
    have hGM := hGM.ext hE20 fun _ _ => id
    have hX := hX.thenNo hE20
    have hs22 := hE20.size
    have hnb14 : ∀ y, F y → y ≠ b14 := fun y hy e => by have := hFl22 y hy; omega
    have hnG : ∀ y, GM y → y ≠ b14 := fun y hy e => by have := (hGM2 y hy).1; omega
    refine wl (st_stW (l' := o8.cells) I_ok hb14 rfl rfl (deed_len _) (deed_len _) (deed_one _) fun w21 hb14 hE21 hs21 => ?_)
    have hdv := hdv.ext hE21 (fun y hy e => by have e : y = b14 := e; exact hnb14 y hy e) (fun e => by have e : 0 = b14 := e; omega)
    have hGM := hGM.ext hE21 fun y hy e => by have e : y = b14 := e; exact hnG y hy e
    have hX := hX.thenNew hE21 fr14
    have hb14 : Blk w21 b14 36 (o8.cells) := hb14
    have hs223 := hE21.size
    have hmay : MayI w21 F ms mv := ⟨GM, hGM, fun y hy => ⟨by have := (hGM2 y hy).1; omega, (hGM2 y hy).2⟩⟩
    refine wl_nil (f_then (c_seq (c_region (wl_p I_ok rfl (wl (st_ld I_ok rfl (hb14.cell rfl) (wl_p I_ok rfl ?_)))))))
    have hwu23 := hdv.size
    obtain ⟨wn, hwn⟩ : ∃ u, u = w21 := ⟨_, rfl⟩
    refine wl (st_call Tryd.call20 rfl rfl rfl rfl rfl rfl (dk_arm w21 hdv.at_ (IntKind.i64.wrap ((IntKind.u64.wrap o8.num).tmod 14))) fun v22 w22 hr22 => ?_)
    obtain ⟨rfl, hA23, hE22⟩ := hr22
    obtain ⟨k8, hk8⟩ : ∃ k, k = u64N o8.num % 14 := ⟨_, rfl⟩
    have h14 := Nat.mod_lt (u64N o8.num) (by decide : 0 < 14)
    have harm8 : D.arm (IntKind.i64.wrap ((IntKind.u64.wrap o8.num).tmod 14)) = ({ D with fuse := (k8 : Int) }, 0) := by
      rw [show IntKind.i64.wrap ((IntKind.u64.wrap o8.num).tmod 14) = (k8 : Int) from by rw [hk8]; exact u64_mod _ 14 (by decide) (by decide), arm_calm hdown.calm]
    rw [harm8] at hA23
    rw [harm8]
    have hX := hdv.no hwqs hX hE22
    have hb14 := hb14.ext hE22 fun e => hnb14 _ e rfl
    have hdv := hdv.to ⟨hq0, hwu23⟩ hA23 hE22 fun y hy => .inl hy
    have hmay := hmay.to hE22 fun y hy => .inl hy
    refine wl_nil (f_then (c_seq (c_region (wl_p I_ok rfl ?_))))
    have hwu24 := hdv.size
    refine wl (st_call Tryd.call23 rfl rfl rfl rfl rfl rfl (open_calls w22 hdv.at_ (dsk_armed hdown.ok (n := k8) (by omega)) (by omega) hdv.rt (fun e => by have := hdv.lo 0 e; omega)) fun v23 w23 hr23 => ?_)
    obtain ⟨xa, F24, rfl, hA24, hE23, hF24, _, _⟩ := hr23
    have hX := hdv.no hwqs hX hE23
    have hb14 := hb14.ext hE23 fun e => hnb14 _ e rfl
    have hdv := hdv.to ⟨hq0, hwu24⟩ hA24 hE23 hF24
    have hmay := hmay.to hE23 hF24
    obtain ⟨hok24, he24, hd24⟩ := hdown.armed (k := k8) (by omega)
    obtain ⟨X, hX24⟩ : ∃ X, X = openW { D with fuse := (k8 : Int) } := ⟨_, rfl⟩
    rw [← hX24] at hok24 he24 hd24 hdv ⊢
    refine wl_p I_ok rfl (wl_nil (f_then (c_cutK (α := Bool) [7, 12, 82, 83, 84] rfl (fun z => [(112, .bool z)]) (fun z u => (z = false ∧ DvI wq u d F24 (X.1.crash (keepD o8)) ∧ MayI u F24 ms mv) ∧ Ext No w u) ?_ ?_)))
    · refine c_region ?_
      refine wl_p I_ok rfl (wl_caseD 102 rfl (fun hg => ?_) (fun hg => ?_))
      · refine wl_pk I_ok 4 rfl ?_
        refine wl_caseD 106 rfl (fun hg => ?_) (fun hg => ?_)
        · omega
        · refine wl_pk I_ok 1 rfl ?_
          refine wl (st_ldB I_ok hb14 rfl rfl ?_)
          have hFl25 := hdv.at_.lt
          refine wl (st_call Tryd.call22 rfl rfl rfl rfl rfl rfl (keep_calls w23 o8 (hd8.1.extNo hX) hd8.2) fun v24 w24 hr24 => ?_)
          obtain ⟨kq, kc, rfl, hks, hkn, hE24⟩ := hr24
          have hb14 := hb14.extNo hE24
          have hdv := hdv.extNo hE24
          have hmay := hmay.extNo hE24
          have hX := hX.thenNo hE24
          have hwu25 := hdv.size
          refine wl (st_call Tryd.call21 rfl rfl rfl rfl rfl rfl (dk_crash w24 hdv.at_ hok24 (by omega) rfl hks (fun b off e hF => by have := hFl25 b hF; have := hkn b off e; omega)) fun v25 w25 hr25 => ?_)
          obtain ⟨rfl, hA25, hE25⟩ := hr25
          have hX := hdv.no hwqs hX hE25
          have hdv := hdv.to ⟨hq0, hwu25⟩ hA25 hE25 fun y hy => .inl hy
          have hmay := hmay.to hE25 fun y hy => .inl hy
          refine wl_pk I_ok 2 rfl (wl_nil ?_)
          exact f_cut (decide ((0 : Int) ≠ 0)) rfl ⟨⟨by simp, hdv, hmay⟩, hX⟩
      · refine wl_pk I_ok 5 rfl ?_
        refine wl (st_ldB I_ok hb14 rfl rfl ?_)
        have hFl25 := hdv.at_.lt
        refine wl (st_call Tryd.call22 rfl rfl rfl rfl rfl rfl (keep_calls w23 o8 (hd8.1.extNo hX) hd8.2) fun v26 w26 hr26 => ?_)
        obtain ⟨kq, kc, rfl, hks, hkn, hE26⟩ := hr26
        have hb14 := hb14.extNo hE26
        have hdv := hdv.extNo hE26
        have hmay := hmay.extNo hE26
        have hX := hX.thenNo hE26
        have hwu25 := hdv.size
        refine wl (st_call Tryd.call21 rfl rfl rfl rfl rfl rfl (dk_crash w26 hdv.at_ hok24 (by omega) rfl hks (fun b off e hF => by have := hFl25 b hF; have := hkn b off e; omega)) fun v27 w27 hr27 => ?_)
        obtain ⟨rfl, hA25, hE27⟩ := hr27
        have hX := hdv.no hwqs hX hE27
        have hdv := hdv.to ⟨hq0, hwu25⟩ hA25 hE27 fun y hy => .inl hy
        have hmay := hmay.to hE27 fun y hy => .inl hy
        refine wl_pk I_ok 2 rfl (wl_nil ?_)
        exact f_cut (decide ((0 : Int) ≠ 0)) rfl ⟨⟨by simp, hdv, hmay⟩, hX⟩
    rintro z w28 ⟨⟨rfl, hdv, hmay⟩, hX⟩
    refine c_condF rfl (c_skip (f_blockN (f_then (c_region (wl_p I_ok rfl ?_)))))
    rw [IntWalk.i64_in _ (by omega)]
    refine wl_nil ?_
    exact f_round (i + 1, F24, X.1.crash (keepD o8)) rfl ⟨⟨by dsimp only; omega, hdv, (hd24 (keepD o8)).mono (by dsimp only; omega), hmay⟩, hX⟩ (by first | omega | (dsimp only; omega))
  · refine c_exit ?_
    refine f_thenE (f_thenE (f_blockE (f_then (c_seq (c_region (wl_p I_ok rfl ?_))))))
    have hwu28 := hdv.size
    refine wl (st_call Tryd.call23 rfl rfl rfl rfl rfl rfl (open_calls w19 hdv.at_ hdown.ok (by omega) hdv.rt (fun e => by have := hdv.lo 0 e; omega)) fun v29 w29 hr29 => ?_)
    obtain ⟨xa, F28, rfl, hA28, hE29, hF28, _, hlo28⟩ := hr29
    have hX := hdv.no hwqs hX hE29
    have hdv := hdv.to ⟨hq0, hwu28⟩ hA28 hE29 hF28
    have hmay := hmay.to hE29 hF28
    obtain ⟨D28, hop28, hdown28, hz28, hW28, hopW28⟩ := hdown.opens
    have hdown28 : Down D28 105000 20 t 9 ps := hdown28.mono (by omega)
    rw [hopW28, hop28] at hlo28
    rw [hop28] at hdv ⊢
    dsimp only at hdv hlo28 ⊢
    obtain ⟨xA, HA, rfl, hlA, hHA⟩ := hlo28 rfl
    have hHA' : ∀ y, HA y → wq.heap.size ≤ y ∧ ¬ F28 y := fun y hy => ⟨by have := (hHA y hy).1; omega, (hHA y hy).2⟩
    refine wl_p I_ok rfl (wl_nil (f_then (c_seq (c_cutK (α := Bool) [7, 12, 17] rfl (fun z => [(126, .bool z)]) (fun z u => (z = false ∧ DvI wq u d F28 D28 ∧ MayI u F28 ms mv ∧ LogAt u xA d HA (upW D28 t 9 ps)) ∧ Ext No w u) ?_ ?_))))
    · refine c_region ?_
      refine wl_p I_ok rfl (wl_case 121 rfl (fun hg => ?_) (fun hg => ?_))
      · cases hg
      · refine wl_pk I_ok 1 rfl ?_
        refine wl (st_call Tryd.call24 rfl rfl rfl rfl rfl rfl (dk_pending w29 hdv.at_ hdown28.ok (by omega)) fun v30 w30 hr30 => ?_)
        obtain ⟨bp, rfl, _, _, hE30⟩ := hr30
        have hdv := hdv.extNo hE30
        have hmay := hmay.extNo hE30
        have hlA := hlA.extNo hE30
        have hX := hX.thenNo hE30
        rw [show D28.order.length = 0 from by rw [hdown28.rest]; rfl]
        refine wl_pk I_ok 3 rfl (wl_nil ?_)
        exact f_cut (decide ((0 : Int) < ((0 : Nat) : Int))) rfl ⟨⟨by simp, hdv, hmay, hlA⟩, hX⟩
    rintro z w31 ⟨⟨rfl, hdv, ⟨GM, ⟨mq, mc, mrows, rfl, hms, hmr, hmt, _⟩, hGM2⟩, hlA⟩, hX⟩
    refine c_condF rfl (c_skip (f_then (c_seq (c_region (wl_p I_ok rfl ?_)))))
    have hFl31 := hdv.at_.lt
    have hHl31 := hlA.lt
    refine wl (st_call Tryd.call16 rfl rfl rfl rfl rfl rfl (tells_calls w31 hlA hW28) fun v32 w32 hr32 => ?_)
    obtain ⟨ta, GA, rfl, htA0, hGA, hE32⟩ := hr32
    have hdv := hdv.extNo hE32
    have hlA := hlA.extNo hE32
    have hms := hms.extNo hE32
    have hmt := fun (i : Nat) (t : List Bytes) (tv : Value) (a : ms[i]? = some t) (b : mrows[i]? = some tv) => (hmt i t tv a b).extNo hE32
    have hX := hX.thenNo hE32
    have htA : TlI w32 GA ps ta := ⟨htA0, fun y hy => (hGA y hy).2⟩
    have hGAF : ∀ y, GA y → ¬ F28 y ∧ ¬ HA y := fun y hy => ⟨fun e => by have := hFl31 y e; have := (hGA y hy).1; omega, fun e => by have := hHl31 y e; have := (hGA y hy).1; omega⟩
    refine wl_p I_ok rfl (wl_nil (f_then (c_seq (c_region (wl_p I_ok rfl (wl_nil (f_then (c_seq (c_seq (c_region (wl_p I_ok rfl (wl_nil (f_then (c_block ?_))))))))))))))
    refine c_loopK (α := Nat × Bool) [7, 10, 17, 19, 132, 133] rfl (fun z => [(20, .bool z.2), (134, .int .i64 (z.1 : Int))]) (fun z u => (z.1 ≤ ms.length ∧ z.2 = decide (ps ∈ ms.take z.1) ∧ DvI wq u d F28 D28 ∧ LogAt u xA d HA (upW D28 t 9 ps) ∧ TlI u GA ps ta ∧ Sl u mq ms.length 1 mrows ∧ (∀ (i : Nat) (t : List Bytes) (tv : Value), ms[i]? = some t → mrows[i]? = some tv → TaleAt u GM t tv)) ∧ Ext No w u) (fun z u => ms.length - z.1) (0, false) rfl ⟨⟨Nat.zero_le _, by simp, hdv, hlA, htA, hms, hmt⟩, hX⟩ ?_
    rintro ⟨i, met⟩ w33 ⟨⟨hi, hmet, hdv, hlA, htA, hms, hmt⟩, hX⟩
    try dsimp only
    dsimp only at hi hmet
    refine c_seq (c_region (wl_p I_ok rfl (wl_nil (f_then (c_seq (c_if rfl (fun hc => ?_) (fun hc => ?_)))))))
    · have him : i < ms.length := by omega
      have hri : i < mrows.length := by omega
      obtain ⟨mb, mo, rfl, hmseg⟩ := hms.2.resolve_left (by omega)
      have htm := hmt i ms[i] mrows[i] (by simp) (by simp)
      obtain ⟨xq, xc, hxe⟩ := htm.shape
      have hmr1 : mrows[i]? = some (.slice xq (ms[i]).length xc) := by rw [← hxe]; simp
      rw [hxe] at htm
      refine c_skip (f_then ?_)
      refine c_cutK (α := Bool) [7, 10, 17, 19, 132, 133, 134] rfl (fun z => [(20, .bool z)]) (fun z u => (z = decide (ps ∈ ms.take (i + 1)) ∧ DvI wq u d F28 D28 ∧ LogAt u xA d HA (upW D28 t 9 ps) ∧ TlI u GA ps ta ∧ Sl u (some ⟨mb, mo, none⟩) ms.length 1 mrows ∧ (∀ (i : Nat) (t : List Bytes) (tv : Value), ms[i]? = some t → mrows[i]? = some tv → TaleAt u GM t tv)) ∧ Ext No w u) ?_ ?_
      · refine c_block ?_
        refine c_seq (c_region (wl (st_ix I_ok rfl 1 rfl i rfl him (mo + i * 1) rfl (wl (st_ld I_ok rfl (hmseg _ _ (by rw [Nat.mul_one]; exact hmr1)) (wl_p I_ok rfl (wl_nil (f_then (c_region (wl_p I_ok rfl ?_))))))))))
        refine wl_case 139 rfl (fun hg => ?_) (fun hg => ?_)
        · refine wl_pk I_ok 5 rfl ?_
          refine wl_nil ?_
          exact f_blockN (f_cut (true) rfl ⟨⟨(decide_eq_true ((mem_take_one him).2 (.inl (of_decide_eq_true (hmet.symm.trans hg))))).symm, hdv, hlA, htA, hms, hmt⟩, hX⟩)
        · refine wl_pk I_ok 2 rfl ?_
          refine wl (st_call Tryd.call17 rfl rfl rfl rfl rfl rfl (is_calls w33 htm htA.1 (by have := hmlen ms[i] (List.getElem_mem him); omega)) fun v34 w34 hr34 => ?_)
          obtain ⟨rfl, hE34⟩ := hr34
          have hdv := hdv.extNo hE34
          have hlA := hlA.extNo hE34
          have hms := hms.extNo hE34
          have hmt := fun (i : Nat) (t : List Bytes) (tv : Value) (a : ms[i]? = some t) (b : mrows[i]? = some tv) => (hmt i t tv a b).extNo hE34
          have htA := htA.extNo hE34
          have hX := hX.thenNo hE34
          refine wl_p I_ok rfl (wl_nil ?_)
          exact f_blockN (f_cut (decide (ms[i] = ps)) rfl ⟨⟨by have hnm : ¬ ps ∈ ms.take i := of_decide_eq_false (hmet.symm.trans hg); exact decide_eq_decide.2 ((mem_take_one him).trans (or_iff_right hnm)).symm, hdv, hlA, htA, hms, hmt⟩, hX⟩)
      rintro met2 w35 ⟨⟨hmet2, hdv, hlA, htA, hms, hmt⟩, hX⟩
      refine c_region (wl_p I_ok rfl ?_)
      rw [IntWalk.i64_in _ (by omega)]
      refine wl_nil ?_
      exact f_round (i + 1, met2) rfl ⟨⟨by dsimp only; omega, hmet2, hdv, hlA, htA, hms, hmt⟩, hX⟩ (by first | omega | (dsimp only; omega))
    · have hil : i = ms.length := by omega
      have hmet1 : met = true := by rw [hmet, hil, List.take_length]; exact decide_eq_true hps
      refine c_exit (f_thenE (f_thenE (f_blockE (f_then (c_seq (c_cutK (α := Bool) [7, 17, 19] rfl (fun z => [(150, .bool z)]) (fun z u => (z = false ∧ DvI wq u d F28 D28 ∧ LogAt u xA d HA (upW D28 t 9 ps) ∧ TlI u GA ps ta) ∧ Ext No w u) ?_ ?_))))))
      · refine c_region ?_
        refine wl_p I_ok rfl (wl_case 147 rfl (fun hg => ?_) (fun hg => ?_))
        · cases hg
        · refine wl_pk I_ok 3 rfl ?_
          refine wl_nil ?_
          exact f_cut (!met) rfl ⟨⟨by rw [hmet1]; rfl, hdv, hlA, htA⟩, hX⟩
      rintro z w36 ⟨⟨rfl, hdv, hlA, htA⟩, hX⟩
      refine c_condF rfl (c_skip (f_then (c_seq (c_region (wl (st_bd I_ok rfl (by simp [partsOk]; decide) (l' := moreD.cells) rfl ?_))))))
      have hFl40 := hdv.at_.lt
      have hHl40 := hlA.lt
      have hGl40 := htA.2
      refine wl (st_al I_ok rfl fun b23 w37 hn23 hb23 hE37 => ?_)
      have fr23 := Nat.le_trans hX.size hn23
      have hdv := hdv.extNo hE37
      have hlA := hlA.extNo hE37
      have htA := htA.extNo hE37
      have hX := hX.thenNo hE37
      have hnb23 : ∀ y, F28 y → y ≠ b23 := fun y hy e => by have := hFl40 y hy; omega
      have hnH23 : ∀ y, HA y → y ≠ b23 := fun y hy e => by have := hHl40 y hy; omega
      have hnA : ∀ y, GA y → y ≠ b23 := fun y hy e => by have := hGl40 y hy; omega
      have h23q : wq.heap.size ≤ b23 := by have := hdv.lo d hdv.own; have := hFl40 d hdv.own; omega
      refine wl (st_stW (l' := moreD.cells) I_ok hb23 rfl rfl (deed_len _) (deed_len _) (deed_one _) fun w38 hb23 hE38 hs38 => ?_)
      have hdv := hdv.ext hE38 (fun y hy e => by have e : y = b23 := e; exact hnb23 y hy e) (fun e => by have e : 0 = b23 := e; omega)
      have hlA := hlA.ext hE38 fun y hy e => by have e : y = b23 := e; exact hnH23 y hy e
      have htA := htA.ext hE38 fun y hy e => by have e : y = b23 := e; exact hnA y hy e
      have hX := hX.thenNew hE38 fr23
      have hb23 : Blk w38 b23 36 (moreD.cells) := hb23
      obtain ⟨hok41, ps2, hdown41, hps2⟩ := hdown28.append hz28 hW28 (bytesD moreD)
      obtain ⟨R2, hR2⟩ : ∃ R2, R2 = (upW D28 t 9 ps).append (bytesD moreD) := ⟨_, rfl⟩
      rw [← hR2] at hok41 hdown41 hps2
      refine wl_nil (f_then (c_cutK (α := (Nat → Prop) × Value × (Nat → Prop)) [7] rfl (fun z => [(19, z.2.1)]) (fun z u => (DvI wq u d z.1 R2.1.D ∧ TlI u z.2.2 ps2 z.2.1 ∧ ∀ y, z.2.2 y → ¬ z.1 y) ∧ Ext No w u) ?_ ?_))
      · refine c_seq ?_
        refine c_region (wl_p I_ok rfl (wl (st_ldB I_ok hb23 rfl rfl ?_)))
        have hFl41 := hdv.at_.lt
        have hHl41 := hlA.lt
        have hGl41 := htA.2
        refine wl (st_call Tryd.call13 rfl rfl rfl rfl rfl rfl (dbytes_calls w38 moreD) fun v39 w39 hr39 => ?_)
        obtain ⟨q, k, rfl, hq, hnq, hE39⟩ := hr39
        have hb23 := hb23.extNo hE39
        have hdv := hdv.extNo hE39
        have hlA := hlA.extNo hE39
        have htA := htA.extNo hE39
        have hX := hX.thenNo hE39
        have hwu41 := hdv.size
        obtain ⟨wz, hwz⟩ : ∃ u, u = w39 := ⟨_, rfl⟩
        refine wl (st_call Tryd.call25 rfl rfl rfl rfl rfl rfl (append_calls w39 hlA hdv.at_ hdown28.ok (by omega) hW28 hq.sl (by rw [more_len]; decide) hdv.rt (fun e => by have := hdv.lo 0 e; omega) (fun y hy => (hHA' y hy).2) (fun y off e => by have e2 : OwnB q y := OwnB.of hq e; have hl := hq.lt e2; have hn := hnq y e2; exact ⟨fun e => by have := hFl41 y e; omega, fun e => by have := hHl41 y e; omega⟩)) fun v40 w40 hr40 => ?_)
        obtain ⟨rfl, F4, H4, hA4, _, hF4, _, _, hE40⟩ := hr40
        have hX := hX.trans hE40 fun y hy e => e.elim (fun e => by have := hdv.lo y e; omega) fun e => by have := (hHA' y e).1; omega
        have hb23 := hb23.ext hE40 fun e => e.elim (fun e => hnb23 _ e rfl) fun e => hnH23 _ e rfl
        have hs41 := hE40.size
        rw [← hwz] at hs41 hF4 hwu41
        have hGz : ∀ y, GA y → y < wz.heap.size := by rw [hwz]; exact htA.2
        have htA := htA.ext hE40 fun y hy e => e.elim (hGAF y hy).1 (hGAF y hy).2
        have hdv : DvI wq w40 d F4 ((upW D28 t 9 ps).append (bytesD moreD)).1.D := ⟨hA4, fun y hy => (hF4 y hy).elim (hdv.lo y) fun e => by omega, Rt.ext hdv.rt hE40 fun e => e.elim (fun e => by have := hdv.lo 0 e; omega) fun e => by have := (hHA' 0 e).1; omega⟩
        rw [← hR2] at hdv ⊢
        have hFl4 := hdv.at_.lt
        have hGF4 : ∀ y, GA y → ¬ F4 y := fun y hy e => (hF4 y e).elim (hGAF y hy).1 fun e => by have := hGz y hy; omega
        refine wl_p I_ok rfl (wl_nil (f_then (c_if rfl (fun hc => ?_) (fun hc => ?_))))
        · rw [if_pos hc] at hps2
          refine c_region (wl_p I_ok rfl (wl (st_ldB I_ok hb23 rfl rfl ?_)))
          have hs42 : w40.heap.size = w40.heap.size := rfl
          refine wl (st_call Tryd.call15 rfl rfl rfl rfl rfl rfl (then_calls w40 moreD htA.1 htA.2 (by have h1 : ps.length ≤ 9 := hW28.few; omega)) fun v41 w41 hr41 => ?_)
          obtain ⟨G4, ht4, hG4, hG4l, hE41⟩ := hr41
          have hb23 := hb23.extNo hE41
          have hdv := hdv.extNo hE41
          have htA := htA.extNo hE41
          have hX := hX.thenNo hE41
          rw [moreD_then, ← hps2] at ht4
          obtain ⟨tv4, htv4⟩ : ∃ t, t = v41 := ⟨_, rfl⟩
          rw [← htv4] at ht4 ⊢
          refine wl_p I_ok rfl (wl_nil ?_)
          exact f_cut ((F4, tv4, G4)) rfl ⟨⟨hdv, ⟨ht4, hG4l⟩, fun y hy e => (hG4 y hy).elim (fun g => hGF4 y g e) fun g => by have := hFl4 y e; omega⟩, hX⟩
        · rw [if_neg hc] at hps2
          refine c_skip ?_
          exact f_cut ((F4, ta, GA)) rfl ⟨⟨hdv, by rw [hps2]; exact htA, hGF4⟩, hX⟩
      rintro ⟨F41, t41, G41⟩ w42 ⟨⟨hdv, htA, hGF⟩, hX⟩
      try dsimp only
      dsimp only at hdv htA hGF
      refine c_seq (c_seq (c_region (wl_p I_ok rfl ?_)))
      have hwu43 := hdv.size
      refine wl (st_call Tryd.call21 rfl rfl rfl rfl rfl rfl (dk_crash w42 hdv.at_ hok41 (by omega) (keep := []) rfl (Sl.nil _ _ _) (fun b off e => by cases e)) fun v43 w43 hr43 => ?_)
      obtain ⟨rfl, hA43, hE43⟩ := hr43
      have hX := hdv.no hwqs hX hE43
      have hdv := hdv.to ⟨hq0, hwu43⟩ hA43 hE43 fun y hy => .inl hy
      have htA := htA.ext hE43 hGF
      refine wl_p I_ok rfl (wl_nil (f_then (c_condF rfl (c_skip (f_then (c_seq (c_region (wl_p I_ok rfl ?_))))))))
      refine wl (st_call Tryd.call23 rfl rfl rfl rfl rfl rfl (open_calls w43 hdv.at_ hdown41.ok (by omega) hdv.rt (fun e => by have := hdv.lo 0 e; omega)) fun v44 w44 hr44 => ?_)
      obtain ⟨xb, F45, rfl, hA45, hE44, hF45, _, hlo45⟩ := hr44
      have hX := hdv.no hwqs hX hE44
      have htA := htA.ext hE44 hGF
      obtain ⟨D45, hop45, _, _, hW45, hopW45⟩ := hdown41.opens
      rw [hopW45, hop45] at hlo45
      rw [hop45]
      dsimp only at hlo45 ⊢
      obtain ⟨xB, HB, rfl, hlB, hHB⟩ := hlo45 rfl
      refine wl_p I_ok rfl (wl_nil (f_then (c_seq (c_seq (c_region (wl_p I_ok rfl (wl_nil (f_then (c_condF rfl (c_skip (f_then (c_seq (c_region (wl_p I_ok rfl ?_))))))))))))))
      refine wl (st_call Tryd.call16 rfl rfl rfl rfl rfl rfl (tells_calls w44 hlB hW45) fun v45 w45 hr45 => ?_)
      obtain ⟨tb, GB, rfl, htB, hGB, hE45⟩ := hr45
      have htA := htA.extNo hE45
      have hlB := hlB.extNo hE45
      have hX := hX.thenNo hE45
      refine wl_p I_ok rfl (wl_nil (f_then (c_cutK (α := Bool) [] rfl (fun z => [(6, .bool z)]) (fun z u => (z = true) ∧ Ext No w u) ?_ ?_)))
      · refine c_region ?_
        refine wl_p I_ok rfl (wl_case 176 rfl (fun hg => ?_) (fun hg => ?_))
        · refine wl_pk I_ok 2 rfl ?_
          refine wl (st_call Tryd.call17 rfl rfl rfl rfl rfl rfl (is_calls w45 htA.1 htB (by have h1 : ps2.length ≤ 9 := hW45.few; omega)) fun v46 w46 hr46 => ?_)
          obtain ⟨rfl, hE46⟩ := hr46
          have htA := htA.extNo hE46
          have hlB := hlB.extNo hE46
          have htB := htB.extNo hE46
          have hX := hX.thenNo hE46
          rw [decide_eq_true rfl]
          refine wl_p I_ok rfl (wl_nil ?_)
          exact f_cut (true) rfl ⟨rfl, hX⟩
        · cases hg
      rintro z w47 ⟨rfl, hX⟩
      refine c_ret (f_ret1 rfl rfl ?_)
      exact ⟨rfl, hX⟩
end Go.Proofs.YtlfdlodcjiaiiaaDoor
namespace Go.Proofs.YtlfdlodcjiaiiaaDoor
open Go.Vc Go.ChangeShapes Go.WideShapes Go.ChangeAt Go.RowKit Go

set_option maxRecDepth 100000 in
theorem lasts_lifted (os : Os) (started : os.Started) (H : Type) (enc : TypeId × Value → H) :
    ReturnsInHanded {} Tryd.checked os 4 .any (fun w args => (Rows.walLastsSpec.pre enc Tryd.prog Tryd.f4 [] false w args ∧ laidMetH Tryd.prog laidR w) ∧ sizedMet enc Tryd.prog Tryd.f4 (OpenSpec.ofChange Rows.walLastsSpec) false w args)
      (Rows.walLastsSpec.post enc Tryd.prog Tryd.f4 false true false false) := by
  refine returnsInHanded_of_change_and (C := Tryd.checked) (X := fun w _ => laidMetH Tryd.prog laidR w) (fun _ _ _ hh h => h.of_heap hh) own started (by kernel_rfl) Tryd.func4
    (ChangeSpec.witness_shaped (enc := enc) (C := Tryd.checked) (os := os) (X := fun w _ => laidMetH Tryd.prog laidR w) false (World.doorLaid Tryd.prog 400 os) #[.slice none 0 0, ti36.zero, .slice none 0 0] 40 rfl (World.shaped_of_RefB (by kernel_rfl) (by kernel_rfl)) (by kernel_rfl) (by kernel_rfl) (by kernel_rfl) (door_met os _)) ?_
  intro W base args ds gs before hval0 hW _ _ hL _
  have hval : ∀ (j : Nat) t v, Tryd.f4.params[j]? = some t → args[j]? = some v → Value.okWide Tryd.prog W .any base t v := hval0
  have hW' := hW
  obtain ⟨p, q, hA0, hV, rfl, hfz, hnd⟩ := hW
  have hA : DataW.TrodAll enc Tryd.prog W 0 (fun _ => true) true Tryd.f4.params.toList args.toList ds p := hA0
  rw [Tryd.params4] at hA hval
  obtain ⟨v0, vs0, d0, ds0, p0, q0, hargs, rfl, rfl, h0, r0⟩ := trodAll_cons hA
  obtain ⟨v1, vs1, d1, ds1, p1, q1, rfl, rfl, rfl, h1, r1⟩ := trodAll_cons r0
  obtain ⟨v2, vs2, d2, ds2, p2, q2, rfl, rfl, rfl, h2, r2⟩ := trodAll_cons r1
  obtain ⟨rfl, rfl, rfl⟩ := trodAll_nil r2
  obtain rfl : args = #[v0, v1, v2] := by cases args; simp_all
  obtain ⟨rfl, rfl⟩ := trodVars_none hV
  have w0 := hval 0 22 v0 rfl rfl
  have w1 := hval 1 36 v1 rfl rfl
  have w2 := hval 2 22 v2 rfl rfl
  obtain ⟨k0, h0⟩ := h0
  obtain ⟨k1, h1⟩ := h1
  obtain ⟨k2, h2⟩ := h2
  obtain ⟨a0, len, cap, rfl⟩ := okWide_slice Tryd.underlying22 w0
  obtain ⟨c1, rfl, _⟩ := okWide_struct Tryd.underlying36 w1
  obtain ⟨a2, len2, cap2, rfl⟩ := okWide_slice Tryd.underlying22 w2
  obtain ⟨p9, l9, c9, e0, hc9, hs, hin, _⟩ := open_deeds h0
  obtain ⟨o, e1, ho, hoc, _⟩ := open_deed h1
  obtain ⟨p8, l8, c8, e2, hc8, hs8, hin8, _⟩ := open_deeds h2
  simp only [Value.cells, List.cons.injEq, and_true, Value.slice.injEq] at e0 e2
  obtain ⟨rfl, rfl, rfl⟩ := e0
  obtain ⟨rfl, rfl, rfl⟩ := e2
  have e1 : c1.toList = o.cells := by simpa [Value.cells] using e1
  obtain rfl : c1 = o.cells.toArray := by rw [← e1]
  clear hA0 hval0
  simp only [List.append_nil] at hW'
  refine Calls.mono (lasts_calls W (roots_of hL) hs hc9 o ho hoc hs8 hc8 (fun o ho => ⟨(hin8 o ho).1, (hin8 o ho).2.1⟩)) fun e W' he => ?_
  cases e with
  | returned v =>
    obtain ⟨rfl, hE⟩ : v = .bool true ∧ Ext No W W' := he
    refine ⟨_, rfl, post_true (by kernel_rfl) (by kernel_rfl) (by kernel_rfl) hW' rfl (by kernel_rfl) (by kernel_rfl) Tryd.underlying4 rfl rfl rfl hE⟩
  | panicked _ => exact he.elim
  | outgrown => exact he.elim
theorem lasts_row : Rows.WalLastsSaid :=
  OpenClaim.holds_of_wide 4 Tryd.f4 rfl rfl rfl rfl rfl rfl rfl ⟨rfl, rfl, rfl, rfl, rfl⟩ rfl rfl rfl rfl rfl (by kernel_rfl) Tryd.func4 (by kernel_rfl)
    (of_decide_eq_true (by kernel_rfl)) (by unfold Func.isWrapper; first | (rw [if_pos (by decide +kernel)]; kernel_rfl) | (rw [if_neg (by decide +kernel)]; exact ⟨rfl, rfl⟩))
    (fun os started H enc _ => lasts_lifted os started H enc)
theorem lasts_holds : Rows.WalLastsCardSaid :=
  Claim7.holds_tied_plain_at .later [] [.data] true Rows.walLastsCard.stood.harness false
    lasts_row (fun _ h => by cases h) (by kernel_rfl) (fun _ h => by cases h) walLasts_row_tie rfl ⟨rfl, rfl⟩ (by kernel_rfl) rfl
    (fun f fn hf hfn => by
      obtain rfl : f = 4 := Option.some.inj ((show Tryd.prog.funcNamed "confluence/confluencelaw04.WalLasts" = some 4 by kernel_rfl).symm.trans hf) |>.symm
      obtain rfl : fn = Tryd.f4 := (Option.some.inj (Tryd.func4.symm.trans hfn)).symm
      exact ⟨by kernel_rfl, fun j t ht => by
        rw [Tryd.params4] at ht
        have hm : t ∈ [22, 36, 22] := by have := Array.mem_of_getElem? ht; simpa using this
        have hall : ([22, 36, 22].all fun u => !Tryd.prog.wantsStandIn u) = true := by kernel_rfl
        exact (show Tryd.prog.wantsStandIn t = false by simpa using List.all_eq_true.1 hall t hm)⟩)
    (by kernel_rfl)

end Go.Proofs.YtlfdlodcjiaiiaaDoor
