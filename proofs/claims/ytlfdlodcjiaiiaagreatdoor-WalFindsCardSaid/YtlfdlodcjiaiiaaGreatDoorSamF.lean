/-
  WalGoes: whatever is done to a log, with areas of any size, whatever fails, and whenever the power goes: what is told, and what stands on the disk, is as the document says, write by write.
-/
import Derived.Test.YtlfdlodcjiaiiaaGreatDoorTie
import Derived.Test.YtlfdlodcjiaiiaaGreatDoorCards
import Derived.SevenTiedAt
import Derived.Test.YtlfdlodcjiaiiaaGreatDoorSamE
namespace Go.Proofs.YtlfdlodcjiaiiaaGreatDoor
open Go.Vc
theorem PairAt.dk {w u : World} {d1 d2 x xb : Nat} {z : PZ} {W1 W2 : Wl} (h : PairAt w u d1 d2 x xb z W1 W2) : Dk2 w u d1 d2 z.1 z.2.2.1 W1.D W2.D :=
  ⟨h.a1, h.a2, fun y hy => h.lo y (hy.elim .inl fun e => .inr (.inr (.inl e))), fun y hy => (h.n1 y hy).2.1, h.rt⟩
theorem pair_of {w u1 u2 u3 : World} {d1 d2 : Nat} {F2 F1' F2' : Nat → Prop} {xo xbo : Option Addr} {W1 W2 : Wl} (h1 : LogOf u1 u2 d1 F1' xo W1) (hlt : ∀ y, F2 y → y < u1.heap.size) (h2 : BookOf u2 u3 d2 F2' xbo W2)
    (hE : Ext F2 u2 u3) (hF2 : ∀ y, F2' y → F2 y ∨ u2.heap.size ≤ y) (hl1 : ∀ y, F1' y → y < u2.heap.size) (hdk : Dk2 w u3 d1 d2 F1' F2' W1.D W2.D) (hwu : w.heap.size ≤ u1.heap.size) (hu : u1.heap.size ≤ u2.heap.size) :
    ∃ x xb H1 H2, xo = some ⟨x, 0, none⟩ ∧ xbo = some ⟨xb, 0, none⟩ ∧ PairAt w u3 d1 d2 x xb (F1', H1, F2', H2) W1 W2 ∧ ∀ y, H1 y ∨ H2 y → u1.heap.size ≤ y := by
  obtain ⟨x, H1, e1, hlog, hH1⟩ := h1
  obtain ⟨xb, H2, e2, hbk, hH2⟩ := h2
  have hll := hlog.lt
  have hbl := hbk.lt
  have hs := hE.size
  have h12 : ∀ y, H1 y → ¬ F2 y := fun y hy e => by have := (hH1 y hy).1; have := hlt y e; omega
  refine ⟨x, xb, H1, H2, e1, e2, ⟨hdk.a1, hlog.ext hE h12, hdk.a2, hbk, fun y hy => ?_, fun y hy => ⟨fun e => (hH1 y e).2 hy, hdk.ne y hy, fun e => ?_⟩, fun y hy => ⟨fun e => ?_, fun e => ?_⟩, fun y hy e => (hH2 y e).2 hy, hdk.rt⟩, fun y hy => ?_⟩
  · rcases hy with hy | hy | hy | hy
    · exact hdk.lo y (.inl hy)
    · exact ⟨by have := (hH1 y hy).1; omega, by have := hll y hy; omega⟩
    · exact hdk.lo y (.inr hy)
    · exact ⟨by have := (hH2 y hy).1; omega, hbl y hy⟩
  · have := hl1 y hy; have := (hH2 y e).1; omega
  · exact (hF2 y e).elim (h12 y hy) fun g => by have := hll y hy; omega
  · have := hll y hy; have := (hH2 y e).1; omega
  · rcases hy with hy | hy
    · exact (hH1 y hy).1
    · have := (hH2 y hy).1; omega
/-- both: bx its own block; G: all blocks -/
structure BothI (w u : World) (bx d1 d2 : Nat) (G : Nat → Prop) (W : Wl) : Prop where
  ex : ∃ x xb z, Blk u bx 46 [.pointer (some ⟨d1, 0, none⟩), .pointer (some ⟨d2, 0, none⟩), .pointer (some ⟨x, 0, none⟩), .pointer (some ⟨xb, 0, none⟩)] ∧ PairAt w u d1 d2 x xb z W W ∧ (∀ y, z.any y → G y) ∧ ¬ z.any bx
  own : G bx
  lo : ∀ y, G y → w.heap.size ≤ y ∧ y < u.heap.size
theorem BothI.ext {S G : Nat → Prop} {w u u' : World} {bx d1 d2 : Nat} {W : Wl} (h : BothI w u bx d1 d2 G W) (hE : Ext S u u') (hS : ∀ y, G y → ¬ S y) (h0 : ¬ S 0) : BothI w u' bx d1 d2 G W := by
  obtain ⟨⟨x, xb, z, h1, h2, h3, h4⟩, h5, h6⟩ := h
  exact ⟨⟨x, xb, z, h1.ext hE (hS bx h5), h2.ext hE (fun y hy => hS y (h3 y hy)) h0, h3, h4⟩, h5, fun y hy => ⟨(h6 y hy).1, Nat.lt_of_lt_of_le (h6 y hy).2 hE.size⟩⟩
theorem BothI.extNo {G : Nat → Prop} {w u u' : World} {bx d1 d2 : Nat} {W : Wl} (h : BothI w u bx d1 d2 G W) (hE : Ext No u u') : BothI w u' bx d1 d2 G W := h.ext hE (fun _ _ => id) id
def reopen (W : Wl) : Wl := if (openW W.D).2.1 = 0 then Wl.opened (openW W.D) else { W with D := (openW W.D).1 }
theorem reopen_fine {W : Wl} {m : Nat} (hok : W.D.Ok m) (hW : Wl.Ok W) : (reopen W).D.Ok (m + 5000) ∧ Wl.Ok (reopen W) := by
  obtain ⟨h1, h2, h3⟩ := openW_fine hok
  unfold reopen
  split
  · rename_i h; exact ⟨h1, h3 h⟩
  · exact ⟨h1, hW.on h2⟩
theorem agree_calls (w : World) {w0 : World} {bx d1 d2 m : Nat} {G : Nat → Prop} {W : Wl} (h : BothI w0 w bx d1 d2 G W) (hok : W.D.Ok m) (hm : m + 5000 < 1000000000) (hW : Wl.Ok W) :
    CallsV Tryz.prog 9 [.pointer (some ⟨bx, 0, none⟩)] w fun v w' => v = .bool true ∧ Ext No w w' := by
  refine calls_enter Tryz.func9 rfl rfl rfl rfl ?_
  have hX := Ext.refl No w
  obtain ⟨⟨x, xb, z, hb, hp, hzG, hzb⟩, hG, hlo⟩ := h
  refine c_seq (c_region (wl_p I_ok rfl (wl_nil (f_then (c_cutK (α := Bool) [] rfl (fun z => [(2, .bool z)]) (fun z u => (z = true) ∧ Ext No w u) ?_ ?_)))))
  · refine c_draw rfl 33 [(0, true), (1, true), (2, true), (3, true), (4, true), (5, true), (6, true), (7, true), (8, false), (9, true), (10, true), (11, true), (12, true), (13, true), (15, true), (16, true), (17, true), (18, true), (14, false), (19, true), (20, true), (21, true), (22, true), (23, true), (24, true), (25, true), (26, true), (27, true), (28, true), (29, true), (30, false), (31, true), (32, true)] [] (No) (by kernel_rfl) fun w1 hE1 hs1 => ?_
    have hbd := hb
    have hpd := hp
    have hXd := hX
    have hb := hb.extNo hE1
    have hp := hp.extNo hE1
    have hX := hX.thenNo hE1
    have hC : Ext (No) _ w1 := hE1.no
    refine wd_k I_ok 3 rfl (wd_ld I_ok rfl rfl (fun w' hw' => ((hbd.extNo hw').cell rfl)) ?_)
    refine wd_k I_ok 3 rfl (wd_ld I_ok rfl rfl (fun w' hw' => ((hbd.extNo hw').cell rfl)) ?_)
    refine wd_l rfl (st_call Tryz.call33 rfl rfl rfl rfl rfl rfl (told_calls w1 hp.l1 hp.b2 hW) fun v2 w2 hr2 => ⟨(by obtain ⟨rfl, hE2⟩ := hr2; exact hC.thenNo hE2), ?_⟩)
    obtain ⟨rfl, hE2⟩ := hr2
    have hb := hb.extNo hE2
    have hp := hp.extNo hE2
    have hX := hX.thenNo hE2
    have hC := hC.thenNo hE2
    refine wd_k I_ok 1 rfl (wd_case 12 rfl (fun hg => ?_) (fun hg => ?_))
    · refine wd_k I_ok 3 rfl ?_
      refine wd_ld I_ok rfl rfl (fun w' hw' => ((hbd.extNo hw').cell rfl)) ?_
      refine wd_k I_ok 3 rfl (wd_ld I_ok rfl rfl (fun w' hw' => ((hbd.extNo hw').cell rfl)) ?_)
      refine wd_l rfl (st_call Tryz.call34 rfl rfl rfl rfl rfl rfl (logDisk_calls w2 hp.l1) fun v3 w3 hr3 => ⟨(by obtain ⟨rfl, hE3⟩ := hr3; exact hC.thenNo hE3), ?_⟩)
      obtain ⟨rfl, hE3⟩ := hr3
      have hb := hb.extNo hE3
      have hp := hp.extNo hE3
      have hX := hX.thenNo hE3
      have hC := hC.thenNo hE3
      refine wd_eqP I_ok rfl rfl rfl rfl rfl (by decide) rfl (wd_k I_ok 2 rfl (wd_case 24 rfl (fun hg => ?_) (fun hg => ?_)))
      · refine wd_k I_ok 3 rfl ?_
        refine wd_ld I_ok rfl rfl (fun w' hw' => ((hbd.extNo hw').cell rfl)) ?_
        refine wd_k I_ok 3 rfl (wd_ld I_ok rfl rfl (fun w' hw' => ((hbd.extNo hw').cell rfl)) ?_)
        refine wd_l rfl (st_call Tryz.call35 rfl rfl rfl rfl rfl rfl (twins_calls w3 hp.a1 hp.a2 hok hm) fun v4 w4 hr4 => ⟨(by obtain ⟨rfl, hE4⟩ := hr4; exact hC.thenNo hE4), ?_⟩)
        obtain ⟨rfl, hE4⟩ := hr4
        have hb := hb.extNo hE4
        have hp := hp.extNo hE4
        have hX := hX.thenNo hE4
        have hC := hC.thenNo hE4
        refine wd_k I_ok 2 rfl (wd_sw (wb_nil ?_))
        exact f_cut (true) rfl ⟨rfl, hX⟩
      · cases hg
    · cases hg
  rintro z w5 ⟨rfl, hX⟩
  refine c_ret (f_ret1 rfl rfl ?_)
  exact ⟨rfl, hX⟩

theorem opens_calls (w : World) {w0 : World} {bx d1 d2 m : Nat} {G : Nat → Prop} {W : Wl} (h : BothI w0 w bx d1 d2 G W) (hr0 : 0 < w0.heap.size) (hX0 : Ext No w0 w) (hok : W.D.Ok m) (hm : m + 12000 < 1000000000) (_hW : Wl.Ok W) :
    CallsV Tryz.prog 10 [.pointer (some ⟨bx, 0, none⟩)] w fun v w' => v = .bool true ∧ Ext No w0 w' ∧ Ext G w w' ∧ ∃ G', BothI w0 w' bx d1 d2 G' (reopen W) ∧ ∀ y, G' y → G y ∨ w.heap.size ≤ y := by
  refine calls_enter Tryz.func10 rfl rfl rfl rfl ?_
  have hX := Ext.refl G w
  obtain ⟨⟨x, xb, z, hb, hp, hzG, hzb⟩, hG, hlo⟩ := h
  have hbw := hb.lt
  have hw0s := hX0.size
  obtain ⟨hYo, hYs, hYw⟩ := openW_fine hok
  obtain ⟨Y, hY⟩ : ∃ Y, Y = openW W.D := ⟨_, rfl⟩
  rw [← hY] at hYo hYs hYw
  have hro : reopen W = if Y.2.1 = 0 then Wl.opened Y else { W with D := Y.1 } := by rw [hY]; rfl
  refine c_seq (c_region (wl_p I_ok rfl (wl_nil (f_then (c_seq (c_region (wl_p I_ok rfl (wl (st_ld I_ok rfl (hb.cell rfl) ?_)))))))))
  have hlt2 := hp.a2.lt
  have hXs1 := hX0.size
  have hXw1 := hX.size
  refine wl (st_call Tryz.call19 rfl rfl rfl rfl rfl rfl (open_calls w hp.a1 hok (by omega) hp.rt (fun e => by have := (hp.lo 0 (.inl e)).1; omega)) fun v1 w1 hr1 => ?_)
  obtain ⟨xo, F1, rfl, hA1, hE1, hF1, hxn, hlo1⟩ := hr1
  rw [← hY] at hA1 hxn hlo1 ⊢
  have hA1l := hA1.lt
  obtain ⟨hp, hX0, hEa, hg1⟩ := hp.disk1 hr0 hX0 hA1 hF1 hE1
  have hb := hb.ext hEa hzb
  have hX := hX.then (hEa.mono fun y _ e => hzG y e)
  have hE1s := hE1.size
  refine wl_p I_ok rfl (wl_nil (f_then (c_seq (c_region (wl_p I_ok rfl (wl (st_ld I_ok rfl (hb.cell rfl) ?_)))))))
  have hbl2 := hb.lt
  have hXm := hX.size
  refine wl (st_call Tryz.call36 rfl rfl rfl rfl rfl rfl (bookOpen_calls w1 hp.a2 hok (by omega)) fun v2 w2 hr2 => ?_)
  obtain ⟨xbo, F2, rfl, hA2, hE2, hF2, hlob⟩ := hr2
  rw [← hY] at hA2 hlob ⊢
  obtain ⟨hp, hX0, hEb, hg2⟩ := hp.disk2 hr0 hX0 hA2 hF2 hE2
  have hzb1 : ¬ PZ.any (F1, z.2.1, z.2.2.1, z.2.2.2) bx := fun e => (hg1 bx e).elim hzb fun g => by omega
  have hb := hb.ext hEb hzb1
  have hX := hX.trans hEb fun y hy e => (hg1 y e).elim (hzG y) fun g => by omega
  have hpr : Y.2.1 = 0 → ∃ x xb H1 H2, xo = some ⟨x, 0, none⟩ ∧ xbo = some ⟨xb, 0, none⟩ ∧ PairAt w0 w2 d1 d2 x xb (F1, H1, F2, H2) (Wl.opened Y) (Wl.opened Y) ∧ ∀ y, H1 y ∨ H2 y → w.heap.size ≤ y := fun h0 => pair_of (hlo1 h0) hlt2 (hlob h0) hE2 hF2 hA1l hp.dk hXs1 hE1s
  have hT := Ext.refl No w2
  refine wl_p I_ok rfl (wl_nil (f_then (c_seq (c_cutK (α := Bool) [0, 3, 4, 5] rfl (fun z => [(37, .bool z)]) (fun z u => (z = false) ∧ Ext No w2 u ∧ Ext G w u) ?_ ?_))))
  · refine c_draw rfl 15 [(0, true), (1, true), (2, true), (3, true), (4, true), (5, true), (6, true), (7, true), (8, true), (9, true), (10, true), (11, true), (12, false), (13, true), (14, true)] [] (No) (by kernel_rfl) fun w3 hE3 hs3 => ?_
    have hbd := hb
    have hpd := hp
    have hX0d := hX0
    have hXd := hX
    have hT := hT.thenNo hE3
    have hX := hX.thenNo hE3
    have hC : Ext (No) _ w3 := hE3.no
    refine wd_k I_ok 4 rfl (wd_caseD 26 rfl (fun hg => ?_) (fun hg => ?_))
    · exact absurd rfl hg
    · refine wd_k I_ok 3 rfl ?_
      refine wd_ld I_ok rfl rfl (fun w' hw' => ((hbd.extNo hw').cell rfl)) ?_
      refine wd_k I_ok 3 rfl (wd_ld I_ok rfl rfl (fun w' hw' => ((hbd.extNo hw').cell rfl)) ?_)
      have hb := hb.extNo hT
      have hp := hp.extNo hT
      refine wd_l rfl (st_call Tryz.call35 rfl rfl rfl rfl rfl rfl (twins_calls w3 hp.a1 hp.a2 hYo (by omega)) fun v4 w4 hr4 => ⟨(by obtain ⟨rfl, hE4⟩ := hr4; exact hC.thenNo hE4), ?_⟩)
      obtain ⟨rfl, hE4⟩ := hr4
      have hT := hT.thenNo hE4
      have hX := hX.thenNo hE4
      have hC := hC.thenNo hE4
      refine wd_k I_ok 2 rfl (wd_sw (wb_nil ?_))
      exact f_cut (false) rfl ⟨rfl, hT, hX⟩
  rintro z w5 ⟨rfl, hT, hX⟩
  have hb := hb.extNo hT
  have hp := hp.extNo hT
  have hX0 := hX0.thenNo hT
  refine c_condF rfl (c_skip (f_then (c_seq (c_seq (c_region (wl_p I_ok rfl (wl_nil (f_then (c_if rfl (fun hc => ?_) (fun hc => ?_))))))))))
  · obtain ⟨x2, xb2, H1, H2, rfl, rfl, hp2, hH⟩ := hpr hc
    have hp2 := hp2.extNo hT
    rw [if_pos hc] at hro
    refine c_region (wl_p I_ok rfl ?_)
    have hbo := hb
    have hxb2 : ¬ PZ.any (F1, H1, F2, H2) bx := fun e => by
      rcases e with e | e | e | e
      · exact hzb1 (.inl e)
      · have := hH bx (.inl e); omega
      · exact (hg2 bx (.inr (.inr (.inl e)))).elim hzb1 fun g => by omega
      · have := hH bx (.inr e); omega
    have hxb0 : bx ≠ 0 := by have := (hlo bx hG).1; omega
    refine wl (st_set I_ok hb rfl rfl (Nat.lt_of_lt_of_eq (by decide : 0 + 2 < 4) rfl) fun w6 hb hE6 hs6 => ?_)
    have hp2 := hp2.ext1 hE6 hxb2 hxb0
    have hX0 := hX0.trans hE6 fun y hy e => by have e : y = bx := e; have := (hlo bx hG).1; omega
    have hX := hX.then (hE6.mono fun y _ e => by have e : y = bx := e; rw [e]; exact hG)
    refine wl_p I_ok rfl (wl (st_set I_ok hb rfl rfl (Nat.lt_of_lt_of_eq (by decide : 0 + 3 < 4) rfl) fun w7 hb hE7 hs7 => ?_))
    have hp2 := hp2.ext1 hE7 hxb2 hxb0
    have hX0 := hX0.trans hE7 fun y hy e => by have e : y = bx := e; have := (hlo bx hG).1; omega
    have hX := hX.then (hE7.mono fun y _ e => by have e : y = bx := e; rw [e]; exact hG)
    have hB : BothI w0 w7 bx d1 d2 (fun y => PZ.any (F1, H1, F2, H2) y ∨ y = bx) (reopen W) := ⟨⟨x2, xb2, (F1, H1, F2, H2), hb, by rw [hro]; exact hp2, fun y hy => .inl hy, hxb2⟩, .inr rfl, fun y hy => hy.elim (hp2.lo y) fun e => by rw [e]; exact ⟨(hlo bx hG).1, hb.lt⟩⟩
    refine wl_nil (f_then (c_seq (c_region (wl_p I_ok rfl (wl_nil (f_then (c_ret (f_ret1 rfl rfl ?_))))))))
    rw [show (decide (Y.2.1 = 0) == !false) = true from by simp [hc]]
    exact ⟨rfl, hX0, hX, _, hB, fun y hy => by
      rcases hy with (hy | hy | hy | hy) | rfl
      · exact (hg1 y (.inl hy)).imp (hzG y) fun e => by omega
      · exact .inr (hH y (.inl hy))
      · exact (hg2 y (.inr (.inr (.inl hy)))).elim (fun e => (hg1 y e).imp (hzG y) fun e => by omega) fun e => .inr (by omega)
      · exact .inr (hH y (.inr hy))
      · exact .inl hG⟩
  · rw [if_neg hc] at hro
    obtain rfl := hxn hc
    have hzb2 : ¬ PZ.any (F1, z.2.1, F2, z.2.2.2) bx := fun e => (hg2 bx e).elim hzb1 fun g => by omega
    refine c_skip (f_then (c_seq (c_region (wl_p I_ok rfl (wl_nil (f_then (c_ret (f_ret1 rfl rfl ?_))))))))
    rw [show (decide (Y.2.1 = 0) == !true) = true from by simp [hc]]
    exact ⟨rfl, hX0, hX, (fun y => PZ.any (F1, z.2.1, F2, z.2.2.2) y ∨ y = bx), ⟨⟨x, xb, (F1, z.2.1, F2, z.2.2.2), hb, by rw [hro]; exact hp, fun y hy => Or.inl hy, hzb2⟩, .inr rfl, fun y hy => hy.elim (hp.lo y) fun e => by have e : y = bx := e; rw [e]; exact ⟨(hlo bx hG).1, hb.lt⟩⟩, fun y hy => by
      rcases hy with hy | rfl
      · exact (hg2 y hy).elim (fun e => (hg1 y e).imp (hzG y) fun e => by omega) fun e => .inr (by omega)
      · exact .inl hG⟩
end Go.Proofs.YtlfdlodcjiaiiaaGreatDoor
namespace Go.Proofs.YtlfdlodcjiaiiaaGreatDoor
open Go.Vc
def keepD (o : DeedD) : List Bool := o.keep.take 100
theorem keepD_len (o : DeedD) : (keepD o).length = min o.keep.length 100 := by rw [keepD, List.length_take, Nat.min_comm]
theorem bool_one (l : List Bool) : ∀ v ∈ l.map Value.bool, v.oneCell' = true := fun v hv => by obtain ⟨b, _, rfl⟩ := List.mem_map.1 hv; rfl
theorem keep_calls (w : World) (o : DeedD) (hs : Sl w o.p o.keep.length 1 (o.keep.map Value.bool)) (hc : o.keep.length ≤ o.c) :
    CallsV Tryz.prog 32 [o.v] w fun v w' => ∃ q c, v = .slice q (keepD o).length c ∧ Sl w' q (keepD o).length 1 ((keepD o).map Value.bool) ∧ (∀ y off, q = some ⟨y, off, none⟩ → w.heap.size ≤ y) ∧ Ext No w w' := by
  refine calls_enter Tryz.func32 rfl rfl rfl rfl ?_
  have hX := Ext.refl No w
  have hkl := keepD_len o
  have hsl : Sl w o.p (keepD o).length 1 ((keepD o).map Value.bool) := by
    have e := Sl.slice hs 0 (min o.keep.length 100) o.keep.length (Nat.zero_le _) (by omega) (by omega)
    rw [slBase_zero, Nat.sub_zero, Nat.mul_one, Nat.zero_mul, List.drop_zero, ← List.map_take, ← hkl, show o.keep.take (keepD o).length = keepD o from by rw [hkl, Nat.min_comm, ← List.take_take, List.take_length]; rfl] at e
    exact e
  refine c_seq (c_region (wl (st_al I_ok rfl fun b1 w1 hn1 hb1 hE1 => ?_)))
  have fr1 := Nat.le_trans hX.size hn1
  have hsl := hsl.extNo hE1
  have hX := hX.thenNo hE1
  have hb1 : Blk w1 b1 31 (o.cells) := hb1
  refine wl_p I_ok rfl (wl_nil (f_then (c_seq (c_region (wl (st_bs I_ok rfl 1 rfl rfl rfl (by decide) (by decide) (by simp [partsOk]) (l' := []) rfl fun b3 w2 hn3 hb3 hE2 hs2 => ?_))))))
  have ne1_3 : b1 ≠ b3 := Nat.ne_of_lt (Nat.lt_of_lt_of_le hb1.lt hn3)
  have fr3 := Nat.le_trans hX.size hn3
  have hb1 := hb1.extNo hE2
  have hsl := hsl.extNo hE2
  have hX := hX.thenNo hE2
  refine wl_p I_ok rfl (wl (st_ld I_ok rfl (hb1.cell rfl) (wl_p I_ok rfl (wl (st_ld I_ok rfl (hb1.cell rfl) (wl_p I_ok rfl ?_))))))
  refine wl (st_sl I_ok rfl 0 (min o.keep.length 100) o.c 1 rfl (.inr ⟨rfl, rfl⟩) (.inl (congrArg some (minI _ _))) (.inr ⟨rfl, rfl⟩) (Nat.zero_le _) (by omega) (Nat.le_refl _) ?_)
  rw [slBase_zero, Nat.sub_zero, Nat.sub_zero, ← hkl]
  have hXa := hX.size
  refine wl (st_app I_ok rfl 1 1 rfl rfl rfl (by decide) (Own.blk (n := 0) (c := 0) hb3 1 rfl (Nat.le_refl _) (by decide)) (Src.slice hsl (bool_one _)) (by dsimp only [maxLen]; omega) (by dsimp only; omega) fun p3 c3 w3 ho3 hE3 hB3 => ?_)
  have hX := hX.trans hE3 fun y hy e => by cases e; omega
  have ho1 : Own w3 p3 (0 + (keepD o).length) c3 4 1 ((keepD o).map Value.bool) := ho3
  have hn1 : ∀ x, OwnB p3 x → w.heap.size ≤ x := fun x hx => (hB3 x hx).elim (fun hF => by cases hF; omega) fun h => by omega
  rw [Nat.zero_add] at ho1
  dsimp only
  rw [Nat.zero_add]
  refine wl_p I_ok rfl (wl_nil (f_then (c_ret (f_ret1 rfl rfl ?_))))
  exact ⟨_, _, rfl, ho1.sl, fun y off e => hn1 y (OwnB.of ho1 e), hX⟩
end Go.Proofs.YtlfdlodcjiaiiaaGreatDoor
namespace Go.Proofs.YtlfdlodcjiaiiaaGreatDoor
open Go.Vc
def goD (W : Wl) (o : DeedD) : Wl :=
  if whichD o = 0 then (W.append (bytesD o)).1 else if whichD o = 1 then (W.checkpoint (bytesD o)).1
  else if whichD o = 2 then { W with D := (W.D.fail ((u64N o.num % 30 : Nat) : Int)).1 } else if whichD o = 3 then { W with D := (W.D.arm ((u64N o.num % 30 : Nat) : Int)).1 }
  else reopen { W with D := W.D.crash (keepD o) }
theorem goD_fine {W : Wl} {m : Nat} (hok : W.D.Ok m) (hW : Wl.Ok W) (o : DeedD) : (goD W o).D.Ok (m + 5000) ∧ Wl.Ok (goD W o) := by
  have h30 := Nat.mod_lt (u64N o.num) (by decide : 0 < 30)
  unfold goD
  split
  · obtain ⟨h1, h2⟩ := append_fine hok hW (bytesD o); exact ⟨h1.mono (by omega), h2⟩
  split
  · obtain ⟨h1, h2⟩ := ckp_fine hok hW (bytesD o); exact ⟨h1.mono (by omega), h2⟩
  split
  · obtain ⟨h1, h2⟩ := Dsk.Ok.fail hok ((u64N o.num % 30 : Nat) : Int) (by omega); exact ⟨h1.mono (by omega), hW.on (by rw [h2])⟩
  split
  · obtain ⟨h1, h2⟩ := Dsk.Ok.arm hok ((u64N o.num % 30 : Nat) : Int) (by omega); exact ⟨h1.mono (by omega), hW.on (by rw [h2])⟩
  · exact reopen_fine (W := { W with D := W.D.crash (keepD o) }) (hok.crash _) (hW.on (by simp [Dsk.crash, Dsk.settle, settleAll_length]))
theorem keepSl {S : Nat → Prop} {u u' : World} {o : DeedD} (h : Sl u o.p o.keep.length 1 (o.keep.map Value.bool)) (hE : Ext S u u') (hS : o.keep ≠ [] → ∀ b off, o.p = some ⟨b, off, none⟩ → ¬ S b) : Sl u' o.p o.keep.length 1 (o.keep.map Value.bool) := by
  by_cases h0 : o.keep = []
  · rw [h0]; exact Sl.nil _ _ _
  · exact h.ext hE (hS h0)
theorem bytesD_short (o : DeedD) : (bytesD o).length < 400 := by rw [bytesD_len]; exact lenD_lt o
theorem goes_calls (w : World) {w0 : World} {bx d1 d2 m : Nat} {G : Nat → Prop} {W : Wl} (o : DeedD) (h : BothI w0 w bx d1 d2 G W) (hr0 : 0 < w0.heap.size) (hX0 : Ext No w0 w) (hok : W.D.Ok m) (hm : m + 20000 < 1000000000) (hW : Wl.Ok W) (hs : Sl w o.p o.keep.length 1 (o.keep.map Value.bool)) (hck : o.keep.length ≤ o.c) (hkl : o.keep ≠ [] → ∀ b off, o.p = some ⟨b, off, none⟩ → b < w0.heap.size) :
    CallsV Tryz.prog 8 [.pointer (some ⟨bx, 0, none⟩), o.v] w fun v w' => v = .bool true ∧ Ext No w0 w' ∧ Ext G w w' ∧ ∃ G', BothI w0 w' bx d1 d2 G' (goD W o) ∧ ∀ y, G' y → G y ∨ w.heap.size ≤ y := by
  refine calls_enter Tryz.func8 rfl rfl rfl rfl ?_
  have hX := Ext.refl G w
  obtain ⟨⟨x, xb, z9, hb, hp, hzG, hzb⟩, hG, hlo⟩ := h
  have hbw := hb.lt
  have hw0s := hX0.size
  have h30 := Nat.mod_lt (u64N o.num) (by decide : 0 < 30)
  have hbl := bytesD_short o
  have hks := hs
  have hzw := fun y (hy : z9.any y) => (hlo y (hzG y hy)).2
  have hF0 : ¬ z9.1 0 := fun e => by have := (hp.lo 0 (.inl e)).1; omega
  refine c_seq (c_region (wl (st_al I_ok rfl fun b3 w1 hn3 hb3 hE1 => ?_)))
  have fr3 := Nat.le_trans hX.size hn3
  have hks := hks.extNo hE1
  have hX0 := hX0.thenNo hE1
  have hb := hb.extNo hE1
  have hp := hp.extNo hE1
  have hX := hX.thenNo hE1
  have hb3 : Blk w1 b3 31 (o.cells) := hb3
  have nz3 : ¬ z9.any b3 := fun e => by have := hzw b3 e; omega
  have nG3 : ¬ G b3 := fun e => by have := (hlo b3 e).2; omega
  refine wl_p I_ok rfl (wl_nil (f_then (c_seq (c_region (wl_p I_ok rfl (wl (st_ld I_ok rfl (hb3.cell rfl) (wl_p I_ok rfl ?_))))))))
  rw [show IntKind.i64.wrap ((IntKind.u64.wrap o.num).tmod 30) = ((u64N o.num % 30 : Nat) : Int) from u64_mod o.num 30 (by decide) (by decide)]
  refine wl_p I_ok rfl (wl_nil (f_then (c_seq (c_seq (c_region (wl (st_ldB I_ok hb3 rfl rfl (wl (st_call Tryz.call11 rfl rfl rfl rfl rfl rfl (which_calls w1 o) fun v2 w2 hr2 => ?_)))))))))
  obtain ⟨rfl, hE2⟩ := hr2
  have hb3 := hb3.extNo hE2
  have hks := hks.extNo hE2
  have hX0 := hX0.thenNo hE2
  have hb := hb.extNo hE2
  have hp := hp.extNo hE2
  have hX := hX.thenNo hE2
  refine wl_nil (f_then (c_block (c_cutK (α := Bool) [0, 3, 5, 16] rfl (fun z => [(17, .bool z)]) (fun z u => u = w2 ∧ z = decide (whichD o = 0 ∨ whichD o = 1)) ?_ ?_)))
  · refine c_seq ?_
    refine c_region (wl_p I_ok rfl (wl_nil (f_then (c_if rfl (fun hc => ?_) (fun hc => ?_)))))
    · refine c_skip ?_
      exact f_cut (decide ((whichD o : Int) = 0)) rfl ⟨rfl, by rw [decide_eq_decide]; omega⟩
    · refine c_region ?_
      refine wl_p I_ok rfl (wl_nil ?_)
      exact f_cut (decide ((whichD o : Int) = 1)) rfl ⟨rfl, by rw [decide_eq_decide]; omega⟩
  rintro z w3 ⟨hu, rfl⟩
  have hu := hu.symm
  subst hu
  refine c_if rfl (fun hc => ?_) (fun hc => ?_)
  · refine c_seq ?_
    refine c_region (wl (st_ldB I_ok hb3 rfl rfl ?_))
    have hX5 := hX.size
    have hb3l5 := hb3.lt
    refine wl (st_call Tryz.call26 rfl rfl rfl rfl rfl rfl (dbytes_calls w2 o) fun v4 w4 hr4 => ?_)
    obtain ⟨q1, c1, rfl, hq1, hnq1, hE4⟩ := hr4
    have hb3 := hb3.extNo hE4
    have hks := hks.extNo hE4
    have hX0 := hX0.thenNo hE4
    have hb := hb.extNo hE4
    have hp := hp.extNo hE4
    have hX := hX.thenNo hE4
    have hq1n : ∀ y, OwnB q1 y → ¬ z9.any y := fun y hy e => by have := hnq1 y hy; have := hzw y e; omega
    have hq1w : ∀ y, OwnB q1 y → w.heap.size ≤ y := fun y hy => by have := hnq1 y hy; omega
    have hq13 : ∀ y, OwnB q1 y → y ≠ b3 := fun y hy e => by have := hnq1 y hy; omega
    refine wl_p I_ok rfl (wl_nil (f_then (c_seq (c_region (wl_p I_ok rfl (wl_nil (f_then ?_)))))))
    refine c_cutK (α := Int × PZ) [3, 6] rfl (fun z => [(7, .int .i64 z.1), (8, .int .i64 z.1)]) (fun z u => (Blk u bx 46 [.pointer (some ⟨d1, 0, none⟩), .pointer (some ⟨d2, 0, none⟩), .pointer (some ⟨x, 0, none⟩), .pointer (some ⟨xb, 0, none⟩)] ∧ PairAt w0 u d1 d2 x xb z.2 (goD W o) (goD W o) ∧ (∀ y, z.2.any y → z9.any y ∨ (w.heap.size ≤ y ∧ ¬ OwnB q1 y)) ∧ Own u q1 (bytesD o).length c1 5 1 (bytesU (bytesD o)) ∧ Ext No w0 u) ∧ Blk u b3 31 (o.cells) ∧ Ext G w u) ?_ ?_
    · refine c_seq ?_
      refine c_region (wl (st_ldB I_ok hb3 rfl rfl (wl (st_call Tryz.call11 rfl rfl rfl rfl rfl rfl (which_calls w4 o) fun v5 w5 hr5 => ?_))))
      obtain ⟨rfl, hE5⟩ := hr5
      have hb3 := hb3.extNo hE5
      have hks := hks.extNo hE5
      have hX0 := hX0.thenNo hE5
      have hb := hb.extNo hE5
      have hp := hp.extNo hE5
      have hq1 := hq1.ext hE5 fun _ _ => id
      have hX := hX.thenNo hE5
      refine wl_p I_ok rfl (wl_nil (f_then (c_if rfl (fun hc => ?_) (fun hc => ?_))))
      · have hw0 : whichD o = 0 := by omega
        refine c_draw rfl 15 [(0, true), (1, true), (2, true), (3, true), (4, true), (6, true), (7, true), (8, true), (9, true), (10, true), (5, false), (11, false), (12, false), (13, true), (14, true)] [] (z9.any) (by kernel_rfl) fun w6 hE6 hs6 => ?_
        have hd3 := hb3
        have hksd := hks
        have hX0d := hX0
        have hbd := hb
        have hpd := hp
        have hq1d := hq1
        have hXd := hX
        have hb3 := hb3.extNo hE6
        have hks := hks.extNo hE6
        have hX0 := hX0.thenNo hE6
        have hb := hb.extNo hE6
        have hp := hp.extNo hE6
        have hq1 := hq1.ext hE6 fun _ _ => id
        have hX := hX.thenNo hE6
        have hC : Ext (z9.any) _ w6 := hE6.no
        obtain ⟨N, hN⟩ : ∃ N, N = w5.heap.size := ⟨_, rfl⟩
        have hq1N : ∀ y, OwnB q1 y → y < N := fun y hy => by rw [hN]; exact hq1d.lt hy
        have hwN : w.heap.size ≤ N := by rw [hN]; exact hXd.size
        refine wd_k I_ok 3 rfl (wd_ld I_ok rfl rfl (fun w' hw' => ((hbd.ext hw' hzb).cell rfl)) ?_)
        refine wd_k I_ok 4 rfl (wd_ld I_ok rfl rfl (fun w' hw' => ((hbd.ext hw' hzb).cell rfl)) ?_)
        refine wd_ldN I_ok rfl rfl (fun w' hw' => ((hd3.ext hw' nz3).seg)) rfl ?_
        have hCs := hC.size
        refine wd_l rfl (st_call Tryz.call17 rfl rfl rfl rfl rfl rfl (append_calls w6 (c := c1) hp.l1 hp.a1 hok (by omega) hW hq1.sl (by omega) hp.rt hF0 (fun y hy e => (hp.n1 y e).1 hy) (fun y off e => ⟨fun g => hq1n y (OwnB.of hq1 e) (.inl g), fun g => hq1n y (OwnB.of hq1 e) (.inr (.inl g))⟩)) fun v7 w7 hr7 => ⟨(by obtain ⟨rfl, F3, H3, q_1, q_2, q_3, q_4, q_5, hE7⟩ := hr7; exact hC.then (hE7.mono fun y _ e => e.elim .inl fun e => .inr (.inl e))), ?_⟩)
        obtain ⟨rfl, F3, H3, q_1, q_2, q_3, q_4, q_5, hE7⟩ := hr7
        have hC := hC.then (hE7.mono fun y _ e => e.elim .inl fun e => .inr (.inl e))
        obtain ⟨hp, hX0, hEa, hg1⟩ := hp.first hr0 hX0 q_1 q_2 q_3 q_4 q_5 hE7
        have hb := hb.ext hEa hzb
        have hb3 := hb3.ext hEa nz3
        have hks := keepSl hks hEa fun h0 b off e g => by have := hkl h0 b off e; have := (hlo b (hzG b g)).1; omega
        have hq1 := hq1.ext hEa hq1n
        have hX := hX.then (hEa.mono fun y _ e => hzG y e)
        obtain ⟨z1, hz1⟩ : ∃ z1 : PZ, z1 = (F3, H3, z9.2.2.1, z9.2.2.2) := ⟨_, rfl⟩
        rw [← hz1] at hp hg1
        have hz1k : z1.2.2.1 = z9.2.2.1 ∧ z1.2.2.2 = z9.2.2.2 := by rw [hz1]; exact ⟨rfl, rfl⟩
        have hg1 : ∀ y, z1.any y → z9.any y ∨ N ≤ y := fun y hy => (hg1 y hy).imp id fun e => by omega
        have hX11 := hX.size
        have hz1l := fun y (hy : z1.any y) => (hp.lo y hy).2
        have hCs := hC.size
        refine wd_l rfl (st_call Tryz.call26 rfl rfl rfl rfl rfl rfl (dbytes_calls w7 o) fun v8 w8 hr8 => ⟨(by obtain ⟨q2, c2, rfl, hq2, hnq2, hE8⟩ := hr8; exact hC.thenNo hE8), ?_⟩)
        obtain ⟨q2, c2, rfl, hq2, hnq2, hE8⟩ := hr8
        have hb3 := hb3.extNo hE8
        have hks := hks.extNo hE8
        have hX0 := hX0.thenNo hE8
        have hb := hb.extNo hE8
        have hp := hp.extNo hE8
        have hq1 := hq1.ext hE8 fun _ _ => id
        have hX := hX.thenNo hE8
        have hC := hC.thenNo hE8
        have hz1b : ¬ z1.any bx := fun e => (hg1 bx e).elim hzb fun g => by omega
        have hz13 : ¬ z1.any b3 := fun e => (hg1 b3 e).elim nz3 fun g => by have := hd3.lt; omega
        have hCs2 := hC.size
        have hp3lo := hp.lo
        refine wd_l rfl (st_call Tryz.call27 rfl rfl rfl rfl rfl rfl (bookAppend_calls w8 (c := c2) (K := OwnB q2) hp.b2 hp.a2 hok (by omega) hW hq2.sl (PieceAt.ofOwn hq2 fun y h => h) (fun y hy => ⟨fun e => by have := hz1l y (.inr (.inr (.inl e))); have := hnq2 y hy; omega, hq2.lt hy⟩) (fun y hy e => hp.n3 y e hy)) fun v9 w9 hr9 => ⟨(by obtain ⟨rfl, F4, H4, q_1, q_2, q_3, q_4, q_5, hE9⟩ := hr9; exact hC.then (hE9.mono fun y _ e => e.elim (fun e => .inr (.inr (.inl (by rw [← hz1k.1]; exact e)))) fun e => .inr (.inr (.inr (by rw [← hz1k.2]; exact e))))), ?_⟩)
        obtain ⟨rfl, F4, H4, q_1, q_2, q_3, q_4, q_5, hE9⟩ := hr9
        have hC := hC.then (hE9.mono fun y _ e => e.elim (fun e => .inr (.inr (.inl (by rw [← hz1k.1]; exact e)))) fun e => .inr (.inr (.inr (by rw [← hz1k.2]; exact e))))
        obtain ⟨hp, hX0, hEb, hg2⟩ := hp.second hr0 hX0 (fun y hy => ⟨⟨by have := hnq2 y hy; have := hX11; omega, hq2.lt hy⟩, fun e => by have := hz1l y e; have := hnq2 y hy; omega⟩) q_1 q_2 q_3 q_4 q_5 hE9
        have hb := hb.ext hEb hz1b
        have hb3 := hb3.ext hEb hz13
        have hks := keepSl hks hEb fun h0 b off e g => by have := hkl h0 b off e; have := (hp3lo b g).1; omega
        have hq1 := hq1.ext hEb fun y hy e => (hg1 y e).elim (hq1n y hy) fun g => by have := hq1N y hy; omega
        have hX := hX.trans hEb fun y hy e => (hg1 y e).elim (hzG y) fun g => by omega
        obtain ⟨z2, hz2⟩ : ∃ z2 : PZ, z2 = (z1.1, z1.2.1, F4, H4) := ⟨_, rfl⟩
        rw [← hz2] at hp hg2
        have hgo : goD W o = (W.append (bytesD o)).1 := if_pos hw0
        rw [← hgo] at hp
        have hg3 : ∀ y, z2.any y → z9.any y ∨ (w.heap.size ≤ y ∧ ¬ OwnB q1 y) := fun y hy => (hg2 y hy).elim (fun e => e.elim (fun e => (hg1 y e).imp id fun g => ⟨by omega, fun h => by have := hq1N y h; omega⟩) fun e => .inr ⟨by have := hnq2 y e; omega, fun h => by have := hq1N y h; have := hnq2 y e; omega⟩) fun e => .inr ⟨by omega, fun h => by have := hq1N y h; omega⟩
        refine wd_k I_ok 2 rfl (wd_sw (wb_nil ?_))
        exact f_cut (((W.append (bytesD o)).2, z2)) rfl ⟨⟨hb, hp, hg3, hq1, hX0⟩, hb3, hX⟩
      · have hw0 : ¬ whichD o = 0 := by omega
        have hw1 : whichD o = 1 := by omega
        refine c_draw rfl 15 [(0, true), (1, true), (2, true), (3, true), (4, true), (6, true), (7, true), (8, true), (9, true), (10, true), (5, false), (11, false), (12, false), (13, true), (14, true)] [] (z9.any) (by kernel_rfl) fun w10 hE10 hs10 => ?_
        have hd3 := hb3
        have hksd := hks
        have hX0d := hX0
        have hbd := hb
        have hpd := hp
        have hq1d := hq1
        have hXd := hX
        have hb3 := hb3.extNo hE10
        have hks := hks.extNo hE10
        have hX0 := hX0.thenNo hE10
        have hb := hb.extNo hE10
        have hp := hp.extNo hE10
        have hq1 := hq1.ext hE10 fun _ _ => id
        have hX := hX.thenNo hE10
        have hC : Ext (z9.any) _ w10 := hE10.no
        obtain ⟨N, hN⟩ : ∃ N, N = w5.heap.size := ⟨_, rfl⟩
        have hq1N : ∀ y, OwnB q1 y → y < N := fun y hy => by rw [hN]; exact hq1d.lt hy
        have hwN : w.heap.size ≤ N := by rw [hN]; exact hXd.size
        refine wd_k I_ok 3 rfl (wd_ld I_ok rfl rfl (fun w' hw' => ((hbd.ext hw' hzb).cell rfl)) ?_)
        refine wd_k I_ok 4 rfl (wd_ld I_ok rfl rfl (fun w' hw' => ((hbd.ext hw' hzb).cell rfl)) ?_)
        refine wd_ldN I_ok rfl rfl (fun w' hw' => ((hd3.ext hw' nz3).seg)) rfl ?_
        have hCs := hC.size
        refine wd_l rfl (st_call Tryz.call28 rfl rfl rfl rfl rfl rfl (checkpoint_calls w10 (c := c1) hp.l1 hp.a1 hok (by omega) hW hq1.sl (by omega) hp.rt hF0 (fun y hy e => (hp.n1 y e).1 hy) (fun y off e => ⟨fun g => hq1n y (OwnB.of hq1 e) (.inl g), fun g => hq1n y (OwnB.of hq1 e) (.inr (.inl g)), hq1.lt (OwnB.of hq1 e)⟩)) fun v11 w11 hr11 => ⟨(by obtain ⟨rfl, F3, H3, q_1, q_2, q_3, q_4, q_5, hE11⟩ := hr11; exact hC.then (hE11.mono fun y _ e => e.elim .inl fun e => .inr (.inl e))), ?_⟩)
        obtain ⟨rfl, F3, H3, q_1, q_2, q_3, q_4, q_5, hE11⟩ := hr11
        have hC := hC.then (hE11.mono fun y _ e => e.elim .inl fun e => .inr (.inl e))
        obtain ⟨hp, hX0, hEa, hg1⟩ := hp.first hr0 hX0 q_1 q_2 q_3 q_4 q_5 hE11
        have hb := hb.ext hEa hzb
        have hb3 := hb3.ext hEa nz3
        have hks := keepSl hks hEa fun h0 b off e g => by have := hkl h0 b off e; have := (hlo b (hzG b g)).1; omega
        have hq1 := hq1.ext hEa hq1n
        have hX := hX.then (hEa.mono fun y _ e => hzG y e)
        obtain ⟨z1, hz1⟩ : ∃ z1 : PZ, z1 = (F3, H3, z9.2.2.1, z9.2.2.2) := ⟨_, rfl⟩
        rw [← hz1] at hp hg1
        have hz1k : z1.2.2.1 = z9.2.2.1 ∧ z1.2.2.2 = z9.2.2.2 := by rw [hz1]; exact ⟨rfl, rfl⟩
        have hg1 : ∀ y, z1.any y → z9.any y ∨ N ≤ y := fun y hy => (hg1 y hy).imp id fun e => by omega
        have hX11 := hX.size
        have hz1l := fun y (hy : z1.any y) => (hp.lo y hy).2
        have hCs := hC.size
        refine wd_l rfl (st_call Tryz.call26 rfl rfl rfl rfl rfl rfl (dbytes_calls w11 o) fun v12 w12 hr12 => ⟨(by obtain ⟨q2, c2, rfl, hq2, hnq2, hE12⟩ := hr12; exact hC.thenNo hE12), ?_⟩)
        obtain ⟨q2, c2, rfl, hq2, hnq2, hE12⟩ := hr12
        have hb3 := hb3.extNo hE12
        have hks := hks.extNo hE12
        have hX0 := hX0.thenNo hE12
        have hb := hb.extNo hE12
        have hp := hp.extNo hE12
        have hq1 := hq1.ext hE12 fun _ _ => id
        have hX := hX.thenNo hE12
        have hC := hC.thenNo hE12
        have hz1b : ¬ z1.any bx := fun e => (hg1 bx e).elim hzb fun g => by omega
        have hz13 : ¬ z1.any b3 := fun e => (hg1 b3 e).elim nz3 fun g => by have := hd3.lt; omega
        have hCs2 := hC.size
        have hp3lo := hp.lo
        refine wd_l rfl (st_call Tryz.call29 rfl rfl rfl rfl rfl rfl (bookCheckpoint_calls w12 (c := c2) (K := OwnB q2) hp.b2 hp.a2 hok (by omega) hW hq2.sl (PieceAt.ofOwn hq2 fun y h => h) (fun y hy => ⟨fun e => by have := hz1l y (.inr (.inr (.inl e))); have := hnq2 y hy; omega, hq2.lt hy⟩) (fun y hy e => hp.n3 y e hy)) fun v13 w13 hr13 => ⟨(by obtain ⟨rfl, F4, H4, q_1, q_2, q_3, q_4, q_5, hE13⟩ := hr13; exact hC.then (hE13.mono fun y _ e => e.elim (fun e => .inr (.inr (.inl (by rw [← hz1k.1]; exact e)))) fun e => .inr (.inr (.inr (by rw [← hz1k.2]; exact e))))), ?_⟩)
        obtain ⟨rfl, F4, H4, q_1, q_2, q_3, q_4, q_5, hE13⟩ := hr13
        have hC := hC.then (hE13.mono fun y _ e => e.elim (fun e => .inr (.inr (.inl (by rw [← hz1k.1]; exact e)))) fun e => .inr (.inr (.inr (by rw [← hz1k.2]; exact e))))
        obtain ⟨hp, hX0, hEb, hg2⟩ := hp.second hr0 hX0 (fun y hy => ⟨⟨by have := hnq2 y hy; have := hX11; omega, hq2.lt hy⟩, fun e => by have := hz1l y e; have := hnq2 y hy; omega⟩) q_1 q_2 q_3 q_4 q_5 hE13
        have hb := hb.ext hEb hz1b
        have hb3 := hb3.ext hEb hz13
        have hks := keepSl hks hEb fun h0 b off e g => by have := hkl h0 b off e; have := (hp3lo b g).1; omega
        have hq1 := hq1.ext hEb fun y hy e => (hg1 y e).elim (hq1n y hy) fun g => by have := hq1N y hy; omega
        have hX := hX.trans hEb fun y hy e => (hg1 y e).elim (hzG y) fun g => by omega
        obtain ⟨z2, hz2⟩ : ∃ z2 : PZ, z2 = (z1.1, z1.2.1, F4, H4) := ⟨_, rfl⟩
        rw [← hz2] at hp hg2
        have hgo : goD W o = (W.checkpoint (bytesD o)).1 := by rw [goD, if_neg hw0, if_pos hw1]
        rw [← hgo] at hp
        have hg3 : ∀ y, z2.any y → z9.any y ∨ (w.heap.size ≤ y ∧ ¬ OwnB q1 y) := fun y hy => (hg2 y hy).elim (fun e => e.elim (fun e => (hg1 y e).imp id fun g => ⟨by omega, fun h => by have := hq1N y h; omega⟩) fun e => .inr ⟨by have := hnq2 y e; omega, fun h => by have := hq1N y h; have := hnq2 y e; omega⟩) fun e => .inr ⟨by omega, fun h => by have := hq1N y h; omega⟩
        refine wd_k I_ok 2 rfl (wd_sw (wb_nil ?_))
        exact f_cut (((W.checkpoint (bytesD o)).2, z2)) rfl ⟨⟨hb, hp, hg3, hq1, hX0⟩, hb3, hX⟩
    rintro ⟨e, z2⟩ w14 ⟨⟨hb, hp, hg2, hq1, hX0⟩, hb3, hX⟩
    try dsimp only
    dsimp only at hp hg2
    refine c_seq (c_region (wl_p I_ok rfl (wl (st_ldB I_ok hb3 rfl rfl (wl (st_call Tryz.call26 rfl rfl rfl rfl rfl rfl (dbytes_calls w14 o) fun v15 w15 hr15 => ?_))))))
    obtain ⟨q4, c4, rfl, hq4, hnq4, hE15⟩ := hr15
    have hb3 := hb3.extNo hE15
    have hX0 := hX0.thenNo hE15
    have hb := hb.extNo hE15
    have hp := hp.extNo hE15
    have hq1 := hq1.ext hE15 fun _ _ => id
    have hX := hX.thenNo hE15
    refine wl (st_call Tryz.call24 rfl rfl rfl rfl rfl rfl (bytesEqual_calls w15 hq1.sl hq4.sl) fun v16 w16 hr16 => ?_)
    obtain ⟨rfl, rfl⟩ := hr16
    rw [decide_eq_true rfl]
    refine wl_p I_ok rfl (wl_nil (f_then (c_seq (c_region (wl_p I_ok rfl (wl (st_clO (zs := [.int .u8 0]) I_ok rfl rfl (by decide) OneC.h hq1 fun w17 hE17 hs17 => ?_)))))))
    have hzn : ∀ y, z2.any y → ¬ OwnB q1 y := fun y hy g => (hg2 y hy).elim (hq1n y g) fun e => e.2 g
    have hzb2 : ¬ z2.any bx := fun e => (hg2 bx e).elim hzb fun e => by omega
    have hb := hb.ext hE17 fun e => by have := hq1w bx e; omega
    have hp := hp.ext hE17 hzn fun e => by have := hq1w 0 e; omega
    have hb3 := hb3.ext hE17 fun e => hq13 b3 e rfl
    have hX0 := hX0.trans hE17 fun y hy e => by have := hq1w y e; omega
    have hX := hX.trans hE17 fun y hy e => by have := hq1w y e; omega
    have hb3l := hb3.lt
    refine wl_nil (f_then (c_cutK (α := Bool) [] rfl (fun z => [(4, .bool z)]) (fun z u => u = w17 ∧ z = true) ?_ ?_))
    · refine c_region ?_
      refine wl_p I_ok rfl (wl_case 57 rfl (fun hg => ?_) (fun hg => ?_))
      · refine wl_pk I_ok 5 rfl ?_
        refine wl_nil ?_
        exact f_cut (decide (e = e)) rfl ⟨rfl, by simp⟩
      · cases hg
    rintro z w18 ⟨hu, rfl⟩
    have hu := hu.symm
    subst hu
    refine c_ret (f_blockR (f_thenR (f_ret1 rfl rfl ?_)))
    exact ⟨rfl, hX0, hX, (fun y => z2.any y ∨ y = bx), ⟨⟨x, xb, z2, hb, hp, fun y => .inl, hzb2⟩, .inr rfl, fun y hy => hy.elim (hp.lo y) fun e => by have e : y = bx := e; rw [e]; exact ⟨(hlo bx hG).1, hb.lt⟩⟩, fun y hy => hy.elim (fun e => (hg2 y e).imp (hzG y) fun e => e.1) fun e => by have e : y = bx := e; rw [e]; exact .inl hG⟩
  · have hn01 := hc
    refine c_seq (c_region (wl_p I_ok rfl (wl_nil (f_then (c_if rfl (fun hc => ?_) (fun hc => ?_))))))
    · have hw2 : whichD o = 2 := by omega
      refine c_seq (c_draw rfl 14 [(0, true), (1, true), (2, true), (3, true), (4, true), (6, true), (7, true), (8, true), (9, true), (10, true), (5, false), (11, false), (12, true), (13, true)] [] (z9.any) (by kernel_rfl) fun w19 hE19 hs19 => ?_)
      have hd3 := hb3
      have hksd := hks
      have hX0d := hX0
      have hbd := hb
      have hpd := hp
      have hXd := hX
      have hb3 := hb3.extNo hE19
      have hks := hks.extNo hE19
      have hX0 := hX0.thenNo hE19
      have hb := hb.extNo hE19
      have hp := hp.extNo hE19
      have hX := hX.thenNo hE19
      have hC : Ext (z9.any) _ w19 := hE19.no
      refine wd_k I_ok 3 rfl (wd_ld I_ok rfl rfl (fun w' hw' => ((hbd.ext hw' hzb).cell rfl)) ?_)
      refine wd_k I_ok 4 rfl (wd_ld I_ok rfl rfl (fun w' hw' => ((hbd.ext hw' hzb).cell rfl)) ?_)
      refine wd_k I_ok 1 rfl (wd_l rfl (st_call Tryz.call30 rfl rfl rfl rfl rfl rfl (dk_fail w19 hp.a1 ((u64N o.num % 30 : Nat) : Int)) fun v20 w20 hr20 => ⟨(by obtain ⟨rfl, hA1, hE20⟩ := hr20; exact hC.then (hE20.mono fun y _ e => .inl e)), ?_⟩))
      obtain ⟨rfl, hA1, hE20⟩ := hr20
      have hC := hC.then (hE20.mono fun y _ e => .inl e)
      obtain ⟨hp, hX0, hEa, hg1⟩ := hp.disk1 hr0 hX0 hA1 (fun y => .inl) hE20
      have hb := hb.ext hEa hzb
      have hX := hX.then (hEa.mono fun y _ e => hzG y e)
      refine wd_l rfl (st_call Tryz.call30 rfl rfl rfl rfl rfl rfl (dk_fail w20 hp.a2 ((u64N o.num % 30 : Nat) : Int)) fun v21 w21 hr21 => ⟨(by obtain ⟨rfl, hA2, hE21⟩ := hr21; exact hC.then (hE21.mono fun y _ e => .inr (.inr (.inl e)))), ?_⟩)
      obtain ⟨rfl, hA2, hE21⟩ := hr21
      have hC := hC.then (hE21.mono fun y _ e => .inr (.inr (.inl e)))
      obtain ⟨hp, hX0, hEb, hg2⟩ := hp.disk2 hr0 hX0 hA2 (fun y => .inl) hE21
      have hb := hb.ext hEb hzb
      have hX := hX.then (hEb.mono fun y _ e => hzG y e)
      have hgo : goD W o = { W with D := (W.D.fail ((u64N o.num % 30 : Nat) : Int)).1 } := by rw [goD, if_neg (fun e => hn01 (.inl e)), if_neg (fun e => hn01 (.inr e)), if_pos hw2]
      rw [← hgo] at hp
      refine wd_k I_ok 2 rfl (wd_sw (wb_nil (f_then (c_ret (f_blockR (f_thenR (f_ret1 rfl rfl ?_)))))))
      rw [decide_eq_true rfl]
      exact ⟨rfl, hX0, hX, G, ⟨⟨x, xb, z9, hb, hp, hzG, hzb⟩, hG, fun y hy => ⟨(hlo y hy).1, Nat.lt_of_lt_of_le (hlo y hy).2 hX.size⟩⟩, fun y => .inl⟩
    · have hw2 : ¬ whichD o = 2 := by omega
      refine c_seq (c_region (wl_p I_ok rfl (wl_nil (f_then (c_if rfl (fun hc => ?_) (fun hc => ?_))))))
      · have hw3 : whichD o = 3 := by omega
        refine c_seq (c_draw rfl 14 [(0, true), (1, true), (2, true), (3, true), (4, true), (6, true), (7, true), (8, true), (9, true), (10, true), (5, false), (11, false), (12, true), (13, true)] [] (z9.any) (by kernel_rfl) fun w22 hE22 hs22 => ?_)
        have hd3 := hb3
        have hksd := hks
        have hX0d := hX0
        have hbd := hb
        have hpd := hp
        have hXd := hX
        have hb3 := hb3.extNo hE22
        have hks := hks.extNo hE22
        have hX0 := hX0.thenNo hE22
        have hb := hb.extNo hE22
        have hp := hp.extNo hE22
        have hX := hX.thenNo hE22
        have hC : Ext (z9.any) _ w22 := hE22.no
        refine wd_k I_ok 3 rfl (wd_ld I_ok rfl rfl (fun w' hw' => ((hbd.ext hw' hzb).cell rfl)) ?_)
        refine wd_k I_ok 4 rfl (wd_ld I_ok rfl rfl (fun w' hw' => ((hbd.ext hw' hzb).cell rfl)) ?_)
        refine wd_k I_ok 1 rfl (wd_l rfl (st_call Tryz.call31 rfl rfl rfl rfl rfl rfl (dk_arm w22 hp.a1 ((u64N o.num % 30 : Nat) : Int)) fun v23 w23 hr23 => ⟨(by obtain ⟨rfl, hA1, hE23⟩ := hr23; exact hC.then (hE23.mono fun y _ e => .inl e)), ?_⟩))
        obtain ⟨rfl, hA1, hE23⟩ := hr23
        have hC := hC.then (hE23.mono fun y _ e => .inl e)
        obtain ⟨hp, hX0, hEa, hg1⟩ := hp.disk1 hr0 hX0 hA1 (fun y => .inl) hE23
        have hb := hb.ext hEa hzb
        have hX := hX.then (hEa.mono fun y _ e => hzG y e)
        refine wd_l rfl (st_call Tryz.call31 rfl rfl rfl rfl rfl rfl (dk_arm w23 hp.a2 ((u64N o.num % 30 : Nat) : Int)) fun v24 w24 hr24 => ⟨(by obtain ⟨rfl, hA2, hE24⟩ := hr24; exact hC.then (hE24.mono fun y _ e => .inr (.inr (.inl e)))), ?_⟩)
        obtain ⟨rfl, hA2, hE24⟩ := hr24
        have hC := hC.then (hE24.mono fun y _ e => .inr (.inr (.inl e)))
        obtain ⟨hp, hX0, hEb, hg2⟩ := hp.disk2 hr0 hX0 hA2 (fun y => .inl) hE24
        have hb := hb.ext hEb hzb
        have hX := hX.then (hEb.mono fun y _ e => hzG y e)
        have hgo : goD W o = { W with D := (W.D.arm ((u64N o.num % 30 : Nat) : Int)).1 } := by rw [goD, if_neg (fun e => hn01 (.inl e)), if_neg (fun e => hn01 (.inr e)), if_neg hw2, if_pos hw3]
        rw [← hgo] at hp
        refine wd_k I_ok 2 rfl (wd_sw (wb_nil (f_then (c_ret (f_blockR (f_thenR (f_ret1 rfl rfl ?_)))))))
        rw [decide_eq_true rfl]
        exact ⟨rfl, hX0, hX, G, ⟨⟨x, xb, z9, hb, hp, hzG, hzb⟩, hG, fun y hy => ⟨(hlo y hy).1, Nat.lt_of_lt_of_le (hlo y hy).2 hX.size⟩⟩, fun y => .inl⟩
      · have hw3 : ¬ whichD o = 3 := by omega
        refine c_skip (f_blockN (f_then (c_cutK (α := Bool) [] rfl (fun z => [(4, .bool z)]) (fun z u => (z = true ∧ Ext No w0 u ∧ ∃ G2, BothI w0 u bx d1 d2 G2 (goD W o) ∧ ∀ y, G2 y → G y ∨ w.heap.size ≤ y) ∧ Blk u b3 31 (o.cells) ∧ Ext G w u) ?_ ?_)))
        · refine c_drawX rfl 23 23 [] (G) (by kernel_rfl) fun w25 hE25 hs25 => ?_
          have hd3 := hb3
          have hksd := hks
          have hX0d := hX0
          have hbd := hb
          have hpd := hp
          have hXd := hX
          have hb3 := hb3.extNo hE25
          have hks := hks.extNo hE25
          have hX0 := hX0.thenNo hE25
          have hb := hb.extNo hE25
          have hp := hp.extNo hE25
          have hX := hX.thenNo hE25
          have hC : Ext (G) _ w25 := hE25.no
          refine wx_plan [(0, true), (1, true), (2, true), (4, true)] 19 rfl (by kernel_rfl) (wd_k I_ok 3 rfl (wd_ldN I_ok rfl rfl (fun w' hw' => ((hd3.ext hw' nG3).seg)) rfl ?_))
          refine wd_tail rfl (wx_alt [3, 5] rfl (by kernel_rfl) ⟨⟨_, rfl, ?_⟩, ⟨_, rfl, ?_⟩, trivial⟩)
          · refine st_ld I_ok rfl (hb.cell rfl) ⟨hC, ?_⟩
            refine wx_plan [(5, false), (6, false), (7, true), (8, true), (9, true), (10, true), (11, true), (13, true)] 10 rfl (by kernel_rfl) ?_
            have hpl := hp.lo
            refine wd_l rfl (st_call Tryz.call32 rfl rfl rfl rfl rfl rfl (keep_calls w25 o hks hck) fun v26 w26 hr26 => ⟨(by obtain ⟨q5, c5, rfl, hk5, hnk5, hE26⟩ := hr26; exact hC.thenNo hE26), ?_⟩)
            obtain ⟨q5, c5, rfl, hk5, hnk5, hE26⟩ := hr26
            have hb3 := hb3.extNo hE26
            have hks := hks.extNo hE26
            have hX0 := hX0.thenNo hE26
            have hb := hb.extNo hE26
            have hp := hp.extNo hE26
            have hX := hX.thenNo hE26
            have hC := hC.thenNo hE26
            refine wd_l rfl (st_call Tryz.call18 rfl rfl rfl rfl rfl rfl (dk_crash w26 hp.a1 hok (by omega) (n := (keepD o).length) (c := c5) (keep := keepD o) rfl hk5 (fun b off e g => by have := hnk5 b off e; have := hpl b (.inl g); omega)) fun v27 w27 hr27 => ⟨(by obtain ⟨rfl, hA1, hE27⟩ := hr27; exact hC.then (hE27.mono fun y _ e => hzG y (.inl e))), ?_⟩)
            obtain ⟨rfl, hA1, hE27⟩ := hr27
            have hC := hC.then (hE27.mono fun y _ e => hzG y (.inl e))
            obtain ⟨hp, hX0, hEa, hg1⟩ := hp.disk1 hr0 hX0 hA1 (fun y => .inl) hE27
            have hb := hb.ext hEa hzb
            have hb3 := hb3.ext hEa nz3
            have hks := keepSl hks hEa (by intro h0 b off e g; have := hkl h0 b off e; have := (hlo b (hzG b g)).1; omega)
            have hX := hX.then (hEa.mono fun y _ e => hzG y e)
            refine wd_k I_ok 5 rfl (wd_ldN I_ok rfl rfl (fun w' hw' => ((hd3.ext hw' nG3).seg)) rfl ?_)
            refine wd_tail rfl (wx_alt [12, 14] rfl (by kernel_rfl) ⟨⟨_, rfl, ?_⟩, ⟨_, rfl, ?_⟩, trivial⟩)
            · refine st_ld I_ok rfl (hb.cell rfl) ⟨hC, ?_⟩
              refine wx_plan [(14, false), (15, false), (16, true), (17, true), (18, true), (19, true), (20, false), (21, true), (22, true)] 0 rfl (by kernel_rfl) ?_
              have hpl := hp.lo
              refine wd_l rfl (st_call Tryz.call32 rfl rfl rfl rfl rfl rfl (keep_calls w27 o hks hck) fun v28 w28 hr28 => ⟨(by obtain ⟨q6, c6, rfl, hk6, hnk6, hE28⟩ := hr28; exact hC.thenNo hE28), ?_⟩)
              obtain ⟨q6, c6, rfl, hk6, hnk6, hE28⟩ := hr28
              have hb3 := hb3.extNo hE28
              have hks := hks.extNo hE28
              have hX0 := hX0.thenNo hE28
              have hb := hb.extNo hE28
              have hp := hp.extNo hE28
              have hX := hX.thenNo hE28
              have hC := hC.thenNo hE28
              refine wd_l rfl (st_call Tryz.call18 rfl rfl rfl rfl rfl rfl (dk_crash w28 hp.a2 hok (by omega) (n := (keepD o).length) (c := c6) (keep := keepD o) rfl hk6 (fun b off e g => by have := hnk6 b off e; have := hpl b (.inr (.inr (.inl g))); omega)) fun v29 w29 hr29 => ⟨(by obtain ⟨rfl, hA1, hE29⟩ := hr29; exact hC.then (hE29.mono fun y _ e => hzG y (.inr (.inr (.inl e))))), ?_⟩)
              obtain ⟨rfl, hA1, hE29⟩ := hr29
              have hC := hC.then (hE29.mono fun y _ e => hzG y (.inr (.inr (.inl e))))
              obtain ⟨hp, hX0, hEb, hg2⟩ := hp.disk2 hr0 hX0 hA1 (fun y => .inl) hE29
              have hb := hb.ext hEb hzb
              have hb3 := hb3.ext hEb nz3
              have hX := hX.then (hEb.mono fun y _ e => hzG y e)
              have hBc : BothI w0 w29 bx d1 d2 G { W with D := W.D.crash (keepD o) } := ⟨⟨x, xb, z9, hb, hp, hzG, hzb⟩, hG, fun y hy => ⟨(hlo y hy).1, Nat.lt_of_lt_of_le (hlo y hy).2 hX.size⟩⟩
              have hgo : goD W o = reopen { W with D := W.D.crash (keepD o) } := by rw [goD, if_neg (fun e => hn01 (.inl e)), if_neg (fun e => hn01 (.inr e)), if_neg hw2, if_neg hw3]
              refine wd_k I_ok 4 rfl ?_
              have hXs20 := hX.size
              refine wd_l rfl (st_call Tryz.call10 rfl rfl rfl rfl rfl rfl (opens_calls w29 hBc hr0 hX0 (hok.crash _) (by omega) (hW.on (by simp [Dsk.crash, Dsk.settle, settleAll_length]))) fun v30 w30 hr30 => ⟨(by obtain ⟨rfl, hX0n, hE30, G2, hB2, hG2⟩ := hr30; exact hC.then hE30), ?_⟩)
              obtain ⟨rfl, hX0n, hE30, G2, hB2, hG2⟩ := hr30
              have hC := hC.then hE30
              rw [← hgo] at hB2
              have hb3 := hb3.ext hE30 nG3
              have hX := hX.then hE30
              have hG2 : ∀ y, G2 y → G y ∨ w.heap.size ≤ y := fun y hy => (hG2 y hy).imp id fun e => by omega
              refine wd_k I_ok 2 rfl (wd_sw (wb_nil ?_))
              exact f_cut (true) rfl ⟨⟨rfl, hX0n, G2, hB2, hG2⟩, hb3, hX⟩
            · have hpl := hp.lo
              refine st_call Tryz.call32 rfl rfl rfl rfl rfl rfl (keep_calls w27 o hks hck) fun v31 w31 hr31 => ⟨(by obtain ⟨q6, c6, rfl, hk6, hnk6, hE31⟩ := hr31; exact hC.thenNo hE31), ?_⟩
              obtain ⟨q6, c6, rfl, hk6, hnk6, hE31⟩ := hr31
              have hb3 := hb3.extNo hE31
              have hks := hks.extNo hE31
              have hX0 := hX0.thenNo hE31
              have hb := hb.extNo hE31
              have hp := hp.extNo hE31
              have hX := hX.thenNo hE31
              have hC := hC.thenNo hE31
              refine wx_plan [(12, false), (15, false), (16, true), (17, true), (18, true), (19, true), (20, false), (21, true), (22, true)] 0 rfl (by kernel_rfl) (wd_l rfl (st_ld I_ok rfl (hb.cell rfl) ⟨hC, ?_⟩))
              refine wd_l rfl (st_call Tryz.call18 rfl rfl rfl rfl rfl rfl (dk_crash w31 hp.a2 hok (by omega) (n := (keepD o).length) (c := c6) (keep := keepD o) rfl hk6 (fun b off e g => by have := hnk6 b off e; have := hpl b (.inr (.inr (.inl g))); omega)) fun v32 w32 hr32 => ⟨(by obtain ⟨rfl, hA1, hE32⟩ := hr32; exact hC.then (hE32.mono fun y _ e => hzG y (.inr (.inr (.inl e))))), ?_⟩)
              obtain ⟨rfl, hA1, hE32⟩ := hr32
              have hC := hC.then (hE32.mono fun y _ e => hzG y (.inr (.inr (.inl e))))
              obtain ⟨hp, hX0, hEb, hg2⟩ := hp.disk2 hr0 hX0 hA1 (fun y => .inl) hE32
              have hb := hb.ext hEb hzb
              have hb3 := hb3.ext hEb nz3
              have hX := hX.then (hEb.mono fun y _ e => hzG y e)
              have hBc : BothI w0 w32 bx d1 d2 G { W with D := W.D.crash (keepD o) } := ⟨⟨x, xb, z9, hb, hp, hzG, hzb⟩, hG, fun y hy => ⟨(hlo y hy).1, Nat.lt_of_lt_of_le (hlo y hy).2 hX.size⟩⟩
              have hgo : goD W o = reopen { W with D := W.D.crash (keepD o) } := by rw [goD, if_neg (fun e => hn01 (.inl e)), if_neg (fun e => hn01 (.inr e)), if_neg hw2, if_neg hw3]
              refine wd_k I_ok 4 rfl ?_
              have hXs20 := hX.size
              refine wd_l rfl (st_call Tryz.call10 rfl rfl rfl rfl rfl rfl (opens_calls w32 hBc hr0 hX0 (hok.crash _) (by omega) (hW.on (by simp [Dsk.crash, Dsk.settle, settleAll_length]))) fun v33 w33 hr33 => ⟨(by obtain ⟨rfl, hX0n, hE33, G2, hB2, hG2⟩ := hr33; exact hC.then hE33), ?_⟩)
              obtain ⟨rfl, hX0n, hE33, G2, hB2, hG2⟩ := hr33
              have hC := hC.then hE33
              rw [← hgo] at hB2
              have hb3 := hb3.ext hE33 nG3
              have hX := hX.then hE33
              have hG2 : ∀ y, G2 y → G y ∨ w.heap.size ≤ y := fun y hy => (hG2 y hy).imp id fun e => by omega
              refine wd_k I_ok 2 rfl (wd_sw (wb_nil ?_))
              exact f_cut (true) rfl ⟨⟨rfl, hX0n, G2, hB2, hG2⟩, hb3, hX⟩
          · have hpl := hp.lo
            refine st_call Tryz.call32 rfl rfl rfl rfl rfl rfl (keep_calls w25 o hks hck) fun v34 w34 hr34 => ⟨(by obtain ⟨q5, c5, rfl, hk5, hnk5, hE34⟩ := hr34; exact hC.thenNo hE34), ?_⟩
            obtain ⟨q5, c5, rfl, hk5, hnk5, hE34⟩ := hr34
            have hb3 := hb3.extNo hE34
            have hks := hks.extNo hE34
            have hX0 := hX0.thenNo hE34
            have hb := hb.extNo hE34
            have hp := hp.extNo hE34
            have hX := hX.thenNo hE34
            have hC := hC.thenNo hE34
            refine wx_plan [(3, false), (6, false), (7, true), (8, true), (9, true), (10, true), (11, true), (13, true)] 10 rfl (by kernel_rfl) (wd_l rfl (st_ld I_ok rfl (hb.cell rfl) ⟨hC, ?_⟩))
            refine wd_l rfl (st_call Tryz.call18 rfl rfl rfl rfl rfl rfl (dk_crash w34 hp.a1 hok (by omega) (n := (keepD o).length) (c := c5) (keep := keepD o) rfl hk5 (fun b off e g => by have := hnk5 b off e; have := hpl b (.inl g); omega)) fun v35 w35 hr35 => ⟨(by obtain ⟨rfl, hA1, hE35⟩ := hr35; exact hC.then (hE35.mono fun y _ e => hzG y (.inl e))), ?_⟩)
            obtain ⟨rfl, hA1, hE35⟩ := hr35
            have hC := hC.then (hE35.mono fun y _ e => hzG y (.inl e))
            obtain ⟨hp, hX0, hEa, hg1⟩ := hp.disk1 hr0 hX0 hA1 (fun y => .inl) hE35
            have hb := hb.ext hEa hzb
            have hb3 := hb3.ext hEa nz3
            have hks := keepSl hks hEa (by intro h0 b off e g; have := hkl h0 b off e; have := (hlo b (hzG b g)).1; omega)
            have hX := hX.then (hEa.mono fun y _ e => hzG y e)
            refine wd_k I_ok 5 rfl (wd_ldN I_ok rfl rfl (fun w' hw' => ((hd3.ext hw' nG3).seg)) rfl ?_)
            refine wd_tail rfl (wx_alt [12, 14] rfl (by kernel_rfl) ⟨⟨_, rfl, ?_⟩, ⟨_, rfl, ?_⟩, trivial⟩)
            · refine st_ld I_ok rfl (hb.cell rfl) ⟨hC, ?_⟩
              refine wx_plan [(14, false), (15, false), (16, true), (17, true), (18, true), (19, true), (20, false), (21, true), (22, true)] 0 rfl (by kernel_rfl) ?_
              have hpl := hp.lo
              refine wd_l rfl (st_call Tryz.call32 rfl rfl rfl rfl rfl rfl (keep_calls w35 o hks hck) fun v36 w36 hr36 => ⟨(by obtain ⟨q6, c6, rfl, hk6, hnk6, hE36⟩ := hr36; exact hC.thenNo hE36), ?_⟩)
              obtain ⟨q6, c6, rfl, hk6, hnk6, hE36⟩ := hr36
              have hb3 := hb3.extNo hE36
              have hks := hks.extNo hE36
              have hX0 := hX0.thenNo hE36
              have hb := hb.extNo hE36
              have hp := hp.extNo hE36
              have hX := hX.thenNo hE36
              have hC := hC.thenNo hE36
              refine wd_l rfl (st_call Tryz.call18 rfl rfl rfl rfl rfl rfl (dk_crash w36 hp.a2 hok (by omega) (n := (keepD o).length) (c := c6) (keep := keepD o) rfl hk6 (fun b off e g => by have := hnk6 b off e; have := hpl b (.inr (.inr (.inl g))); omega)) fun v37 w37 hr37 => ⟨(by obtain ⟨rfl, hA1, hE37⟩ := hr37; exact hC.then (hE37.mono fun y _ e => hzG y (.inr (.inr (.inl e))))), ?_⟩)
              obtain ⟨rfl, hA1, hE37⟩ := hr37
              have hC := hC.then (hE37.mono fun y _ e => hzG y (.inr (.inr (.inl e))))
              obtain ⟨hp, hX0, hEb, hg2⟩ := hp.disk2 hr0 hX0 hA1 (fun y => .inl) hE37
              have hb := hb.ext hEb hzb
              have hb3 := hb3.ext hEb nz3
              have hX := hX.then (hEb.mono fun y _ e => hzG y e)
              have hBc : BothI w0 w37 bx d1 d2 G { W with D := W.D.crash (keepD o) } := ⟨⟨x, xb, z9, hb, hp, hzG, hzb⟩, hG, fun y hy => ⟨(hlo y hy).1, Nat.lt_of_lt_of_le (hlo y hy).2 hX.size⟩⟩
              have hgo : goD W o = reopen { W with D := W.D.crash (keepD o) } := by rw [goD, if_neg (fun e => hn01 (.inl e)), if_neg (fun e => hn01 (.inr e)), if_neg hw2, if_neg hw3]
              refine wd_k I_ok 4 rfl ?_
              have hXs20 := hX.size
              refine wd_l rfl (st_call Tryz.call10 rfl rfl rfl rfl rfl rfl (opens_calls w37 hBc hr0 hX0 (hok.crash _) (by omega) (hW.on (by simp [Dsk.crash, Dsk.settle, settleAll_length]))) fun v38 w38 hr38 => ⟨(by obtain ⟨rfl, hX0n, hE38, G2, hB2, hG2⟩ := hr38; exact hC.then hE38), ?_⟩)
              obtain ⟨rfl, hX0n, hE38, G2, hB2, hG2⟩ := hr38
              have hC := hC.then hE38
              rw [← hgo] at hB2
              have hb3 := hb3.ext hE38 nG3
              have hX := hX.then hE38
              have hG2 : ∀ y, G2 y → G y ∨ w.heap.size ≤ y := fun y hy => (hG2 y hy).imp id fun e => by omega
              refine wd_k I_ok 2 rfl (wd_sw (wb_nil ?_))
              exact f_cut (true) rfl ⟨⟨rfl, hX0n, G2, hB2, hG2⟩, hb3, hX⟩
            · have hpl := hp.lo
              refine st_call Tryz.call32 rfl rfl rfl rfl rfl rfl (keep_calls w35 o hks hck) fun v39 w39 hr39 => ⟨(by obtain ⟨q6, c6, rfl, hk6, hnk6, hE39⟩ := hr39; exact hC.thenNo hE39), ?_⟩
              obtain ⟨q6, c6, rfl, hk6, hnk6, hE39⟩ := hr39
              have hb3 := hb3.extNo hE39
              have hks := hks.extNo hE39
              have hX0 := hX0.thenNo hE39
              have hb := hb.extNo hE39
              have hp := hp.extNo hE39
              have hX := hX.thenNo hE39
              have hC := hC.thenNo hE39
              refine wx_plan [(12, false), (15, false), (16, true), (17, true), (18, true), (19, true), (20, false), (21, true), (22, true)] 0 rfl (by kernel_rfl) (wd_l rfl (st_ld I_ok rfl (hb.cell rfl) ⟨hC, ?_⟩))
              refine wd_l rfl (st_call Tryz.call18 rfl rfl rfl rfl rfl rfl (dk_crash w39 hp.a2 hok (by omega) (n := (keepD o).length) (c := c6) (keep := keepD o) rfl hk6 (fun b off e g => by have := hnk6 b off e; have := hpl b (.inr (.inr (.inl g))); omega)) fun v40 w40 hr40 => ⟨(by obtain ⟨rfl, hA1, hE40⟩ := hr40; exact hC.then (hE40.mono fun y _ e => hzG y (.inr (.inr (.inl e))))), ?_⟩)
              obtain ⟨rfl, hA1, hE40⟩ := hr40
              have hC := hC.then (hE40.mono fun y _ e => hzG y (.inr (.inr (.inl e))))
              obtain ⟨hp, hX0, hEb, hg2⟩ := hp.disk2 hr0 hX0 hA1 (fun y => .inl) hE40
              have hb := hb.ext hEb hzb
              have hb3 := hb3.ext hEb nz3
              have hX := hX.then (hEb.mono fun y _ e => hzG y e)
              have hBc : BothI w0 w40 bx d1 d2 G { W with D := W.D.crash (keepD o) } := ⟨⟨x, xb, z9, hb, hp, hzG, hzb⟩, hG, fun y hy => ⟨(hlo y hy).1, Nat.lt_of_lt_of_le (hlo y hy).2 hX.size⟩⟩
              have hgo : goD W o = reopen { W with D := W.D.crash (keepD o) } := by rw [goD, if_neg (fun e => hn01 (.inl e)), if_neg (fun e => hn01 (.inr e)), if_neg hw2, if_neg hw3]
              refine wd_k I_ok 4 rfl ?_
              have hXs20 := hX.size
              refine wd_l rfl (st_call Tryz.call10 rfl rfl rfl rfl rfl rfl (opens_calls w40 hBc hr0 hX0 (hok.crash _) (by omega) (hW.on (by simp [Dsk.crash, Dsk.settle, settleAll_length]))) fun v41 w41 hr41 => ⟨(by obtain ⟨rfl, hX0n, hE41, G2, hB2, hG2⟩ := hr41; exact hC.then hE41), ?_⟩)
              obtain ⟨rfl, hX0n, hE41, G2, hB2, hG2⟩ := hr41
              have hC := hC.then hE41
              rw [← hgo] at hB2
              have hb3 := hb3.ext hE41 nG3
              have hX := hX.then hE41
              have hG2 : ∀ y, G2 y → G y ∨ w.heap.size ≤ y := fun y hy => (hG2 y hy).imp id fun e => by omega
              refine wd_k I_ok 2 rfl (wd_sw (wb_nil ?_))
              exact f_cut (true) rfl ⟨⟨rfl, hX0n, G2, hB2, hG2⟩, hb3, hX⟩
        rintro z w42 ⟨⟨rfl, hX0, G2, hB2, hG2⟩, hb3, hX⟩
        refine c_ret (f_ret1 rfl rfl ?_)
        exact ⟨rfl, hX0, hX, G2, hB2, hG2⟩
end Go.Proofs.YtlfdlodcjiaiiaaGreatDoor
namespace Go.Proofs.YtlfdlodcjiaiiaaGreatDoor
open Go.Vc
def Calm (D : Dsk) : Prop := D.dead = false ∧ D.fuse = -1 ∧ D.fault = -1
theorem begin_calm {D : Dsk} (h : Calm D) {i : Int} (hi : 0 ≤ i ∧ i < D.secs.length) (b : Bool) : (D.begin i b).2 = 0 ∧ Calm (D.begin i b).1 := by
  obtain ⟨h1, h2, h3⟩ := h
  unfold Dsk.begin
  rw [if_neg (by rw [h1]; decide), if_neg (by simpa using hi), if_neg (by rw [h3]; decide), if_neg (by rw [h2]; simp)]
  refine ⟨rfl, h1, ?_, ?_⟩
  · simp [fuseTo, h2]
  · simp [faultTo, h3]
theorem write_calm {D : Dsk} (h : Calm D) {i : Int} (hi : 0 ≤ i ∧ i < D.secs.length) (b : Bytes) : (D.write i b).2 = 0 ∧ Calm (D.write i b).1 := by
  obtain ⟨h1, h2⟩ := begin_calm h hi true
  unfold Dsk.write
  dsimp only
  rw [if_pos h1]
  exact ⟨h1, h2⟩
theorem sync_calm {D : Dsk} (h : Calm D) (hs : 0 < D.secs.length) : D.sync.2 = 0 ∧ Calm D.sync.1 := by
  obtain ⟨h1, h2⟩ := begin_calm h (i := 0) (by omega) true
  unfold Dsk.sync
  dsimp only
  rw [if_pos h1]
  exact ⟨h1, h2⟩
theorem layD_calm : ∀ (l : List Bytes) {D : Dsk} {at_ : Int}, Calm D → 0 ≤ at_ → at_ + l.length ≤ D.secs.length → 0 < D.secs.length → (layD D at_ l).2 = 0 ∧ Calm (layD D at_ l).1
  | [], D, at_, h, _, _, hs => sync_calm h hs
  | b :: r, D, at_, h, h0, h1, hs => by
    rw [List.length_cons] at h1
    obtain ⟨a1, a2⟩ := write_calm h (i := at_) (by omega) b
    unfold layD
    rw [if_neg (by rw [a1]; decide)]
    exact layD_calm r a2 (by omega) (by rw [D.write_secs]; omega) (by rw [D.write_secs]; exact hs)
theorem beginD_calm {D : Dsk} (h : Calm D) {t n : Nat} {x : Bytes} (hx : sectN x.length ≤ n) (hs : 2 + 2 * n ≤ D.secs.length) : (beginD D t n x).2 = 0 ∧ Calm (beginD D t n x).1 := by
  have ha : areaB t n ≤ 2 + n := by unfold areaB; split <;> omega
  obtain ⟨a1, a2⟩ := layD_calm (pieceB t 0 x) h (Int.natCast_nonneg (areaB t n)) (by rw [pieceB_length]; omega) (by omega)
  unfold beginD
  dsimp only
  rw [if_neg (by rw [a1]; decide)]
  exact layD_calm _ a2 (Int.natCast_nonneg _) (by rw [layD_secs]; simp; omega) (by rw [layD_secs]; omega)
theorem formatW_calm {D : Dsk} (h : Calm D) {a : Nat} (ha : 4 ≤ a ∧ a ≤ 1000) (hs : 2 + 2 * a ≤ D.secs.length) : (formatW D (a : Int)).2 = 0 ∧ Calm (formatW D (a : Int)).1 := by
  rw [formatW_yes ⟨ha.1, ha.2, hs⟩]
  obtain ⟨a1, a2⟩ := layD_calm (List.replicate (2 + 2 * a) zeros) h (at_ := 0) (by omega) (by rw [List.length_replicate]; omega) (by omega)
  rw [if_neg (by rw [a1]; decide)]
  exact beginD_calm a2 (by show 1 ≤ a; omega) (by rw [layD_secs]; exact hs)
theorem append_calm {W : Wl} (h : Calm W.D) (hW : Wl.Ok W) (b : Bytes) : (W.append b).2 = W.refuses b ((W.size : Int) - W.used) ∧ Calm (W.append b).1.D ∧ (W.append b).1.size = W.size ∧ (W.append b).1.turn = W.turn ∧ (W.refuses b ((W.size : Int) - W.used) = 0 → (W.append b).1 = { W with D := (W.append b).1.D, broken := false, pieces := W.pieces ++ [b], used := W.used + sectN b.length }) ∧ (W.refuses b ((W.size : Int) - W.used) ≠ 0 → (W.append b).1 = W) := by
  by_cases hr : W.refuses b ((W.size : Int) - W.used) = 0
  · obtain ⟨y, hy⟩ : ∃ y, y = layD W.D ((areaB W.turn W.size + W.used : Nat) : Int) (pieceB W.turn W.pieces.length b) := ⟨_, rfl⟩
    have hrm : W.used + sectN b.length ≤ W.size := by
      have h0 := hr
      unfold Wl.refuses at h0
      split at h0
      · cases h0
      · split at h0
        · cases h0
        · split at h0
          · cases h0
          · omega
    have ha : areaB W.turn W.size ≤ 2 + W.size := by unfold areaB; split <;> omega
    have hss := hW.secs
    obtain ⟨a1, a2⟩ := layD_calm (pieceB W.turn W.pieces.length b) h (Int.natCast_nonneg (areaB W.turn W.size + W.used)) (by rw [pieceB_length]; omega) (by omega)
    rw [← hy] at a1 a2
    rw [append_ok hr hy a1, hr]
    exact ⟨rfl, a2, rfl, rfl, fun _ => rfl, fun e => absurd rfl e⟩
  · rw [append_no hr]
    exact ⟨rfl, h, rfl, rfl, fun e => absurd e hr, fun _ => rfl⟩
theorem ckp_calm {W : Wl} (h : Calm W.D) (hW : Wl.Ok W) (b : Bytes) (r : Int) (hr0 : r = W.refuses b (if W.turn = 4294967295 then 0 else (W.size : Int))) : (W.checkpoint b).2 = r ∧ Calm (W.checkpoint b).1.D ∧ (W.checkpoint b).1.size = W.size ∧ (r = 0 → (W.checkpoint b).1 = { W with D := (W.checkpoint b).1.D, broken := false, turn := W.turn + 1, pieces := [b], used := sectN b.length }) ∧ (r ≠ 0 → (W.checkpoint b).1 = W) := by
  subst hr0
  by_cases hr : W.refuses b (if W.turn = 4294967295 then 0 else (W.size : Int)) = 0
  · obtain ⟨y, hy⟩ : ∃ y, y = beginD W.D (W.turn + 1) W.size b := ⟨_, rfl⟩
    have hrm : sectN b.length ≤ W.size := by
      have h0 := hr
      unfold Wl.refuses at h0
      split at h0
      · cases h0
      · split at h0
        · cases h0
        · by_cases ht : W.turn = 4294967295
          · rw [if_pos ht] at h0
            by_cases h6 : (0 : Int) < sectN b.length
            · rw [if_pos h6] at h0; cases h0
            · omega
          · rw [if_neg ht] at h0
            by_cases h6 : (W.size : Int) < sectN b.length
            · rw [if_pos h6] at h0; cases h0
            · omega
    obtain ⟨a1, a2⟩ := beginD_calm h (t := W.turn + 1) hrm hW.secs
    rw [← hy] at a1 a2
    rw [ckp_ok hr hy a1, hr]
    exact ⟨rfl, a2, rfl, fun _ => rfl, fun e => absurd rfl e⟩
  · rw [ckp_no hr]
    exact ⟨rfl, h, rfl, fun e => absurd e hr, fun _ => rfl⟩

theorem fresh_calm0 (n : Nat) : Calm (Dsk.fresh n) := ⟨rfl, rfl, rfl⟩
end Go.Proofs.YtlfdlodcjiaiiaaGreatDoor
namespace Go.Proofs.YtlfdlodcjiaiiaaGreatDoor
open Go.Vc
theorem pair_mk {w u2 u3 : World} {d1 d2 x : Nat} {F2 F1' F2' H1 : Nat → Prop} {xbo : Option Addr} {W1 W2 : Wl} (hlog : LogAt u2 x d1 H1 W1) (hH1 : ∀ y, H1 y → ¬ F1' y ∧ ¬ F2 y ∧ w.heap.size ≤ y) (h2 : BookOf u2 u3 d2 F2' xbo W2)
    (hE : Ext F2 u2 u3) (hF2 : ∀ y, F2' y → F2 y ∨ u2.heap.size ≤ y) (hl1 : ∀ y, F1' y → y < u2.heap.size) (hdk : Dk2 w u3 d1 d2 F1' F2' W1.D W2.D) (hwu : w.heap.size ≤ u2.heap.size) :
    ∃ xb H2, xbo = some ⟨xb, 0, none⟩ ∧ PairAt w u3 d1 d2 x xb (F1', H1, F2', H2) W1 W2 ∧ ∀ y, H2 y → u2.heap.size ≤ y := by
  obtain ⟨xb, H2, e2, hbk, hH2⟩ := h2
  have hll := hlog.lt
  have hbl := hbk.lt
  have hs := hE.size
  refine ⟨xb, H2, e2, ⟨hdk.a1, hlog.ext hE fun y hy => (hH1 y hy).2.1, hdk.a2, hbk, fun y hy => ?_, fun y hy => ⟨fun e => (hH1 y e).1 hy, hdk.ne y hy, fun e => ?_⟩, fun y hy => ⟨fun e => ?_, fun e => ?_⟩, fun y hy e => (hH2 y e).2 hy, hdk.rt⟩, fun y hy => (hH2 y hy).1⟩
  · rcases hy with hy | hy | hy | hy
    · exact hdk.lo y (.inl hy)
    · exact ⟨(hH1 y hy).2.2, by have := hll y hy; omega⟩
    · exact hdk.lo y (.inr hy)
    · exact ⟨by have := (hH2 y hy).1; omega, hbl y hy⟩
  · have := hl1 y hy; have := (hH2 y e).1; omega
  · exact (hF2 y e).elim (hH1 y hy).2.1 fun g => by have := hll y hy; omega
  · have := hll y hy; have := (hH2 y e).1; omega
theorem laid_calls (w : World) (hr : Rt w) {S a : Nat} (hS : S ≤ 2048) (ha : 4 ≤ a ∧ a ≤ 1000) (hSa : 2 + 2 * a ≤ S) :
    CallsV Tryz.prog 6 [.int .i64 (S : Int), .int .i64 (a : Int)] w fun v w' => ∃ bx d1 d2 G, v = .tuple #[.pointer (some ⟨bx, 0, none⟩), .bool true] ∧ BothI w w' bx d1 d2 G (Wl.fresh (formatW (Dsk.fresh S) (a : Int)).1 a) ∧ Ext No w w' := by
  refine calls_enter Tryz.func6 rfl rfl rfl rfl ?_
  have hX := Ext.refl No w
  have hr0 := hr.lt
  have hrt := hr
  have hok0 : (Dsk.fresh S).Ok 0 := Dsk.Ok.fresh (by omega)
  obtain ⟨Y, hY⟩ : ∃ Y, Y = formatW (Dsk.fresh S) (a : Int) := ⟨_, rfl⟩
  have hf0 : Y.2 = 0 := by rw [hY]; exact (formatW_calm (fresh_calm0 S) ha (by simp [Dsk.fresh]; exact hSa)).1
  have hYo := (formatW_ok hok0 (a : Int)).1
  have hWok := (format_fine (D := Dsk.fresh S) (a := a) (by rw [← hY]; exact hf0) hok0).1
  rw [← hY] at hYo hWok ⊢
  refine c_seq (c_region (wl_p I_ok rfl (wl_nil (f_then (c_seq (c_region (wl (st_bd I_ok rfl trivial (l' := [.pointer none, .pointer none, .pointer none, .pointer none]) rfl (wl (st_al I_ok rfl fun b10 w1 hn10 hb10 hE1 => ?_))))))))))
  have fr10 := Nat.le_trans hX.size hn10
  have hrt := Rt.ext hrt hE1 id
  have hX := hX.thenNo hE1
  have hb10 : Blk w1 b10 46 ([.pointer none, .pointer none, .pointer none, .pointer none]) := hb10
  refine wl_p I_ok rfl (wl_nil (f_then (c_seq (c_region (wl_p I_ok rfl (wl_nil (f_then (c_seq (c_region (wl_p I_ok rfl ?_))))))))))
  have hX1 := hX.size
  have l10 := hb10.lt
  refine wl (st_call Tryz.call15 rfl rfl rfl rfl rfl rfl (new_calls w1 (n := S) (by omega)) fun v2 w2 hr2 => ?_)
  obtain ⟨d1, F1, rfl, hA1, hF1, hE2⟩ := hr2
  have hb10 := hb10.extNo hE2
  have hrt := Rt.ext hrt hE2 id
  have hX := hX.thenNo hE2
  have hA1l := hA1.lt
  refine wl_p I_ok rfl (wl (st_set I_ok hb10 rfl rfl (Nat.lt_of_lt_of_eq (by decide : 0 + 0 < 4) rfl) fun w3 hb10 hE3 hs3 => ?_))
  have hrt := Rt.ext hrt hE3 fun e => by have e : 0 = b10 := e; omega
  have hA1 := hA1.ext hE3 fun y hy e => by have e : y = b10 := e; have := hF1 y hy; omega
  have hX := hX.thenNew hE3 fr10
  have hb10 : Blk w3 b10 46 ([.pointer (some ⟨d1, 0, none⟩), .pointer none, .pointer none, .pointer none]) := hb10
  refine wl_p I_ok rfl (wl_nil (f_then (c_seq (c_region (wl_p I_ok rfl ?_)))))
  have hX2 := hX.size
  have hA1l := hA1.lt
  have l10 := hb10.lt
  refine wl (st_call Tryz.call15 rfl rfl rfl rfl rfl rfl (new_calls w3 (n := S) (by omega)) fun v4 w4 hr4 => ?_)
  obtain ⟨d2, F2, rfl, hA2, hF2, hE4⟩ := hr4
  have hb10 := hb10.extNo hE4
  have hrt := Rt.ext hrt hE4 id
  have hA1 := hA1.extNo hE4
  have hX := hX.thenNo hE4
  have hA2l := hA2.lt
  refine wl_p I_ok rfl (wl (st_set I_ok hb10 rfl rfl (Nat.lt_of_lt_of_eq (by decide : 0 + 1 < 4) rfl) fun w5 hb10 hE5 hs5 => ?_))
  have hrt := Rt.ext hrt hE5 fun e => by have e : 0 = b10 := e; omega
  have hA1 := hA1.ext hE5 fun y hy e => by have e : y = b10 := e; have := hF1 y hy; omega
  have hA2 := hA2.ext hE5 fun y hy e => by have e : y = b10 := e; have := hF2 y hy; omega
  have hX := hX.thenNew hE5 fr10
  have hb10 : Blk w5 b10 46 ([.pointer (some ⟨d1, 0, none⟩), .pointer (some ⟨d2, 0, none⟩), .pointer none, .pointer none]) := hb10
  have hA2l := hA2.lt
  have hdk : Dk2 w w5 d1 d2 F1 F2 (Dsk.fresh S) (Dsk.fresh S) := ⟨hA1, hA2, fun y hy => hy.elim (fun e => ⟨by have := hF1 y e; omega, hA1.lt y e⟩) fun e => ⟨by have := hF2 y e; omega, hA2l y e⟩, fun y hy e => by have := hA1l y hy; have := hF2 y e; omega, hrt⟩
  refine wl_p I_ok rfl (wl_nil (f_then (c_seq (c_cutK (α := Bool) [1, 6] rfl (fun z => [(32, .bool z)]) (fun z u => u = w5 ∧ z = false) ?_ ?_))))
  · refine c_region ?_
    refine wl_p I_ok rfl (wl_caseD 29 rfl (fun hg => ?_) (fun hg => ?_))
    · exact absurd rfl hg
    · refine wl_pk I_ok 3 rfl ?_
      refine wl_nil ?_
      exact f_cut (_) rfl ⟨rfl, by simp⟩
  rintro z w6 ⟨hu, rfl⟩
  have hu := hu.symm
  subst hu
  have n10a : ∀ y, y = b10 → ¬ F1 y := fun y e g => by have := hF1 y g; omega
  have n10b : ∀ y, y = b10 → ¬ F2 y := fun y e g => by have := hF2 y g; omega
  refine c_condF rfl (c_skip (f_then (c_seq (c_region (wl_p I_ok rfl (wl (st_ld I_ok rfl (hb10.cell rfl) (wl_p I_ok rfl ?_))))))))
  have hX7 := hX.size
  have hlt7 := hdk.a2.lt
  have l10 := hb10.lt
  refine wl (st_call Tryz.call16 rfl rfl rfl rfl rfl rfl (format_calls w5 hdk.a1 hok0 (by decide) (a : Int) (by omega) hdk.rt (fun e => by have := (hdk.lo 0 (.inl e)).1; omega)) fun v7 w7 hr7 => ?_)
  obtain ⟨xo, G1, rfl, hA7, hE7, hG1, _, hlo⟩ := hr7
  obtain ⟨hdk, hX⟩ := hdk.first hr0 hX hA7 hG1 hE7
  rw [← hY] at hdk hlo ⊢
  have hb10 := hb10.ext hE7 (n10a b10 rfl)
  obtain ⟨x, H1, rfl, hlog, hH1⟩ := hlo hf0
  rw [Int.toNat_natCast] at hlog
  have n10a : ∀ y, y = b10 → ¬ G1 y := fun y e g => (hG1 y g).elim (n10a y e) fun g => by omega
  have hH10 : ¬ H1 b10 := fun g => by have := (hH1 b10 g).1; omega
  rw [hf0]
  refine wl_p I_ok rfl (wl (st_set I_ok hb10 rfl rfl (Nat.lt_of_lt_of_eq (by decide : 0 + 2 < 4) rfl) fun w8 hb10 hE8 hs8 => ?_))
  have hdk := hdk.ext hE8 (fun y hy e => by have e : y = b10 := e; exact hy.elim (n10a y e) (n10b y e)) (fun e => by have e : 0 = b10 := e; omega)
  have hlog := hlog.ext hE8 fun y hy e => by have e : y = b10 := e; subst e; exact hH10 hy
  have hX := hX.thenNew hE8 fr10
  have hb10 : Blk w8 b10 46 ([.pointer (some ⟨d1, 0, none⟩), .pointer (some ⟨d2, 0, none⟩), .pointer (some ⟨x, 0, none⟩), .pointer none]) := hb10
  refine wl_p I_ok rfl (wl_nil (f_then (c_seq (c_region (wl_p I_ok rfl (wl (st_ld I_ok rfl (hb10.cell rfl) (wl_p I_ok rfl ?_))))))))
  have hX8 := hX.size
  have l10 := hb10.lt
  have hl1 := hdk.a1.lt
  refine wl (st_call Tryz.call25 rfl rfl rfl rfl rfl rfl (bookFormat_calls w8 hdk.a2 hok0 (by decide) (a : Int) (by omega)) fun v9 w9 hr9 => ?_)
  obtain ⟨xbo, G2, rfl, hA8, hE9, hG2, hlob⟩ := hr9
  rw [← hY] at hA8 hlob ⊢
  obtain ⟨hdk, hX⟩ := hdk.second hr0 hX hA8 hG2 hE9
  have hb10 := hb10.ext hE9 (n10b b10 rfl)
  have hbo := hlob hf0
  rw [Int.toNat_natCast] at hbo
  obtain ⟨xb, H2, rfl, hp, hH2⟩ := pair_mk hlog (fun y hy => ⟨(hH1 y hy).2, fun e => by have := (hH1 y hy).1; have := hlt7 y e; omega, by have := (hH1 y hy).1; omega⟩) hbo hE9 hG2 hl1 hdk (by omega)
  have hz10 : ¬ PZ.any (G1, H1, G2, H2) b10 := fun e => by
    rcases e with e | e | e | e
    · exact n10a b10 rfl e
    · exact hH10 e
    · exact (hG2 b10 e).elim (n10b b10 rfl) fun g => by omega
    · have := hH2 b10 e; omega
  rw [hf0]
  refine wl_p I_ok rfl (wl (st_set I_ok hb10 rfl rfl (Nat.lt_of_lt_of_eq (by decide : 0 + 3 < 4) rfl) fun w10 hb10 hE10 hs10 => ?_))
  have hp := hp.ext1 hE10 hz10 (by omega)
  have hX := hX.thenNew hE10 fr10
  have hb10 : Blk w10 b10 46 ([.pointer (some ⟨d1, 0, none⟩), .pointer (some ⟨d2, 0, none⟩), .pointer (some ⟨x, 0, none⟩), .pointer (some ⟨xb, 0, none⟩)]) := hb10
  have hB : BothI w w10 b10 d1 d2 (fun y => PZ.any (G1, H1, G2, H2) y ∨ y = b10) (Wl.fresh Y.1 a) := ⟨⟨x, xb, (G1, H1, G2, H2), hb10, hp, fun y => .inl, hz10⟩, .inr rfl, fun y hy => hy.elim (hp.lo y) fun e => by have e : y = b10 := e; rw [e]; exact ⟨fr10, hb10.lt⟩⟩
  refine wl_p I_ok rfl (wl_nil (f_then ?_))
  refine c_cutK (α := Bool) [] rfl (fun z => [(4, .pointer (some ⟨b10, 0, none⟩)), (5, .bool z)]) (fun z u => (z = true ∧ BothI w u b10 d1 d2 (fun y => PZ.any (G1, H1, G2, H2) y ∨ y = b10) (Wl.fresh Y.1 a)) ∧ Blk u b10 46 ([.pointer (some ⟨d1, 0, none⟩), .pointer (some ⟨d2, 0, none⟩), .pointer (some ⟨x, 0, none⟩), .pointer (some ⟨xb, 0, none⟩)]) ∧ Ext No w u) ?_ ?_
  · refine c_region ?_
    refine wl_p I_ok rfl (wl_caseD 60 rfl (fun hg => ?_) (fun hg => ?_))
    · refine wl_pk I_ok 4 rfl ?_
      refine wl_caseD 64 rfl (fun hg => ?_) (fun hg => ?_)
      · refine wl_pk I_ok 1 rfl ?_
        refine wl (st_call Tryz.call9 rfl rfl rfl rfl rfl rfl (agree_calls w10 hB hYo (by decide) hWok) fun v11 w11 hr11 => ?_)
        obtain ⟨rfl, hE11⟩ := hr11
        have hb10 := hb10.extNo hE11
        have hB := hB.extNo hE11
        have hX := hX.thenNo hE11
        refine wl_p I_ok rfl (wl_nil ?_)
        exact f_cut (true) rfl ⟨⟨rfl, hB⟩, hb10, hX⟩
      · exact absurd rfl hg
    · exact absurd rfl hg
  rintro z w12 ⟨⟨rfl, hB⟩, hb10, hX⟩
  refine c_ret (f_ret [_, _] ⟨rfl, rfl, trivial⟩ ?_)
  exact ⟨b10, d1, d2, _, rfl, hB, hX⟩

theorem some_calls (w : World) {p : Option Addr} {n c : Nat} (hn : n ≤ c) :
    CallsV Tryz.prog 7 [.slice p n c] w fun v w' => v = .slice p (min n 36) c ∧ w' = w := by
  refine calls_enter Tryz.func7 rfl rfl rfl rfl ?_
  have hX := Ext.refl No w
  refine c_seq (c_region (wl_p I_ok rfl (wl_nil (f_then (c_seq (c_region (wl_p I_ok rfl ?_)))))))
  refine wl (st_sl I_ok rfl 0 (min n 36) c 4 rfl (.inr ⟨rfl, rfl⟩) (.inl (congrArg some (minI _ _))) (.inr ⟨rfl, rfl⟩) (Nat.zero_le _) (by omega) (Nat.le_refl _) ?_)
  rw [slBase_zero, Nat.sub_zero, Nat.sub_zero]
  refine wl_p I_ok rfl (wl_nil (f_then (c_ret (f_ret1 rfl rfl ?_))))
  exact ⟨rfl, rfl⟩
theorem deed_len (o : DeedD) : o.cells.length = 4 := rfl
theorem deed_one (o : DeedD) : ∀ v ∈ o.cells, v.oneCell' = true := fun v hv => by
  simp only [DeedD.cells, List.mem_cons, List.not_mem_nil, or_false] at hv
  rcases hv with rfl | rfl | rfl | rfl <;> rfl
theorem walgoes_calls (w : World) (hr : Rt w) (area : Int) {p : Option Addr} {c : Nat} {l : List DeedD} (hs : Sl w p l.length 4 (l.flatMap DeedD.cells)) (hc : l.length ≤ c) (hin : ∀ o ∈ l, DeedAt w o) :
    CallsV Tryz.prog 3 [.int .i64 area, .slice p l.length c] w fun v w' => v = .bool true ∧ Ext No w w' := by
  refine calls_enter Tryz.func3 rfl rfl rfl rfl ?_
  have hX := Ext.refl No w
  have hr0 := hr.lt
  have hrt := hr
  have hsl := hs
  have h24 := Nat.mod_lt (u64N area) (by decide : 0 < 24)
  have h3 := Nat.mod_lt (u64N area) (by decide : 0 < 3)
  have hn36 : (l.take 36).length = min l.length 36 := by rw [List.length_take, Nat.min_comm]
  refine c_seq (c_region (wl_p I_ok rfl (wl_nil (f_then (c_seq (c_seq (c_region (wl (st_call Tryz.call5 rfl rfl rfl rfl rfl rfl (wakes_calls w hrt) fun v1 w1 hr1 => ?_)))))))))
  obtain ⟨rfl, hE1⟩ := hr1
  have hrt := Rt.ext hrt hE1 id
  have hX := hX.thenNo hE1
  refine wl_p I_ok rfl (wl_nil (f_then (c_condF rfl (c_skip (f_then (c_seq (c_region (wl_p I_ok rfl ?_))))))))
  rw [show IntKind.i64.wrap ((IntKind.u64.wrap area).tmod 24) = ((u64N area % 24 : Nat) : Int) from u64_mod area 24 (by decide) (by decide)]
  refine wl_p I_ok rfl ?_
  rw [IntWalk.i64_in _ (by omega)]
  obtain ⟨n, hn⟩ : ∃ n, n = 4 + u64N area % 24 := ⟨_, rfl⟩
  have hn4 : 4 ≤ n ∧ n ≤ 1000 := by omega
  rw [show (4 : Int) + ((u64N area % 24 : Nat) : Int) = (n : Int) from by omega]
  refine wl_p I_ok rfl (wl_nil (f_then (c_seq (c_region (wl_p I_ok rfl ?_)))))
  rw [show IntKind.i64.wrap ((IntKind.u64.wrap area).tmod 3) = ((u64N area % 3 : Nat) : Int) from u64_mod area 3 (by decide) (by decide), show IntKind.i64.wrap (2 + IntKind.i64.wrap (2 * (n : Int))) = ((2 + 2 * n : Nat) : Int) from by rw [IntWalk.i64_in (2 * (n : Int)) (by omega), IntWalk.i64_in _ (by omega)]; omega]
  refine wl_p I_ok rfl ?_
  rw [IntWalk.i64_in _ (by omega)]
  obtain ⟨S, hS⟩ : ∃ S, S = 2 + 2 * n + u64N area % 3 := ⟨_, rfl⟩
  rw [show ((2 + 2 * n : Nat) : Int) + ((u64N area % 3 : Nat) : Int) = (S : Int) from by omega]
  refine wl_p I_ok rfl ?_
  have hX4 := hX
  refine wl (st_call Tryz.call6 rfl rfl rfl rfl rfl rfl (laid_calls w1 hrt (S := S) (a := n) (by omega) hn4 (by omega)) fun v2 w2 hr2 => ?_)
  obtain ⟨bx, d1, d2, G0, rfl, hB, hE2⟩ := hr2
  have hrt := Rt.ext hrt hE2 id
  have hX := hX.thenNo hE2
  have hB : BothI w w2 bx d1 d2 G0 _ := ⟨by
    obtain ⟨x, xb, z, h1, h2, h3, h4⟩ := hB.ex
    exact ⟨x, xb, z, h1, ⟨h2.a1, h2.l1, h2.a2, h2.b2, fun y hy => ⟨Nat.le_trans hX4.size (h2.lo y hy).1, (h2.lo y hy).2⟩, h2.n1, h2.n2, h2.n3, h2.rt⟩, h3, h4⟩, hB.own, fun y hy => ⟨Nat.le_trans hX4.size (hB.lo y hy).1, (hB.lo y hy).2⟩⟩
  obtain ⟨W0, hW0⟩ : ∃ W0, W0 = Wl.fresh (formatW (Dsk.fresh S) (n : Int)).1 n := ⟨_, rfl⟩
  have hfz := formatW_calm (fresh_calm0 S) hn4 (by simp [Dsk.fresh]; omega)
  have hfo := format_fine (D := Dsk.fresh S) (a := n) hfz.1 (Dsk.Ok.fresh (n := S) (by omega))
  have hfk : W0.D.Ok (0 + 6000) := by rw [hW0]; exact (formatW_ok (Dsk.Ok.fresh (n := S) (by omega)) (n : Int)).1
  have hfo := hfo.1
  rw [← hW0] at hB hfo
  refine wl_p I_ok rfl (wl_nil (f_then (c_seq (c_seq (c_region (wl_p I_ok rfl (wl (st_call Tryz.call7 rfl rfl rfl rfl rfl rfl (some_calls w2 hc) fun v3 w3 hr3 => ?_))))))))
  obtain ⟨rfl, rfl⟩ := hr3
  refine wl_p I_ok rfl (wl_nil (f_then (c_block ?_)))
  refine c_loopK (α := Nat × Wl × (Nat → Prop)) [6, 31, 32] rfl (fun z => [(7, .bool true), (33, .int .i64 (z.1 : Int))]) (fun z u => (z.1 ≤ min l.length 36 ∧ BothI w u bx d1 d2 z.2.2 z.2.1 ∧ z.2.1.D.Ok (6000 + 5000 * z.1) ∧ Wl.Ok z.2.1) ∧ Ext No w u) (fun z u => min l.length 36 - z.1) (0, W0, G0) rfl ⟨⟨Nat.zero_le _, hB, hfk, hfo⟩, hX⟩ ?_
  rintro ⟨i, W, G⟩ w4 ⟨⟨hi, hB, hok, hW⟩, hX⟩
  try dsimp only
  dsimp only at hi hB hok hW
  refine c_seq (c_region (wl_p I_ok rfl (wl_nil (f_then (c_seq (c_if rfl (fun hc => ?_) (fun hc => ?_)))))))
  · have hil : i < min l.length 36 := by omega
    have hi2 : i < l.length := by omega
    have hsw : Sl w4 p l.length 4 (l.flatMap DeedD.cells) := hsl.extNo hX
    obtain ⟨pb, po, rfl, hsr⟩ := hsw.rowAll (fun r _ => deed_len r) (by omega)
    obtain ⟨o, ho⟩ : ∃ o, o = l[i] := ⟨_, rfl⟩
    have hoin := hin o (by rw [ho]; exact List.getElem_mem hi2)
    have hBl := hB.lo
    refine c_skip (f_then (c_cutK (α := Wl × (Nat → Prop)) [6, 31, 32, 33] rfl (fun z => [(7, .bool true)]) (fun z u => (BothI w u bx d1 d2 z.2 z.1 ∧ z.1.D.Ok (6000 + 5000 * (i + 1)) ∧ Wl.Ok z.1) ∧ Ext No w u) ?_ ?_))
    · refine c_block ?_
      refine c_seq (c_region (wl (st_ix I_ok rfl 4 rfl i rfl hil (po + i * 4) rfl (wl (st_ldN I_ok rfl (hsr i hi2) (deed_len _) ?_)))))
      rw [← ho]
      refine wl (st_al I_ok rfl fun b9 w5 hn9 hb9 hE5 => ?_)
      have fr9 := Nat.le_trans hX.size hn9
      have hB := hB.extNo hE5
      have hX := hX.thenNo hE5
      have hnb : ∀ y, G y → y ≠ b9 := fun y hy e => by have := (hBl y hy).2; omega
      refine wl (st_stW (l' := o.cells) I_ok hb9 rfl rfl (deed_len _) (deed_len _) (deed_one _) fun w6 hb9 hE6 hs6 => ?_)
      have hB := hB.ext hE6 (fun y hy e => by have e : y = b9 := e; exact hnb y hy e) (fun e => by have e : 0 = b9 := e; omega)
      have hX := hX.thenNew hE6 fr9
      have hb9 : Blk w6 b9 31 (o.cells) := hb9
      refine wl_nil (f_then (c_region (wl_p I_ok rfl (wl_case 38 rfl (fun hg => ?_) (fun hg => ?_)))))
      · refine wl_pk I_ok 1 rfl ?_
        refine wl (st_ldB I_ok hb9 rfl rfl (wl (st_call Tryz.call8 rfl rfl rfl rfl rfl rfl (goes_calls w6 o hB hr0 hX hok (by omega) hW (hoin.1.extNo hX) hoin.2.1 hoin.2.2) fun v7 w7 hr7 => ?_)))
        obtain ⟨rfl, hXn, hE7, G2, hB2, hG2⟩ := hr7
        have hX := hXn
        have hb9 := hb9.ext hE7 fun e => hnb _ e rfl
        have hgf := goD_fine hok hW o
        refine wl_p I_ok rfl (wl_case 43 rfl (fun hg => ?_) (fun hg => ?_))
        · refine wl_pk I_ok 1 rfl ?_
          refine wl (st_call Tryz.call9 rfl rfl rfl rfl rfl rfl (agree_calls w7 hB2 hgf.1 (by omega) hgf.2) fun v8 w8 hr8 => ?_)
          obtain ⟨rfl, hE8⟩ := hr8
          have hb9 := hb9.extNo hE8
          have hB2 := hB2.extNo hE8
          have hX := hX.thenNo hE8
          refine wl_p I_ok rfl (wl_nil ?_)
          exact f_blockN (f_cut ((goD W o, G2)) rfl ⟨⟨hB2, by show (goD W o).D.Ok _; rw [show 6000 + 5000 * (i + 1) = 6000 + 5000 * i + 5000 from by omega]; exact hgf.1, hgf.2⟩, hX⟩)
        · cases hg
      · cases hg
    rintro ⟨W2, G2⟩ w9 ⟨⟨hB2, hok2, hW2⟩, hX⟩
    try dsimp only
    dsimp only at hB2 hok2 hW2
    refine c_region (wl_p I_ok rfl ?_)
    rw [IntWalk.i64_in _ (by omega)]
    refine wl_nil ?_
    exact f_round (i + 1, W2, G2) rfl ⟨⟨by dsimp only; omega, hB2, hok2, hW2⟩, hX⟩ (by first | omega | (dsimp only; omega))
  · refine c_exit ?_
    refine f_thenE (f_thenE (f_blockE (f_then (c_cutK (α := Bool) [] rfl (fun z => [(4, .bool z)]) (fun z u => (z = true) ∧ Ext No w u) ?_ ?_))))
    · refine c_region ?_
      refine wl_p I_ok rfl (wl_case 49 rfl (fun hg => ?_) (fun hg => ?_))
      · refine wl_pk I_ok 1 rfl ?_
        refine wl (st_call Tryz.call10 rfl rfl rfl rfl rfl rfl (opens_calls w4 hB hr0 hX hok (by omega) hW) fun v10 w10 hr10 => ?_)
        obtain ⟨rfl, hXn, hE10, _, _, _⟩ := hr10
        have hX := hXn
        refine wl_p I_ok rfl (wl_nil ?_)
        exact f_cut (true) rfl ⟨rfl, hX⟩
      · cases hg
    rintro z w11 ⟨rfl, hX⟩
    refine c_ret (f_ret1 rfl rfl ?_)
    exact ⟨rfl, hX⟩
end Go.Proofs.YtlfdlodcjiaiiaaGreatDoor
namespace Go.Proofs.YtlfdlodcjiaiiaaGreatDoor
open Go.Vc Go.ChangeShapes Go.WideShapes Go.ChangeAt Go.RowKit Go

set_option maxRecDepth 100000 in
theorem goes_lifted (os : Os) (started : os.Started) (H : Type) (enc : TypeId × Value → H) :
    ReturnsInHanded {} Tryz.checked os 3 .any (fun w args => (Rows.walGoesSpec.pre enc Tryz.prog Tryz.f3 [] false w args ∧ laidMetH Tryz.prog laidR w) ∧ sizedMet enc Tryz.prog Tryz.f3 (OpenSpec.ofChange Rows.walGoesSpec) false w args)
      (Rows.walGoesSpec.post enc Tryz.prog Tryz.f3 false true false false) := by
  refine returnsInHanded_of_change_and (C := Tryz.checked) (X := fun w _ => laidMetH Tryz.prog laidR w) (fun _ _ _ hh h => h.of_heap hh) own started (by kernel_rfl) Tryz.func3
    (ChangeSpec.witness_shaped (enc := enc) (C := Tryz.checked) (os := os) (X := fun w _ => laidMetH Tryz.prog laidR w) false (World.doorLaid Tryz.prog 400 os) #[.int .i64 0, .slice none 0 0] 40 rfl (World.shaped_of_RefB (by kernel_rfl) (by kernel_rfl)) (by kernel_rfl) (by kernel_rfl) (by kernel_rfl) (door_met os _)) ?_
  intro W base args ds gs before hval0 hW _ _ hL _
  have hval : ∀ (j : Nat) t v, Tryz.f3.params[j]? = some t → args[j]? = some v → Value.okWide Tryz.prog W .any base t v := hval0
  have hW' := hW
  obtain ⟨p, q, hA0, hV, rfl, hfz, hnd⟩ := hW
  have hA : DataW.TrodAll enc Tryz.prog W 0 (fun _ => true) true Tryz.f3.params.toList args.toList ds p := hA0
  rw [Tryz.params3] at hA hval
  obtain ⟨v0, vs0, d0, ds0, p0, q0, hargs, rfl, rfl, h0, r0⟩ := trodAll_cons hA
  obtain ⟨v1, vs1, d1, ds1, p1, q1, rfl, rfl, rfl, h1, r1⟩ := trodAll_cons r0
  obtain ⟨rfl, rfl, rfl⟩ := trodAll_nil r1
  obtain rfl : args = #[v0, v1] := by cases args; simp_all
  obtain ⟨rfl, rfl⟩ := trodVars_none hV
  have w0 := hval 0 3 v0 rfl rfl
  have w1 := hval 1 22 v1 rfl rfl
  obtain ⟨k0, h0⟩ := h0
  obtain ⟨k1, h1⟩ := h1
  obtain ⟨n1, rfl⟩ := okWide_int Tryz.underlying3 w0
  obtain ⟨a0, len, cap, rfl⟩ := okWide_slice Tryz.underlying22 w1
  obtain ⟨p9, l9, c9, e0, hc9, hs, hin, _⟩ := open_deeds h1
  simp only [Value.cells, List.cons.injEq, and_true, Value.slice.injEq] at e0
  obtain ⟨rfl, rfl, rfl⟩ := e0
  clear hA0 hval0
  simp only [List.append_nil] at hW'
  refine Calls.mono (walgoes_calls W (roots_of hL) n1 hs hc9 hin) fun e W' he => ?_
  cases e with
  | returned v =>
    obtain ⟨rfl, hE⟩ : v = .bool true ∧ Ext No W W' := he
    refine ⟨_, rfl, post_true (by kernel_rfl) (by kernel_rfl) (by kernel_rfl) hW' rfl (by kernel_rfl) (by kernel_rfl) Tryz.underlying4 rfl rfl rfl hE⟩
  | panicked _ => exact he.elim
  | outgrown => exact he.elim
theorem goes_row : Rows.WalGoesSaid :=
  OpenClaim.holds_of_wide 3 Tryz.f3 rfl rfl rfl rfl rfl rfl rfl ⟨rfl, rfl, rfl, rfl, rfl⟩ rfl rfl rfl rfl rfl (by kernel_rfl) Tryz.func3 (by kernel_rfl)
    (of_decide_eq_true (by kernel_rfl)) (by unfold Func.isWrapper; first | (rw [if_pos (by decide +kernel)]; kernel_rfl) | (rw [if_neg (by decide +kernel)]; exact ⟨rfl, rfl⟩))
    (fun os started H enc _ => goes_lifted os started H enc)
theorem goes_holds : Rows.WalGoesCardSaid :=
  Claim7.holds_tied_plain_at .later [] [.data] true Rows.walGoesCard.stood.harness false
    goes_row (fun _ h => by cases h) (by kernel_rfl) (fun _ h => by cases h) walGoes_row_tie rfl ⟨rfl, rfl⟩ (by kernel_rfl) rfl
    (fun f fn hf hfn => by
      obtain rfl : f = 3 := Option.some.inj ((show Tryz.prog.funcNamed "confluence/confluencelaw04.WalGoes" = some 3 by kernel_rfl).symm.trans hf) |>.symm
      obtain rfl : fn = Tryz.f3 := (Option.some.inj (Tryz.func3.symm.trans hfn)).symm
      exact ⟨by kernel_rfl, fun j t ht => by
        rw [Tryz.params3] at ht
        have hm : t ∈ [3, 22] := by have := Array.mem_of_getElem? ht; simpa using this
        have hall : ([3, 22].all fun u => !Tryz.prog.wantsStandIn u) = true := by kernel_rfl
        exact (show Tryz.prog.wantsStandIn t = false by simpa using List.all_eq_true.1 hall t hm)⟩)
    (by kernel_rfl)

end Go.Proofs.YtlfdlodcjiaiiaaGreatDoor
