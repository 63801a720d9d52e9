/-
  Walks and laws towards: WalGoes: whatever is done to a log, with areas of any size, whatever fails, and whenever the power goes: what is told, and what stands on the disk, is as the document says, write by write.
-/
import Derived.LaidEql
import Derived.Test.YtlfdlodcjiaiiaaGreatDoorSamD
namespace Go.Proofs.YtlfdlodcjiaiiaaGreatDoor
open Go.Vc
theorem bookRefuses_calls (w : World) {x d c : Nat} {H : Nat → Prop} {W : Wl} (h : BookAt w x d H W) {p : Option Addr} {b : Bytes} (r : Int) :
    CallsV Tryz.prog 64 [.pointer (some ⟨x, 0, none⟩), .slice p b.length c, .int .i64 r] w fun v w' => v = .int .i64 (W.refuses b r) ∧ Ext No w w' := by
  obtain ⟨⟨q, cq, rows, hbx, _, _, _⟩, _, _⟩ := h
  refine calls_enter Tryz.func64 rfl rfl rfl rfl ?_
  have hX := Ext.refl No w
  refine c_seq (c_region (wl_p I_ok rfl (wl_nil (f_then (c_seq (c_block (c_seq (c_region (wl_p I_ok rfl (wl_nil (f_then (c_if rfl (fun hc => ?_) (fun hc => ?_)))))))))))))
  · have e : W.refuses b r = 3 := if_pos (by omega)
    rw [e]
    refine c_seq (c_region (wl_p I_ok rfl (wl_nil (f_then (c_ret (f_blockR (f_thenR (f_ret1 rfl rfl ?_))))))))
    exact ⟨rfl, hX⟩
  · have hb40 : ¬ 40000 < b.length := by omega
    refine c_seq (c_region (wl_p I_ok rfl (wl (st_ld I_ok rfl (hbx.cell rfl) (wl_p I_ok rfl (wl_nil (f_then (c_cond rfl (fun hc => ?_) (fun hc => ?_)))))))))
    · have e : W.refuses b r = 8 := by unfold Wl.refuses; rw [if_neg hb40, if_pos hc]
      rw [e]
      refine c_seq (c_region (wl_p I_ok rfl (wl_nil (f_then (c_ret (f_blockR (f_thenR (f_ret1 rfl rfl ?_))))))))
      exact ⟨rfl, hX⟩
    · have hbr : ¬ W.broken = true := by simp [hc]
      refine c_seq (c_region (wl_p I_ok rfl (wl (st_call Tryz.call68 rfl rfl rfl rfl rfl rfl (refSectors_calls w (b.length : Int)) fun v1 w1 hr1 => ?_))))
      obtain ⟨rfl, hE1⟩ := hr1
      have hX := hX.thenNo hE1
      rw [sectZ_nat]
      refine wl_p I_ok rfl (wl_nil (f_then (c_if rfl (fun hc => ?_) (fun hc => ?_))))
      · have e : W.refuses b r = 6 := by unfold Wl.refuses; rw [if_neg hb40, if_neg hbr, if_pos hc]
        rw [e]
        refine c_seq (c_region (wl_p I_ok rfl (wl_nil (f_then (c_ret (f_blockR (f_thenR (f_ret1 rfl rfl ?_))))))))
        exact ⟨rfl, hX⟩
      · have e : W.refuses b r = 0 := by unfold Wl.refuses; rw [if_neg hb40, if_neg hbr, if_neg hc]
        rw [e]
        refine c_skip (f_blockN (f_then (c_seq (c_region (wl_p I_ok rfl (wl_nil (f_then (c_ret (f_ret1 rfl rfl ?_)))))))))
        exact ⟨rfl, hX⟩

theorem bookBegin_calls (w : World) {x d m t c : Nat} {H F : Nat → Prop} {D : Dsk} {W : Wl} {p : Option Addr} {b : Bytes} (h : BookAt w x d H W) (hA : At w d F D) (hok : D.Ok m) (hm : m + 2000 < 1000000000) (hn : W.size < 1000000) (ht : t < 4294967296) (hs : SlB w p b) (hbl : b.length ≤ 40000) (hFx : ¬ F x) :
    CallsV Tryz.prog 63 [.pointer (some ⟨x, 0, none⟩), .int .u32 (t : Int), .slice p b.length c] w fun v w' => v = .int .i64 (beginD D t W.size b).2 ∧ DkQ w d F (beginD D t W.size b).1 w' := by
  refine calls_enter Tryz.func63 rfl rfl rfl rfl ?_
  have hX := Ext.refl F w
  have hFlt := hA.lt
  have hsl := sectN_le b.length
  have hsp := sectN_pos hbl
  obtain ⟨⟨q, cq, rows, hbk, _, _, _⟩, hxH, hlt⟩ := h
  have hbx := hbk
  have hat := hA
  have hsb := hs
  refine c_seq (c_region (wl_p I_ok rfl (wl_nil (f_then (c_seq ?_)))))
  refine c_draw rfl 15 [(0, true), (1, true), (2, true), (3, true), (4, true), (5, true), (6, true), (7, true), (8, true), (10, true), (11, true), (9, false), (12, false), (13, false), (14, true)] [] (F) (by kernel_rfl) fun w1 hE1 hs1 => ?_
  have hbxd := hbx
  have hsbd := hsb
  have hatd := hat
  have hXd := hX
  have hbx := hbx.extNo hE1
  have hsb := hsb.extNo hE1
  have hat := hat.extNo hE1
  have hX := hX.thenNo hE1
  have hC : Ext (F) _ w1 := hE1.no
  refine wd_k I_ok 3 rfl (wd_ld I_ok rfl rfl (fun w' hw' => ((hbxd.ext hw' hFx).cell rfl)) ?_)
  refine wd_k I_ok 4 rfl (wd_ld I_ok rfl rfl (fun w' hw' => ((hbxd.ext hw' hFx).cell rfl)) ?_)
  refine wd_k I_ok 2 rfl (wd_l rfl (st_call Tryz.call66 rfl rfl rfl rfl rfl rfl (refFrom_calls w1 t W.size ht (by omega)) fun v2 w2 hr2 => ⟨(by obtain ⟨rfl, hE2⟩ := hr2; exact hC.thenNo hE2), ?_⟩))
  obtain ⟨rfl, hE2⟩ := hr2
  have hbx := hbx.extNo hE2
  have hsb := hsb.extNo hE2
  have hat := hat.extNo hE2
  have hX := hX.thenNo hE2
  have hC := hC.thenNo hE2
  have hX0 := hX.size
  refine wd_l rfl (st_call Tryz.call65 rfl rfl rfl rfl rfl rfl (refPiece_calls w2 t 0 ht (by decide) hsb hbl) fun v3 w3 hr3 => ⟨(by obtain ⟨q1, k1, rfl, ho1, hon1, hE3⟩ := hr3; exact hC.thenNo hE3), ?_⟩)
  obtain ⟨q1, k1, rfl, ho1, hon1, hE3⟩ := hr3
  have hbx := hbx.extNo hE3
  have hsb := hsb.extNo hE3
  have hat := hat.extNo hE3
  have hX := hX.thenNo hE3
  have hC := hC.thenNo hE3
  have hX1 := hX.size
  refine wd_l rfl (st_call Tryz.call62 rfl rfl rfl rfl rfl rfl (lay_calls w3 hat hok (by rw [pieceB_length]; omega) (areaB t W.size : Int) (by unfold areaB; split <;> omega) (pieceB_len t 0 b) (fun e => by have := pieceB_length t 0 b; rw [e] at this; simp at this; omega) ho1.sl (fun y off e hF => by have := hon1 y (OwnB.of ho1 e); have := hFlt y hF; omega)) fun v4 w4 hr4 => ⟨(by obtain ⟨rfl, F2, h2, hE4, hF2⟩ := hr4; exact hC.then hE4), ?_⟩)
  obtain ⟨rfl, F2, h2, hE4, hF2⟩ := hr4
  have hC := hC.then hE4
  have hX := hX.then hE4
  have hxl := hlt x hxH
  have hbx := hbx.ext hE4 hFx
  obtain ⟨y, hy⟩ : ∃ y, y = layD D (areaB t W.size) (pieceB t 0 b) := ⟨_, rfl⟩
  have hyo := layD_ok (pieceB t 0 b) (areaB t W.size : Int) hok (pieceB_len t 0 b)
  rw [pieceB_length] at hyo
  have hbe : beginD D t W.size b = if y.2 ≠ 0 then y else layD y.1 ((t % 2 : Nat) : Int) [headB t W.size] := by rw [hy]; rfl
  rw [← hy] at h2 hyo ⊢
  obtain ⟨yy, hyy⟩ : ∃ yy, yy = (if y.2 ≠ 0 then y else layD y.1 ((t % 2 : Nat) : Int) [headB t W.size]) := ⟨_, rfl⟩
  rw [hbe, ← hyy]
  have hF2x : ¬ F2 x := fun e => (hF2 x e).elim hFx fun e => by omega
  have hF2 := grow_sub (fun x => .inl) hX1 hF2
  refine wd_k I_ok 1 rfl (wd_sw (wb_nil (f_then ?_)))
  refine c_cutK (α := Int × (Nat → Prop) × Dsk) [] rfl (fun z => [(7, .int .i64 z.1)]) (fun z u => ((z.1 = yy.2 ∧ z.2.2 = yy.1) ∧ At u d z.2.1 z.2.2 ∧ (∀ x, z.2.1 x → F x ∨ w.heap.size ≤ x)) ∧ Ext F w u) ?_ ?_
  · refine c_seq ?_
    refine c_region (wl_p I_ok rfl (wl_nil (f_then (c_if rfl (fun hc => ?_) (fun hc => ?_)))))
    · have hy0 : y.2 = 0 := hc
      have hyl : yy = layD y.1 ((t % 2 : Nat) : Int) [headB t W.size] := by rw [hyy, if_neg (fun e => e hy0)]
      refine c_draw rfl 16 [(0, true), (1, true), (2, true), (3, true), (4, true), (5, true), (6, true), (7, true), (8, true), (9, true), (10, true), (11, true), (12, false), (13, false), (14, false), (15, true)] [] (F2) (by kernel_rfl) fun w5 hE5 hs5 => ?_
      have hbxd := hbx
      have hsbd := hsb
      have hatd := hat
      have h2d := h2
      have hXd := hX
      have hbx := hbx.extNo hE5
      have h2 := h2.extNo hE5
      have hX := hX.thenNo hE5
      have hC : Ext (F2) _ w5 := hE5.no
      refine wd_k I_ok 3 rfl (wd_ld I_ok rfl rfl (fun w' hw' => ((hbxd.ext hw' hF2x).cell rfl)) ?_)
      refine wd_k I_ok 7 rfl (wd_ld I_ok rfl rfl (fun w' hw' => ((hbxd.ext hw' hF2x).cell rfl)) ?_)
      refine wd_l rfl (st_call Tryz.call93 rfl rfl rfl rfl rfl rfl (refHead_calls w5 t W.size ht (by omega)) fun v6 w6 hr6 => ⟨(by obtain ⟨rfl, hE6⟩ := hr6; exact hC.thenNo hE6), ?_⟩)
      obtain ⟨rfl, hE6⟩ := hr6
      have hbx := hbx.extNo hE6
      have h2 := h2.extNo hE6
      have hX := hX.thenNo hE6
      have hC := hC.thenNo hE6
      obtain ⟨Hd, hHd⟩ : ∃ Hd, Hd = headB t W.size := ⟨_, rfl⟩
      have hHl : Hd.length = 64 := by rw [hHd]; exact headB_len t W.size
      rw [← hHd]
      have h2l := h2.lt
      refine wd_l rfl (st_bs I_ok rfl 64 rfl rfl rfl (by decide) (by decide) ⟨⟨by show (bytesU Hd).length = 64; rw [bytesU_len, hHl], by decide⟩, trivial⟩ (l' := bytesU Hd) (put_all (by show (rep 1 (cellsOf ti37.zero)).length = (bytesU Hd).length; rw [bytesU_len, hHl]; rfl)) fun b37 w7 hn37 hb37 hE7 hs7 => ⟨hC.thenNo hE7, ?_⟩)
      have fr37 := Nat.le_trans hX.size hn37
      have hbx := hbx.extNo hE7
      have h2 := h2.extNo hE7
      have hX := hX.thenNo hE7
      have hC := hC.thenNo hE7
      have hX2 := hX.size
      have hmod : IntKind.i64.wrap ((t : Int).tmod 2) = ((t % 2 : Nat) : Int) := by rw [show (t : Int).tmod 2 = ((t % 2 : Nat) : Int) from by rw [Int.tmod_eq_emod_of_nonneg (Int.natCast_nonneg _)]; omega]; exact IntWalk.i64_in _ (by omega)
      refine wd_l rfl (st_call Tryz.call62 rfl rfl rfl rfl rfl rfl (lay_calls w7 (L := [Hd]) h2 hyo (by simp; omega) (IntKind.i64.wrap ((t : Int).tmod 2)) (by rw [hmod]; omega) (fun x hx => by rw [List.mem_singleton.1 hx]; exact hHl) (by simp) ⟨by simp [bytesU_len, hHl], .inr ⟨b37, 0, rfl, by have e := hb37.seg; simpa using e⟩⟩ (fun y off e hF => by cases e; have := h2l _ hF; omega)) fun v8 w8 hr8 => ⟨(by obtain ⟨rfl, F4, h4, hE8, hF4s⟩ := hr8; exact hC.then hE8), ?_⟩)
      obtain ⟨rfl, F4, h4, hE8, hF4s⟩ := hr8
      have hC := hC.then hE8
      rw [hmod] at h4
      rw [hmod]
      have hX := hX.trans hE8 fun x hx e => (hF2 x e).resolve_right (by omega)
      have hF4s := grow_sub hF2 hX2 hF4s
      rw [hHd, ← hyl] at h4
      rw [hHd, ← hyl]
      refine wd_k I_ok 1 rfl (wd_sw (wb_nil ?_))
      exact f_cut ((yy.2, F4, yy.1)) rfl ⟨⟨⟨rfl, rfl⟩, h4, hF4s⟩, hX⟩
    · have hyl : yy = y := by rw [hyy, if_pos hc]
      refine c_skip ?_
      exact f_cut ((y.2, F2, y.1)) rfl ⟨⟨⟨by rw [hyl], by rw [hyl]⟩, h2, hF2⟩, hX⟩
  rintro ⟨e, F3, D3⟩ w9 ⟨⟨⟨he, hD3⟩, h3, hF3⟩, hX⟩
  try dsimp only
  dsimp only at he hD3 h3 hF3
  refine c_seq (c_region (wl_p I_ok rfl (wl_nil (f_then (c_ret (f_ret1 rfl rfl ?_))))))
  rw [he]
  exact ⟨rfl, F3, by rw [← hD3]; exact h3, hX, hF3⟩
end Go.Proofs.YtlfdlodcjiaiiaaGreatDoor
namespace Go.Proofs.YtlfdlodcjiaiiaaGreatDoor
open Go.Vc
/-- a book that has turned, after a call that gave it bytes of K -/
def BookK (w : World) (x d : Nat) (F H K : Nat → Prop) (r : Wl × Int) (v : Value) (w' : World) : Prop :=
  v = .int .i64 r.2 ∧ ∃ F' H' : Nat → Prop, At w' d F' r.1.D ∧ BookAt w' x d H' r.1 ∧ (∀ y, F' y → F y ∨ w.heap.size ≤ y) ∧ (∀ y, H' y → (H y ∨ K y) ∨ w.heap.size ≤ y) ∧ (∀ y, H' y → ¬ F' y) ∧ Ext (fun y => F y ∨ H y) w w'
theorem bookAppend_calls (w : World) {x d m c : Nat} {H F K : Nat → Prop} {W : Wl} {p : Option Addr} {b : Bytes} (h : BookAt w x d H W) (hA : At w d F W.D) (hok : W.D.Ok m) (hm : m + 2000 < 1000000000) (hW : Wl.Ok W) (hs : SlB w p b) (hp : PieceAt w K (.slice p b.length c) b) (hK : ∀ y, K y → ¬ F y ∧ y < w.heap.size) (hHF : ∀ y, H y → ¬ F y) :
    CallsV Tryz.prog 27 [.pointer (some ⟨x, 0, none⟩), .slice p b.length c] w fun v w' => BookK w x d F H K (W.append b) v w' := by
  refine calls_enter Tryz.func27 rfl rfl rfl rfl ?_
  have hX := Ext.refl (fun y => F y ∨ H y) w
  have hsl := sectN_le b.length
  have hFlt := hA.lt
  obtain ⟨hz1, hz2⟩ := hW.size
  have hz3 := hW.few
  have hz4 := hW.room
  have hz5 := hW.turn
  have hpbl := pieceB_length W.turn W.pieces.length b
  have har : areaB W.turn W.size ≤ 2 + W.size := by unfold areaB; split <;> omega
  have hbook := h
  obtain ⟨⟨q, cq, rows, hlb, hrw, hps, hqH⟩, hxH, hlt⟩ := id h
  have hFx := hHF x hxH
  have hat := hA
  have hsb := hs
  have hpc := hp
  refine c_seq (c_region (wl_p I_ok rfl (wl_nil (f_then (c_seq (c_seq ?_))))))
  refine c_draw rfl 13 [(0, true), (1, true), (2, true), (3, true), (4, true), (5, true), (6, true), (7, true), (8, true), (9, true), (10, true), (11, false), (12, true)] [] (No) (by kernel_rfl) fun w1 hE1 hs1 => ?_
  have hlbd := hlb
  have hrwd := hrw
  have hpsd := hps
  have hatd := hat
  have hpcd := hpc
  have hsbd := hsb
  have hbookd := hbook
  have hXd := hX
  have hlb := hlb.extNo hE1
  have hrw := hrw.ext hE1 fun _ _ => id
  have hps := hps.ext hE1 fun _ _ _ => id
  have hat := hat.extNo hE1
  have hpc := hpc.ext hE1 fun _ _ _ => id
  have hsb := hsb.extNo hE1
  have hbook := hbook.extNo hE1
  have hX := hX.thenNo hE1
  have hC : Ext (No) _ w1 := hE1.no
  refine wd_k I_ok 5 rfl (wd_ld I_ok rfl rfl (fun w' hw' => ((hlbd.extNo hw').cell rfl)) ?_)
  refine wd_k I_ok 3 rfl (wd_ld I_ok rfl rfl (fun w' hw' => ((hlbd.extNo hw').cell rfl)) ?_)
  refine wd_k I_ok 1 rfl ?_
  rw [IntWalk.i64_in _ (by omega)]
  refine wd_l rfl (st_call Tryz.call64 rfl rfl rfl rfl rfl rfl (bookRefuses_calls w1 hbook (p := p) (c := c) (b := b) ((W.size : Int) - W.used)) fun v2 w2 hr2 => ⟨(by obtain ⟨rfl, hE2⟩ := hr2; exact hC.thenNo hE2), ?_⟩)
  obtain ⟨rfl, hE2⟩ := hr2
  have hlb := hlb.extNo hE2
  have hrw := hrw.ext hE2 fun _ _ => id
  have hps := hps.ext hE2 fun _ _ _ => id
  have hat := hat.extNo hE2
  have hpc := hpc.ext hE2 fun _ _ _ => id
  have hsb := hsb.extNo hE2
  have hbook := hbook.extNo hE2
  have hX := hX.thenNo hE2
  have hC := hC.thenNo hE2
  refine wd_k I_ok 1 rfl (wd_sw (wb_nil (f_then (c_seq (c_region (wl_p I_ok rfl (wl_nil (f_then (c_if rfl (fun hc => ?_) (fun hc => ?_))))))))))
  · refine c_seq ?_
    refine c_region (wl_p I_ok rfl (wl_nil (f_then (c_ret (f_thenR (f_ret1 rfl rfl ?_))))))
    rw [append_no hc]
    exact ⟨rfl, F, H, hat, hbook, fun y => .inl, fun y hy => .inl (.inl hy), hHF, hX⟩
  · have hre : W.refuses b ((W.size : Int) - W.used) = 0 := Decidable.not_not.1 hc
    obtain ⟨hb40, hbr⟩ := refuses_zero hre
    have hsp := sectN_pos hb40
    refine c_skip (f_then (c_seq (c_draw rfl 13 [(0, true), (1, true), (2, true), (3, true), (4, true), (5, true), (6, true), (7, true), (8, true), (9, true), (10, true), (11, false), (12, true)] [] (No) (by kernel_rfl) fun w3 hE3 hs3 => ?_)))
    have hlbd := hlb
    have hrwd := hrw
    have hpsd := hps
    have hatd := hat
    have hpcd := hpc
    have hsbd := hsb
    have hbookd := hbook
    have hXd := hX
    have hlb := hlb.extNo hE3
    have hrw := hrw.ext hE3 fun _ _ => id
    have hps := hps.ext hE3 fun _ _ _ => id
    have hat := hat.extNo hE3
    have hpc := hpc.ext hE3 fun _ _ _ => id
    have hsb := hsb.extNo hE3
    have hbook := hbook.extNo hE3
    have hX := hX.thenNo hE3
    have hC : Ext (No) _ w3 := hE3.no
    refine wd_k I_ok 3 rfl (wd_ld I_ok rfl rfl (fun w' hw' => ((hlbd.extNo hw').cell rfl)) ?_)
    refine wd_k I_ok 3 rfl (wd_ld I_ok rfl rfl (fun w' hw' => ((hlbd.extNo hw').cell rfl)) ?_)
    refine wd_k I_ok 2 rfl ?_
    rw [wrap32 W.pieces.length (by omega)]
    refine wd_k I_ok 1 rfl ?_
    have hX0 := hX.size
    refine wd_l rfl (st_call Tryz.call65 rfl rfl rfl rfl rfl rfl (refPiece_calls w3 W.turn W.pieces.length hz5 (by omega) hsb hb40) fun v4 w4 hr4 => ⟨(by obtain ⟨q1, k1, rfl, ho1, hon1, hE4⟩ := hr4; exact hC.thenNo hE4), ?_⟩)
    obtain ⟨q1, k1, rfl, ho1, hon1, hE4⟩ := hr4
    have hlb := hlb.extNo hE4
    have hrw := hrw.ext hE4 fun _ _ => id
    have hps := hps.ext hE4 fun _ _ _ => id
    have hat := hat.extNo hE4
    have hpc := hpc.ext hE4 fun _ _ _ => id
    have hsb := hsb.extNo hE4
    have hbook := hbook.extNo hE4
    have hX := hX.thenNo hE4
    have hC := hC.thenNo hE4
    have hon1 : ∀ y, OwnB q1 y → w.heap.size ≤ y := fun y hy => by have := hon1 y hy; omega
    refine wd_k I_ok 1 rfl (wd_sw (wb_nil (f_then (c_seq ?_))))
    refine c_draw rfl 21 [(0, true), (1, true), (2, true), (3, true), (4, true), (5, true), (6, true), (7, true), (8, true), (9, true), (10, true), (11, true), (13, true), (14, true), (15, true), (16, true), (18, true), (12, false), (17, true), (19, false), (20, true)] [] (F) (by kernel_rfl) fun w5 hE5 hs5 => ?_
    have hlbd := hlb
    have hrwd := hrw
    have hpsd := hps
    have hatd := hat
    have hpcd := hpc
    have hsbd := hsb
    have hbookd := hbook
    have ho1d := ho1
    have hXd := hX
    have hlb := hlb.extNo hE5
    have hrw := hrw.ext hE5 fun _ _ => id
    have hps := hps.ext hE5 fun _ _ _ => id
    have hat := hat.extNo hE5
    have hpc := hpc.ext hE5 fun _ _ _ => id
    have hsb := hsb.extNo hE5
    have ho1 := ho1.ext hE5 fun _ _ => id
    have hX := hX.thenNo hE5
    have hC : Ext (F) _ w5 := hE5.no
    refine wd_k I_ok 3 rfl (wd_ld I_ok rfl rfl (fun w' hw' => ((hlbd.ext hw' hFx).cell rfl)) ?_)
    refine wd_k I_ok 3 rfl (wd_ld I_ok rfl rfl (fun w' hw' => ((hlbd.ext hw' hFx).cell rfl)) ?_)
    refine wd_k I_ok 3 rfl (wd_ld I_ok rfl rfl (fun w' hw' => ((hlbd.ext hw' hFx).cell rfl)) ?_)
    refine wd_k I_ok 3 rfl (wd_ld I_ok rfl rfl (fun w' hw' => ((hlbd.ext hw' hFx).cell rfl)) ?_)
    refine wd_k I_ok 1 rfl (wd_l rfl (st_call Tryz.call66 rfl rfl rfl rfl rfl rfl (refFrom_calls w5 W.turn W.size hz5 (by omega)) fun v6 w6 hr6 => ⟨(by obtain ⟨rfl, hE6⟩ := hr6; exact hC.thenNo hE6), ?_⟩))
    obtain ⟨rfl, hE6⟩ := hr6
    have hlb := hlb.extNo hE6
    have hrw := hrw.ext hE6 fun _ _ => id
    have hps := hps.ext hE6 fun _ _ _ => id
    have hat := hat.extNo hE6
    have hpc := hpc.ext hE6 fun _ _ _ => id
    have hsb := hsb.extNo hE6
    have ho1 := ho1.ext hE6 fun _ _ => id
    have hX := hX.thenNo hE6
    have hC := hC.thenNo hE6
    refine wd_k I_ok 1 rfl ?_
    rw [show IntKind.i64.wrap ((areaB W.turn W.size : Int) + (W.used : Int)) = ((areaB W.turn W.size + W.used : Nat) : Int) from by rw [IntWalk.i64_in _ (by omega)]; omega]
    have hX1 := hX.size
    refine wd_l rfl (st_call Tryz.call62 rfl rfl rfl rfl rfl rfl (lay_calls w6 hat hok (by rw [pieceB_length]; omega) ((areaB W.turn W.size + W.used : Nat) : Int) (by omega) (pieceB_len _ _ b) (fun e => by have := pieceB_length W.turn W.pieces.length b; rw [e] at this; simp at this; omega) ho1.sl (fun y off e hF => by have := hon1 y (OwnB.of ho1 e); have := hFlt y hF; omega)) fun v7 w7 hr7 => ⟨(by obtain ⟨rfl, F2, hat2, hE7, hFs⟩ := hr7; exact hC.then hE7), ?_⟩)
    obtain ⟨rfl, F2, hat2, hE7, hFs⟩ := hr7
    have hC := hC.then hE7
    obtain ⟨y, hy⟩ : ∃ y, y = layD W.D ((areaB W.turn W.size + W.used : Nat) : Int) (pieceB W.turn W.pieces.length b) := ⟨_, rfl⟩
    rw [← hy] at hat2 ⊢
    have hX := hX.then (hE7.mono fun z _ e => .inl e)
    have hlb := hlb.ext hE7 hFx
    have hrw := hrw.ext hE7 fun z hz => hHF z (hqH z hz)
    have hps := hps.ext hE7 fun z hz _ => hHF z hz
    have hpc := hpc.ext hE7 fun z hz _ => (hK z hz).1
    have hHF2 : ∀ z, H z → ¬ F2 z := fun z hz e => (hFs z e).elim (hHF z hz) fun e => by have := hlt z hz; omega
    have hKF2 : ∀ z, K z → ¬ F2 z := fun z hz e => (hFs z e).elim (hK z hz).1 fun e => by have := (hK z hz).2; omega
    have hFs := grow_sub (fun z => .inl) hX1 hFs
    obtain ⟨N, hN⟩ : ∃ N, N = w7.heap.size := ⟨_, rfl⟩
    have hNw : w.heap.size ≤ N := by rw [hN]; exact hX.size
    have hF2lt : ∀ z, F2 z → z < N := by rw [hN]; exact hat2.lt
    refine wd_k I_ok 1 rfl (wd_sw (wb_nil (f_then ?_)))
    refine c_cutK (α := Wl × (Nat → Prop)) [7] rfl (fun z => []) (fun z u => (BookAt u x d z.2 z.1 ∧ At u d F2 z.1.D ∧ (∀ y, z.2 y → (H y ∨ K y) ∨ w.heap.size ≤ y) ∧ (∀ y, z.2 y → ¬ F2 y) ∧ W.append b = (z.1, y.2)) ∧ Ext (fun y => F y ∨ H y) w u) ?_ ?_
    · refine c_seq ?_
      refine c_region (wl_p I_ok rfl ?_)
      have hlb0 := hlb
      refine wl (st_set I_ok hlb rfl rfl (Nat.lt_of_lt_of_eq (by decide : 0 + 5 < 6) rfl) fun w8 hlb hE8 hs8 => ?_)
      have hX := hX.then (hE8.mono fun z _ e => .inr (by have e : z = x := e; rw [e]; exact hxH))
      have hat2 := hat2.ext hE8 fun z hz e => by have e : z = x := e; subst e; exact hHF2 z hxH hz
      have hrw := hrw.extTy hE8 hlb0 (by decide)
      have hps := hps.ext hE8 fun z _ ht e => by have e : z = x := e; subst e; exact ht.ne hlb0 (by decide) rfl
      have hpc := hpc.ext hE8 fun z _ ht e => by have e : z = x := e; subst e; exact ht.ne hlb0 (by decide) rfl
      refine wl_nil (f_then (c_seq (c_region (wl_p I_ok rfl (wl (st_ld I_ok rfl (hlb.cell rfl) (wl_p I_ok rfl (wl_nil (f_then (c_cond rfl (fun hc => ?_) (fun hc => ?_)))))))))))
      · have hy0 : y.2 = 0 := by simpa using hc
        have hqx : ¬ OwnB q x := fun e => (Own.ty hrw e).ne hlb (by decide) rfl
        refine c_drawX rfl 22 22 [] (fun z => OwnB q z ∨ z = x) (by kernel_rfl) fun w9 hE9 hs9 => ?_
        have hlbd := hlb
        have hrwd := hrw
        have hpsd := hps
        have hatd := hat
        have hpcd := hpc
        have hsbd := hsb
        have hbookd := hbook
        have ho1d := ho1
        have hat2d := hat2
        have hXd := hX
        have hlb := hlb.extNo hE9
        have hrw := hrw.ext hE9 fun _ _ => id
        have hps := hps.ext hE9 fun _ _ _ => id
        have hpc := hpc.ext hE9 fun _ _ _ => id
        have hat2 := hat2.extNo hE9
        have hX := hX.thenNo hE9
        have hC : Ext (fun z => OwnB q z ∨ z = x) _ w9 := hE9.no
        refine wx_plan [(0, true), (1, true), (2, true), (3, true), (4, true), (6, true), (9, true), (10, true), (11, true), (13, true), (14, true)] 11 rfl (by kernel_rfl) (wd_k I_ok 11 rfl (wd_tail rfl ?_))
        refine wx_alt [5, 7, 12] rfl (by kernel_rfl) ⟨⟨_, rfl, ?_⟩, ⟨_, rfl, ?_⟩, ⟨_, rfl, ?_⟩, trivial⟩
        · refine st_ld I_ok rfl (hlb.cell rfl) ⟨hC, ?_⟩
          refine wx_plan [] 10 rfl (by kernel_rfl) (wd_tail rfl (wx_alt [7, 12] rfl (by kernel_rfl) ⟨⟨_, rfl, ?_⟩, ⟨_, rfl, ?_⟩, trivial⟩))
          · refine st_bs I_ok rfl 1 rfl rfl rfl (by decide) (by decide) (by simp [partsOk]) (l' := [.slice p b.length c]) rfl fun b72 w10 hn72 hb72 hE10 hs10 => ⟨hC.thenNo hE10, ?_⟩
            have fr72 := Nat.le_trans hX.size hn72
            have frhC72 := Nat.le_trans hC.size hn72
            have hlb := hlb.extNo hE10
            have hrw := hrw.ext hE10 fun _ _ => id
            have hps := hps.ext hE10 fun _ _ _ => id
            have hpc := hpc.ext hE10 fun _ _ _ => id
            have hat2 := hat2.extNo hE10
            have hX := hX.thenNo hE10
            have hC := hC.thenNo hE10
            refine wx_plan [] 9 rfl (by kernel_rfl) (wd_tail rfl (wx_alt [8, 12] rfl (by kernel_rfl) ⟨⟨_, rfl, ?_⟩, ⟨_, rfl, ?_⟩, trivial⟩))
            · have hNs := hC.size
              refine st_app I_ok rfl 1 24 rfl rfl rfl (by decide) hrw (Src.slice (m := 1) ⟨rfl, .inr ⟨b72, 0, rfl, hb72.seg⟩⟩ OneC.h) (by dsimp only [maxLen]; omega) (by dsimp only; omega) fun p11 c11 w11 ho11 hE11 hB11 => ⟨hC.then (hE11.mono fun _ _ e => .inl e), ?_⟩
              have hC := hC.then (hE11.mono fun _ _ e => .inl e)
              have hX := hX.then (hE11.mono fun z _ e => .inr (hqH z e))
              have hlb := hlb.ext hE11 hqx
              have hat2 := hat2.ext hE11 fun z hz e => hHF2 z (hqH z e) hz
              have hps := hps.ext hE11 fun z hz ht e => by obtain ⟨l, hl⟩ := Own.ty hrw e; exact ht.ne hl (by decide) rfl
              have hpc := hpc.ext hE11 fun z hz ht e => by obtain ⟨l, hl⟩ := Own.ty hrw e; exact ht.ne hl (by decide) rfl
              have hqn : ∀ z, OwnB p11 z → H z ∨ N ≤ z := fun z hz => (hB11 z hz).imp (hqH z) fun e => by omega
              have hrw : Own w11 p11 (W.pieces ++ [b]).length c11 56 1 (rows ++ [.slice p b.length c]) := by rw [List.length_append]; exact ho11
              dsimp only
              obtain ⟨pn, hpn0⟩ : ∃ pn, pn = p11 := ⟨_, rfl⟩
              obtain ⟨cn, hcn0⟩ : ∃ cn, cn = c11 := ⟨_, rfl⟩
              rw [← hpn0] at hrw hqn ⊢
              rw [← hcn0] at hrw ⊢
              refine wx_plan [(12, false), (15, true), (16, true), (17, true), (18, false), (19, true), (20, true), (21, false)] 0 rfl (by kernel_rfl) (wd_l rfl (st_ld I_ok rfl (hlb.cell rfl) ⟨hC, ?_⟩))
              refine wd_k I_ok 3 rfl ?_
              have hlb0 := hlb
              refine wd_l rfl (st_set I_ok hlb rfl rfl (Nat.lt_of_lt_of_eq (by decide : 0 + 3 < 6) rfl) fun w12 hlb hE12 hs12 => ⟨hC.then (hE12.mono fun _ _ e => .inr e), ?_⟩)
              have hX := hX.then (hE12.mono fun z _ e => .inr (by have e : z = x := e; rw [e]; exact hxH))
              have hat2 := hat2.ext hE12 fun z hz e => by have e : z = x := e; subst e; exact hHF2 z hxH hz
              have hrw := hrw.extTy hE12 hlb0 (by decide)
              have hps := hps.ext hE12 fun z _ ht e => by have e : z = x := e; subst e; exact ht.ne hlb0 (by decide) rfl
              have hpc := hpc.ext hE12 fun z _ ht e => by have e : z = x := e; subst e; exact ht.ne hlb0 (by decide) rfl
              have hC := hC.then (hE12.mono fun _ _ e => .inr e)
              refine wd_k I_ok 2 rfl ?_
              rw [show IntKind.i64.wrap ((W.used : Int) + ((pieceB W.turn W.pieces.length b).length : Int)) = ((W.used + sectN b.length : Nat) : Int) from by rw [hpbl, IntWalk.i64_in _ (by omega)]; omega]
              have hlb0 := hlb
              refine wd_l rfl (st_set I_ok hlb rfl rfl (Nat.lt_of_lt_of_eq (by decide : 0 + 4 < 6) rfl) fun w13 hlb hE13 hs13 => ⟨hC.then (hE13.mono fun _ _ e => .inr e), ?_⟩)
              have hX := hX.then (hE13.mono fun z _ e => .inr (by have e : z = x := e; rw [e]; exact hxH))
              have hat2 := hat2.ext hE13 fun z hz e => by have e : z = x := e; subst e; exact hHF2 z hxH hz
              have hrw := hrw.extTy hE13 hlb0 (by decide)
              have hps := hps.ext hE13 fun z _ ht e => by have e : z = x := e; subst e; exact ht.ne hlb0 (by decide) rfl
              have hpc := hpc.ext hE13 fun z _ ht e => by have e : z = x := e; subst e; exact ht.ne hlb0 (by decide) rfl
              have hnw := hat2.lt
              have hhr := fun z (hz : OwnB pn z) => hrw.lt hz
              have hxw := hX.size
              refine wd_sw (wb_nil ?_)
              exact f_cut ({ W with D := y.1, broken := false, pieces := W.pieces ++ [b], used := W.used + sectN b.length }, fun z => (H z ∨ K z) ∨ (N ≤ z ∧ z < w13.heap.size)) rfl ⟨⟨⟨⟨pn, cn, _, by dsimp only; rw [List.length_append]; rw [decide_eq_false (fun e => e hy0)] at hlb; exact hlb, hrw, (PiecesAt.mono hps fun z hz => .inl (.inl hz)).snoc (PieceAt.mono hpc fun z hz => .inl (.inr hz)), fun z hz => (hqn z hz).elim (fun e => .inl (.inl e)) fun e => .inr ⟨e, hhr z hz⟩⟩, .inl (.inl hxH), fun z hz => hz.elim (fun e => e.elim (fun e => Nat.lt_of_lt_of_le (hlt z e) hxw) fun e => Nat.lt_of_lt_of_le (hK z e).2 hxw) fun e => e.2⟩, hat2, fun z hz => hz.imp id fun e => Nat.le_trans hNw e.1, fun z hz e => hz.elim (fun h => h.elim (fun h => hHF2 z h e) fun h => hKF2 z h e) fun h => by have := hF2lt z e; omega, by rw [hy0]; exact append_ok hre hy hy0⟩, hX⟩
            · refine st_ld I_ok rfl (hlb.cell rfl) ⟨hC, ?_⟩
              refine wx_plan [(15, true), (8, false), (16, true), (17, true), (18, false), (19, true), (20, true), (21, false)] 0 rfl (by kernel_rfl) (wd_k I_ok 1 rfl ?_)
              have hNs := hC.size
              refine wd_l rfl (st_app I_ok rfl 1 24 rfl rfl rfl (by decide) hrw (Src.slice (m := 1) ⟨rfl, .inr ⟨b72, 0, rfl, hb72.seg⟩⟩ OneC.h) (by dsimp only [maxLen]; omega) (by dsimp only; omega) fun p14 c14 w14 ho14 hE14 hB14 => ⟨hC.then (hE14.mono fun _ _ e => .inl e), ?_⟩)
              have hC := hC.then (hE14.mono fun _ _ e => .inl e)
              have hX := hX.then (hE14.mono fun z _ e => .inr (hqH z e))
              have hlb := hlb.ext hE14 hqx
              have hat2 := hat2.ext hE14 fun z hz e => hHF2 z (hqH z e) hz
              have hps := hps.ext hE14 fun z hz ht e => by obtain ⟨l, hl⟩ := Own.ty hrw e; exact ht.ne hl (by decide) rfl
              have hpc := hpc.ext hE14 fun z hz ht e => by obtain ⟨l, hl⟩ := Own.ty hrw e; exact ht.ne hl (by decide) rfl
              have hqn : ∀ z, OwnB p14 z → H z ∨ N ≤ z := fun z hz => (hB14 z hz).imp (hqH z) fun e => by omega
              have hrw : Own w14 p14 (W.pieces ++ [b]).length c14 56 1 (rows ++ [.slice p b.length c]) := by rw [List.length_append]; exact ho14
              dsimp only
              obtain ⟨pn, hpn0⟩ : ∃ pn, pn = p14 := ⟨_, rfl⟩
              obtain ⟨cn, hcn0⟩ : ∃ cn, cn = c14 := ⟨_, rfl⟩
              rw [← hpn0] at hrw hqn ⊢
              rw [← hcn0] at hrw ⊢
              refine wd_k I_ok 2 rfl ?_
              have hlb0 := hlb
              refine wd_l rfl (st_set I_ok hlb rfl rfl (Nat.lt_of_lt_of_eq (by decide : 0 + 3 < 6) rfl) fun w15 hlb hE15 hs15 => ⟨hC.then (hE15.mono fun _ _ e => .inr e), ?_⟩)
              have hX := hX.then (hE15.mono fun z _ e => .inr (by have e : z = x := e; rw [e]; exact hxH))
              have hat2 := hat2.ext hE15 fun z hz e => by have e : z = x := e; subst e; exact hHF2 z hxH hz
              have hrw := hrw.extTy hE15 hlb0 (by decide)
              have hps := hps.ext hE15 fun z _ ht e => by have e : z = x := e; subst e; exact ht.ne hlb0 (by decide) rfl
              have hpc := hpc.ext hE15 fun z _ ht e => by have e : z = x := e; subst e; exact ht.ne hlb0 (by decide) rfl
              have hC := hC.then (hE15.mono fun _ _ e => .inr e)
              refine wd_k I_ok 2 rfl ?_
              rw [show IntKind.i64.wrap ((W.used : Int) + ((pieceB W.turn W.pieces.length b).length : Int)) = ((W.used + sectN b.length : Nat) : Int) from by rw [hpbl, IntWalk.i64_in _ (by omega)]; omega]
              have hlb0 := hlb
              refine wd_l rfl (st_set I_ok hlb rfl rfl (Nat.lt_of_lt_of_eq (by decide : 0 + 4 < 6) rfl) fun w16 hlb hE16 hs16 => ⟨hC.then (hE16.mono fun _ _ e => .inr e), ?_⟩)
              have hX := hX.then (hE16.mono fun z _ e => .inr (by have e : z = x := e; rw [e]; exact hxH))
              have hat2 := hat2.ext hE16 fun z hz e => by have e : z = x := e; subst e; exact hHF2 z hxH hz
              have hrw := hrw.extTy hE16 hlb0 (by decide)
              have hps := hps.ext hE16 fun z _ ht e => by have e : z = x := e; subst e; exact ht.ne hlb0 (by decide) rfl
              have hpc := hpc.ext hE16 fun z _ ht e => by have e : z = x := e; subst e; exact ht.ne hlb0 (by decide) rfl
              have hnw := hat2.lt
              have hhr := fun z (hz : OwnB pn z) => hrw.lt hz
              have hxw := hX.size
              refine wd_sw (wb_nil ?_)
              exact f_cut ({ W with D := y.1, broken := false, pieces := W.pieces ++ [b], used := W.used + sectN b.length }, fun z => (H z ∨ K z) ∨ (N ≤ z ∧ z < w16.heap.size)) rfl ⟨⟨⟨⟨pn, cn, _, by dsimp only; rw [List.length_append]; rw [decide_eq_false (fun e => e hy0)] at hlb; exact hlb, hrw, (PiecesAt.mono hps fun z hz => .inl (.inl hz)).snoc (PieceAt.mono hpc fun z hz => .inl (.inr hz)), fun z hz => (hqn z hz).elim (fun e => .inl (.inl e)) fun e => .inr ⟨e, hhr z hz⟩⟩, .inl (.inl hxH), fun z hz => hz.elim (fun e => e.elim (fun e => Nat.lt_of_lt_of_le (hlt z e) hxw) fun e => Nat.lt_of_lt_of_le (hK z e).2 hxw) fun e => e.2⟩, hat2, fun z hz => hz.imp id fun e => Nat.le_trans hNw e.1, fun z hz e => hz.elim (fun h => h.elim (fun h => hHF2 z h e) fun h => hKF2 z h e) fun h => by have := hF2lt z e; omega, by rw [hy0]; exact append_ok hre hy hy0⟩, hX⟩
          · refine st_ld I_ok rfl (hlb.cell rfl) ⟨hC, ?_⟩
            refine wx_plan [(15, true), (7, false), (8, false), (16, true), (17, true), (18, false), (19, true), (20, true), (21, false)] 0 rfl (by kernel_rfl) (wd_k I_ok 1 rfl ?_)
            refine wd_l rfl (st_bs I_ok rfl 1 rfl rfl rfl (by decide) (by decide) (by simp [partsOk]) (l' := [.slice p b.length c]) rfl fun b72 w17 hn72 hb72 hE17 hs17 => ⟨hC.thenNo hE17, ?_⟩)
            have fr72 := Nat.le_trans hX.size hn72
            have frhC72 := Nat.le_trans hC.size hn72
            have hlb := hlb.extNo hE17
            have hrw := hrw.ext hE17 fun _ _ => id
            have hps := hps.ext hE17 fun _ _ _ => id
            have hpc := hpc.ext hE17 fun _ _ _ => id
            have hat2 := hat2.extNo hE17
            have hX := hX.thenNo hE17
            have hC := hC.thenNo hE17
            have hNs := hC.size
            refine wd_l rfl (st_app I_ok rfl 1 24 rfl rfl rfl (by decide) hrw (Src.slice (m := 1) ⟨rfl, .inr ⟨b72, 0, rfl, hb72.seg⟩⟩ OneC.h) (by dsimp only [maxLen]; omega) (by dsimp only; omega) fun p18 c18 w18 ho18 hE18 hB18 => ⟨hC.then (hE18.mono fun _ _ e => .inl e), ?_⟩)
            have hC := hC.then (hE18.mono fun _ _ e => .inl e)
            have hX := hX.then (hE18.mono fun z _ e => .inr (hqH z e))
            have hlb := hlb.ext hE18 hqx
            have hat2 := hat2.ext hE18 fun z hz e => hHF2 z (hqH z e) hz
            have hps := hps.ext hE18 fun z hz ht e => by obtain ⟨l, hl⟩ := Own.ty hrw e; exact ht.ne hl (by decide) rfl
            have hpc := hpc.ext hE18 fun z hz ht e => by obtain ⟨l, hl⟩ := Own.ty hrw e; exact ht.ne hl (by decide) rfl
            have hqn : ∀ z, OwnB p18 z → H z ∨ N ≤ z := fun z hz => (hB18 z hz).imp (hqH z) fun e => by omega
            have hrw : Own w18 p18 (W.pieces ++ [b]).length c18 56 1 (rows ++ [.slice p b.length c]) := by rw [List.length_append]; exact ho18
            dsimp only
            obtain ⟨pn, hpn0⟩ : ∃ pn, pn = p18 := ⟨_, rfl⟩
            obtain ⟨cn, hcn0⟩ : ∃ cn, cn = c18 := ⟨_, rfl⟩
            rw [← hpn0] at hrw hqn ⊢
            rw [← hcn0] at hrw ⊢
            refine wd_k I_ok 2 rfl ?_
            have hlb0 := hlb
            refine wd_l rfl (st_set I_ok hlb rfl rfl (Nat.lt_of_lt_of_eq (by decide : 0 + 3 < 6) rfl) fun w19 hlb hE19 hs19 => ⟨hC.then (hE19.mono fun _ _ e => .inr e), ?_⟩)
            have hX := hX.then (hE19.mono fun z _ e => .inr (by have e : z = x := e; rw [e]; exact hxH))
            have hat2 := hat2.ext hE19 fun z hz e => by have e : z = x := e; subst e; exact hHF2 z hxH hz
            have hrw := hrw.extTy hE19 hlb0 (by decide)
            have hps := hps.ext hE19 fun z _ ht e => by have e : z = x := e; subst e; exact ht.ne hlb0 (by decide) rfl
            have hpc := hpc.ext hE19 fun z _ ht e => by have e : z = x := e; subst e; exact ht.ne hlb0 (by decide) rfl
            have hC := hC.then (hE19.mono fun _ _ e => .inr e)
            refine wd_k I_ok 2 rfl ?_
            rw [show IntKind.i64.wrap ((W.used : Int) + ((pieceB W.turn W.pieces.length b).length : Int)) = ((W.used + sectN b.length : Nat) : Int) from by rw [hpbl, IntWalk.i64_in _ (by omega)]; omega]
            have hlb0 := hlb
            refine wd_l rfl (st_set I_ok hlb rfl rfl (Nat.lt_of_lt_of_eq (by decide : 0 + 4 < 6) rfl) fun w20 hlb hE20 hs20 => ⟨hC.then (hE20.mono fun _ _ e => .inr e), ?_⟩)
            have hX := hX.then (hE20.mono fun z _ e => .inr (by have e : z = x := e; rw [e]; exact hxH))
            have hat2 := hat2.ext hE20 fun z hz e => by have e : z = x := e; subst e; exact hHF2 z hxH hz
            have hrw := hrw.extTy hE20 hlb0 (by decide)
            have hps := hps.ext hE20 fun z _ ht e => by have e : z = x := e; subst e; exact ht.ne hlb0 (by decide) rfl
            have hpc := hpc.ext hE20 fun z _ ht e => by have e : z = x := e; subst e; exact ht.ne hlb0 (by decide) rfl
            have hnw := hat2.lt
            have hhr := fun z (hz : OwnB pn z) => hrw.lt hz
            have hxw := hX.size
            refine wd_sw (wb_nil ?_)
            exact f_cut ({ W with D := y.1, broken := false, pieces := W.pieces ++ [b], used := W.used + sectN b.length }, fun z => (H z ∨ K z) ∨ (N ≤ z ∧ z < w20.heap.size)) rfl ⟨⟨⟨⟨pn, cn, _, by dsimp only; rw [List.length_append]; rw [decide_eq_false (fun e => e hy0)] at hlb; exact hlb, hrw, (PiecesAt.mono hps fun z hz => .inl (.inl hz)).snoc (PieceAt.mono hpc fun z hz => .inl (.inr hz)), fun z hz => (hqn z hz).elim (fun e => .inl (.inl e)) fun e => .inr ⟨e, hhr z hz⟩⟩, .inl (.inl hxH), fun z hz => hz.elim (fun e => e.elim (fun e => Nat.lt_of_lt_of_le (hlt z e) hxw) fun e => Nat.lt_of_lt_of_le (hK z e).2 hxw) fun e => e.2⟩, hat2, fun z hz => hz.imp id fun e => Nat.le_trans hNw e.1, fun z hz e => hz.elim (fun h => h.elim (fun h => hHF2 z h e) fun h => hKF2 z h e) fun h => by have := hF2lt z e; omega, by rw [hy0]; exact append_ok hre hy hy0⟩, hX⟩
        · refine st_bs I_ok rfl 1 rfl rfl rfl (by decide) (by decide) (by simp [partsOk]) (l' := [.slice p b.length c]) rfl fun b72 w21 hn72 hb72 hE21 hs21 => ⟨hC.thenNo hE21, ?_⟩
          have fr72 := Nat.le_trans hX.size hn72
          have frhC72 := Nat.le_trans hC.size hn72
          have hlb := hlb.extNo hE21
          have hrw := hrw.ext hE21 fun _ _ => id
          have hps := hps.ext hE21 fun _ _ _ => id
          have hpc := hpc.ext hE21 fun _ _ _ => id
          have hat2 := hat2.extNo hE21
          have hX := hX.thenNo hE21
          have hC := hC.thenNo hE21
          refine wx_plan [] 10 rfl (by kernel_rfl) (wd_tail rfl (wx_alt [5, 12] rfl (by kernel_rfl) ⟨⟨_, rfl, ?_⟩, ⟨_, rfl, ?_⟩, trivial⟩))
          · refine st_ld I_ok rfl (hlb.cell rfl) ⟨hC, ?_⟩
            refine wx_plan [] 9 rfl (by kernel_rfl) (wd_tail rfl (wx_alt [8, 12] rfl (by kernel_rfl) ⟨⟨_, rfl, ?_⟩, ⟨_, rfl, ?_⟩, trivial⟩))
            · have hNs := hC.size
              refine st_app I_ok rfl 1 24 rfl rfl rfl (by decide) hrw (Src.slice (m := 1) ⟨rfl, .inr ⟨b72, 0, rfl, hb72.seg⟩⟩ OneC.h) (by dsimp only [maxLen]; omega) (by dsimp only; omega) fun p22 c22 w22 ho22 hE22 hB22 => ⟨hC.then (hE22.mono fun _ _ e => .inl e), ?_⟩
              have hC := hC.then (hE22.mono fun _ _ e => .inl e)
              have hX := hX.then (hE22.mono fun z _ e => .inr (hqH z e))
              have hlb := hlb.ext hE22 hqx
              have hat2 := hat2.ext hE22 fun z hz e => hHF2 z (hqH z e) hz
              have hps := hps.ext hE22 fun z hz ht e => by obtain ⟨l, hl⟩ := Own.ty hrw e; exact ht.ne hl (by decide) rfl
              have hpc := hpc.ext hE22 fun z hz ht e => by obtain ⟨l, hl⟩ := Own.ty hrw e; exact ht.ne hl (by decide) rfl
              have hqn : ∀ z, OwnB p22 z → H z ∨ N ≤ z := fun z hz => (hB22 z hz).imp (hqH z) fun e => by omega
              have hrw : Own w22 p22 (W.pieces ++ [b]).length c22 56 1 (rows ++ [.slice p b.length c]) := by rw [List.length_append]; exact ho22
              dsimp only
              obtain ⟨pn, hpn0⟩ : ∃ pn, pn = p22 := ⟨_, rfl⟩
              obtain ⟨cn, hcn0⟩ : ∃ cn, cn = c22 := ⟨_, rfl⟩
              rw [← hpn0] at hrw hqn ⊢
              rw [← hcn0] at hrw ⊢
              refine wx_plan [(12, false), (15, true), (16, true), (17, true), (18, false), (19, true), (20, true), (21, false)] 0 rfl (by kernel_rfl) (wd_l rfl (st_ld I_ok rfl (hlb.cell rfl) ⟨hC, ?_⟩))
              refine wd_k I_ok 3 rfl ?_
              have hlb0 := hlb
              refine wd_l rfl (st_set I_ok hlb rfl rfl (Nat.lt_of_lt_of_eq (by decide : 0 + 3 < 6) rfl) fun w23 hlb hE23 hs23 => ⟨hC.then (hE23.mono fun _ _ e => .inr e), ?_⟩)
              have hX := hX.then (hE23.mono fun z _ e => .inr (by have e : z = x := e; rw [e]; exact hxH))
              have hat2 := hat2.ext hE23 fun z hz e => by have e : z = x := e; subst e; exact hHF2 z hxH hz
              have hrw := hrw.extTy hE23 hlb0 (by decide)
              have hps := hps.ext hE23 fun z _ ht e => by have e : z = x := e; subst e; exact ht.ne hlb0 (by decide) rfl
              have hpc := hpc.ext hE23 fun z _ ht e => by have e : z = x := e; subst e; exact ht.ne hlb0 (by decide) rfl
              have hC := hC.then (hE23.mono fun _ _ e => .inr e)
              refine wd_k I_ok 2 rfl ?_
              rw [show IntKind.i64.wrap ((W.used : Int) + ((pieceB W.turn W.pieces.length b).length : Int)) = ((W.used + sectN b.length : Nat) : Int) from by rw [hpbl, IntWalk.i64_in _ (by omega)]; omega]
              have hlb0 := hlb
              refine wd_l rfl (st_set I_ok hlb rfl rfl (Nat.lt_of_lt_of_eq (by decide : 0 + 4 < 6) rfl) fun w24 hlb hE24 hs24 => ⟨hC.then (hE24.mono fun _ _ e => .inr e), ?_⟩)
              have hX := hX.then (hE24.mono fun z _ e => .inr (by have e : z = x := e; rw [e]; exact hxH))
              have hat2 := hat2.ext hE24 fun z hz e => by have e : z = x := e; subst e; exact hHF2 z hxH hz
              have hrw := hrw.extTy hE24 hlb0 (by decide)
              have hps := hps.ext hE24 fun z _ ht e => by have e : z = x := e; subst e; exact ht.ne hlb0 (by decide) rfl
              have hpc := hpc.ext hE24 fun z _ ht e => by have e : z = x := e; subst e; exact ht.ne hlb0 (by decide) rfl
              have hnw := hat2.lt
              have hhr := fun z (hz : OwnB pn z) => hrw.lt hz
              have hxw := hX.size
              refine wd_sw (wb_nil ?_)
              exact f_cut ({ W with D := y.1, broken := false, pieces := W.pieces ++ [b], used := W.used + sectN b.length }, fun z => (H z ∨ K z) ∨ (N ≤ z ∧ z < w24.heap.size)) rfl ⟨⟨⟨⟨pn, cn, _, by dsimp only; rw [List.length_append]; rw [decide_eq_false (fun e => e hy0)] at hlb; exact hlb, hrw, (PiecesAt.mono hps fun z hz => .inl (.inl hz)).snoc (PieceAt.mono hpc fun z hz => .inl (.inr hz)), fun z hz => (hqn z hz).elim (fun e => .inl (.inl e)) fun e => .inr ⟨e, hhr z hz⟩⟩, .inl (.inl hxH), fun z hz => hz.elim (fun e => e.elim (fun e => Nat.lt_of_lt_of_le (hlt z e) hxw) fun e => Nat.lt_of_lt_of_le (hK z e).2 hxw) fun e => e.2⟩, hat2, fun z hz => hz.imp id fun e => Nat.le_trans hNw e.1, fun z hz e => hz.elim (fun h => h.elim (fun h => hHF2 z h e) fun h => hKF2 z h e) fun h => by have := hF2lt z e; omega, by rw [hy0]; exact append_ok hre hy hy0⟩, hX⟩
            · refine st_ld I_ok rfl (hlb.cell rfl) ⟨hC, ?_⟩
              refine wx_plan [(15, true), (8, false), (16, true), (17, true), (18, false), (19, true), (20, true), (21, false)] 0 rfl (by kernel_rfl) (wd_k I_ok 1 rfl ?_)
              have hNs := hC.size
              refine wd_l rfl (st_app I_ok rfl 1 24 rfl rfl rfl (by decide) hrw (Src.slice (m := 1) ⟨rfl, .inr ⟨b72, 0, rfl, hb72.seg⟩⟩ OneC.h) (by dsimp only [maxLen]; omega) (by dsimp only; omega) fun p25 c25 w25 ho25 hE25 hB25 => ⟨hC.then (hE25.mono fun _ _ e => .inl e), ?_⟩)
              have hC := hC.then (hE25.mono fun _ _ e => .inl e)
              have hX := hX.then (hE25.mono fun z _ e => .inr (hqH z e))
              have hlb := hlb.ext hE25 hqx
              have hat2 := hat2.ext hE25 fun z hz e => hHF2 z (hqH z e) hz
              have hps := hps.ext hE25 fun z hz ht e => by obtain ⟨l, hl⟩ := Own.ty hrw e; exact ht.ne hl (by decide) rfl
              have hpc := hpc.ext hE25 fun z hz ht e => by obtain ⟨l, hl⟩ := Own.ty hrw e; exact ht.ne hl (by decide) rfl
              have hqn : ∀ z, OwnB p25 z → H z ∨ N ≤ z := fun z hz => (hB25 z hz).imp (hqH z) fun e => by omega
              have hrw : Own w25 p25 (W.pieces ++ [b]).length c25 56 1 (rows ++ [.slice p b.length c]) := by rw [List.length_append]; exact ho25
              dsimp only
              obtain ⟨pn, hpn0⟩ : ∃ pn, pn = p25 := ⟨_, rfl⟩
              obtain ⟨cn, hcn0⟩ : ∃ cn, cn = c25 := ⟨_, rfl⟩
              rw [← hpn0] at hrw hqn ⊢
              rw [← hcn0] at hrw ⊢
              refine wd_k I_ok 2 rfl ?_
              have hlb0 := hlb
              refine wd_l rfl (st_set I_ok hlb rfl rfl (Nat.lt_of_lt_of_eq (by decide : 0 + 3 < 6) rfl) fun w26 hlb hE26 hs26 => ⟨hC.then (hE26.mono fun _ _ e => .inr e), ?_⟩)
              have hX := hX.then (hE26.mono fun z _ e => .inr (by have e : z = x := e; rw [e]; exact hxH))
              have hat2 := hat2.ext hE26 fun z hz e => by have e : z = x := e; subst e; exact hHF2 z hxH hz
              have hrw := hrw.extTy hE26 hlb0 (by decide)
              have hps := hps.ext hE26 fun z _ ht e => by have e : z = x := e; subst e; exact ht.ne hlb0 (by decide) rfl
              have hpc := hpc.ext hE26 fun z _ ht e => by have e : z = x := e; subst e; exact ht.ne hlb0 (by decide) rfl
              have hC := hC.then (hE26.mono fun _ _ e => .inr e)
              refine wd_k I_ok 2 rfl ?_
              rw [show IntKind.i64.wrap ((W.used : Int) + ((pieceB W.turn W.pieces.length b).length : Int)) = ((W.used + sectN b.length : Nat) : Int) from by rw [hpbl, IntWalk.i64_in _ (by omega)]; omega]
              have hlb0 := hlb
              refine wd_l rfl (st_set I_ok hlb rfl rfl (Nat.lt_of_lt_of_eq (by decide : 0 + 4 < 6) rfl) fun w27 hlb hE27 hs27 => ⟨hC.then (hE27.mono fun _ _ e => .inr e), ?_⟩)
              have hX := hX.then (hE27.mono fun z _ e => .inr (by have e : z = x := e; rw [e]; exact hxH))
              have hat2 := hat2.ext hE27 fun z hz e => by have e : z = x := e; subst e; exact hHF2 z hxH hz
              have hrw := hrw.extTy hE27 hlb0 (by decide)
              have hps := hps.ext hE27 fun z _ ht e => by have e : z = x := e; subst e; exact ht.ne hlb0 (by decide) rfl
              have hpc := hpc.ext hE27 fun z _ ht e => by have e : z = x := e; subst e; exact ht.ne hlb0 (by decide) rfl
              have hnw := hat2.lt
              have hhr := fun z (hz : OwnB pn z) => hrw.lt hz
              have hxw := hX.size
              refine wd_sw (wb_nil ?_)
              exact f_cut ({ W with D := y.1, broken := false, pieces := W.pieces ++ [b], used := W.used + sectN b.length }, fun z => (H z ∨ K z) ∨ (N ≤ z ∧ z < w27.heap.size)) rfl ⟨⟨⟨⟨pn, cn, _, by dsimp only; rw [List.length_append]; rw [decide_eq_false (fun e => e hy0)] at hlb; exact hlb, hrw, (PiecesAt.mono hps fun z hz => .inl (.inl hz)).snoc (PieceAt.mono hpc fun z hz => .inl (.inr hz)), fun z hz => (hqn z hz).elim (fun e => .inl (.inl e)) fun e => .inr ⟨e, hhr z hz⟩⟩, .inl (.inl hxH), fun z hz => hz.elim (fun e => e.elim (fun e => Nat.lt_of_lt_of_le (hlt z e) hxw) fun e => Nat.lt_of_lt_of_le (hK z e).2 hxw) fun e => e.2⟩, hat2, fun z hz => hz.imp id fun e => Nat.le_trans hNw e.1, fun z hz e => hz.elim (fun h => h.elim (fun h => hHF2 z h e) fun h => hKF2 z h e) fun h => by have := hF2lt z e; omega, by rw [hy0]; exact append_ok hre hy hy0⟩, hX⟩
          · refine st_ld I_ok rfl (hlb.cell rfl) ⟨hC, ?_⟩
            refine wx_plan [(15, true), (5, false), (8, false), (16, true), (17, true), (18, false), (19, true), (20, true), (21, false)] 0 rfl (by kernel_rfl) (wd_k I_ok 1 rfl (wd_l rfl (st_ld I_ok rfl (hlb.cell rfl) ⟨hC, ?_⟩)))
            have hNs := hC.size
            refine wd_l rfl (st_app I_ok rfl 1 24 rfl rfl rfl (by decide) hrw (Src.slice (m := 1) ⟨rfl, .inr ⟨b72, 0, rfl, hb72.seg⟩⟩ OneC.h) (by dsimp only [maxLen]; omega) (by dsimp only; omega) fun p28 c28 w28 ho28 hE28 hB28 => ⟨hC.then (hE28.mono fun _ _ e => .inl e), ?_⟩)
            have hC := hC.then (hE28.mono fun _ _ e => .inl e)
            have hX := hX.then (hE28.mono fun z _ e => .inr (hqH z e))
            have hlb := hlb.ext hE28 hqx
            have hat2 := hat2.ext hE28 fun z hz e => hHF2 z (hqH z e) hz
            have hps := hps.ext hE28 fun z hz ht e => by obtain ⟨l, hl⟩ := Own.ty hrw e; exact ht.ne hl (by decide) rfl
            have hpc := hpc.ext hE28 fun z hz ht e => by obtain ⟨l, hl⟩ := Own.ty hrw e; exact ht.ne hl (by decide) rfl
            have hqn : ∀ z, OwnB p28 z → H z ∨ N ≤ z := fun z hz => (hB28 z hz).imp (hqH z) fun e => by omega
            have hrw : Own w28 p28 (W.pieces ++ [b]).length c28 56 1 (rows ++ [.slice p b.length c]) := by rw [List.length_append]; exact ho28
            dsimp only
            obtain ⟨pn, hpn0⟩ : ∃ pn, pn = p28 := ⟨_, rfl⟩
            obtain ⟨cn, hcn0⟩ : ∃ cn, cn = c28 := ⟨_, rfl⟩
            rw [← hpn0] at hrw hqn ⊢
            rw [← hcn0] at hrw ⊢
            refine wd_k I_ok 2 rfl ?_
            have hlb0 := hlb
            refine wd_l rfl (st_set I_ok hlb rfl rfl (Nat.lt_of_lt_of_eq (by decide : 0 + 3 < 6) rfl) fun w29 hlb hE29 hs29 => ⟨hC.then (hE29.mono fun _ _ e => .inr e), ?_⟩)
            have hX := hX.then (hE29.mono fun z _ e => .inr (by have e : z = x := e; rw [e]; exact hxH))
            have hat2 := hat2.ext hE29 fun z hz e => by have e : z = x := e; subst e; exact hHF2 z hxH hz
            have hrw := hrw.extTy hE29 hlb0 (by decide)
            have hps := hps.ext hE29 fun z _ ht e => by have e : z = x := e; subst e; exact ht.ne hlb0 (by decide) rfl
            have hpc := hpc.ext hE29 fun z _ ht e => by have e : z = x := e; subst e; exact ht.ne hlb0 (by decide) rfl
            have hC := hC.then (hE29.mono fun _ _ e => .inr e)
            refine wd_k I_ok 2 rfl ?_
            rw [show IntKind.i64.wrap ((W.used : Int) + ((pieceB W.turn W.pieces.length b).length : Int)) = ((W.used + sectN b.length : Nat) : Int) from by rw [hpbl, IntWalk.i64_in _ (by omega)]; omega]
            have hlb0 := hlb
            refine wd_l rfl (st_set I_ok hlb rfl rfl (Nat.lt_of_lt_of_eq (by decide : 0 + 4 < 6) rfl) fun w30 hlb hE30 hs30 => ⟨hC.then (hE30.mono fun _ _ e => .inr e), ?_⟩)
            have hX := hX.then (hE30.mono fun z _ e => .inr (by have e : z = x := e; rw [e]; exact hxH))
            have hat2 := hat2.ext hE30 fun z hz e => by have e : z = x := e; subst e; exact hHF2 z hxH hz
            have hrw := hrw.extTy hE30 hlb0 (by decide)
            have hps := hps.ext hE30 fun z _ ht e => by have e : z = x := e; subst e; exact ht.ne hlb0 (by decide) rfl
            have hpc := hpc.ext hE30 fun z _ ht e => by have e : z = x := e; subst e; exact ht.ne hlb0 (by decide) rfl
            have hnw := hat2.lt
            have hhr := fun z (hz : OwnB pn z) => hrw.lt hz
            have hxw := hX.size
            refine wd_sw (wb_nil ?_)
            exact f_cut ({ W with D := y.1, broken := false, pieces := W.pieces ++ [b], used := W.used + sectN b.length }, fun z => (H z ∨ K z) ∨ (N ≤ z ∧ z < w30.heap.size)) rfl ⟨⟨⟨⟨pn, cn, _, by dsimp only; rw [List.length_append]; rw [decide_eq_false (fun e => e hy0)] at hlb; exact hlb, hrw, (PiecesAt.mono hps fun z hz => .inl (.inl hz)).snoc (PieceAt.mono hpc fun z hz => .inl (.inr hz)), fun z hz => (hqn z hz).elim (fun e => .inl (.inl e)) fun e => .inr ⟨e, hhr z hz⟩⟩, .inl (.inl hxH), fun z hz => hz.elim (fun e => e.elim (fun e => Nat.lt_of_lt_of_le (hlt z e) hxw) fun e => Nat.lt_of_lt_of_le (hK z e).2 hxw) fun e => e.2⟩, hat2, fun z hz => hz.imp id fun e => Nat.le_trans hNw e.1, fun z hz e => hz.elim (fun h => h.elim (fun h => hHF2 z h e) fun h => hKF2 z h e) fun h => by have := hF2lt z e; omega, by rw [hy0]; exact append_ok hre hy hy0⟩, hX⟩
        · refine st_ld I_ok rfl (hlb.cell rfl) ⟨hC, ?_⟩
          refine wx_plan [(15, true)] 9 rfl (by kernel_rfl) (wd_k I_ok 1 rfl (wd_tail rfl (wx_alt [5, 7] rfl (by kernel_rfl) ⟨⟨_, rfl, ?_⟩, ⟨_, rfl, ?_⟩, trivial⟩)))
          · refine st_ld I_ok rfl (hlb.cell rfl) ⟨hC, ?_⟩
            refine wx_plan [(7, false), (8, false), (16, true), (17, true), (18, false), (19, true), (20, true), (21, false)] 0 rfl (by kernel_rfl) ?_
            refine wd_l rfl (st_bs I_ok rfl 1 rfl rfl rfl (by decide) (by decide) (by simp [partsOk]) (l' := [.slice p b.length c]) rfl fun b72 w31 hn72 hb72 hE31 hs31 => ⟨hC.thenNo hE31, ?_⟩)
            have fr72 := Nat.le_trans hX.size hn72
            have frhC72 := Nat.le_trans hC.size hn72
            have hlb := hlb.extNo hE31
            have hrw := hrw.ext hE31 fun _ _ => id
            have hps := hps.ext hE31 fun _ _ _ => id
            have hpc := hpc.ext hE31 fun _ _ _ => id
            have hat2 := hat2.extNo hE31
            have hX := hX.thenNo hE31
            have hC := hC.thenNo hE31
            have hNs := hC.size
            refine wd_l rfl (st_app I_ok rfl 1 24 rfl rfl rfl (by decide) hrw (Src.slice (m := 1) ⟨rfl, .inr ⟨b72, 0, rfl, hb72.seg⟩⟩ OneC.h) (by dsimp only [maxLen]; omega) (by dsimp only; omega) fun p32 c32 w32 ho32 hE32 hB32 => ⟨hC.then (hE32.mono fun _ _ e => .inl e), ?_⟩)
            have hC := hC.then (hE32.mono fun _ _ e => .inl e)
            have hX := hX.then (hE32.mono fun z _ e => .inr (hqH z e))
            have hlb := hlb.ext hE32 hqx
            have hat2 := hat2.ext hE32 fun z hz e => hHF2 z (hqH z e) hz
            have hps := hps.ext hE32 fun z hz ht e => by obtain ⟨l, hl⟩ := Own.ty hrw e; exact ht.ne hl (by decide) rfl
            have hpc := hpc.ext hE32 fun z hz ht e => by obtain ⟨l, hl⟩ := Own.ty hrw e; exact ht.ne hl (by decide) rfl
            have hqn : ∀ z, OwnB p32 z → H z ∨ N ≤ z := fun z hz => (hB32 z hz).imp (hqH z) fun e => by omega
            have hrw : Own w32 p32 (W.pieces ++ [b]).length c32 56 1 (rows ++ [.slice p b.length c]) := by rw [List.length_append]; exact ho32
            dsimp only
            obtain ⟨pn, hpn0⟩ : ∃ pn, pn = p32 := ⟨_, rfl⟩
            obtain ⟨cn, hcn0⟩ : ∃ cn, cn = c32 := ⟨_, rfl⟩
            rw [← hpn0] at hrw hqn ⊢
            rw [← hcn0] at hrw ⊢
            refine wd_k I_ok 2 rfl ?_
            have hlb0 := hlb
            refine wd_l rfl (st_set I_ok hlb rfl rfl (Nat.lt_of_lt_of_eq (by decide : 0 + 3 < 6) rfl) fun w33 hlb hE33 hs33 => ⟨hC.then (hE33.mono fun _ _ e => .inr e), ?_⟩)
            have hX := hX.then (hE33.mono fun z _ e => .inr (by have e : z = x := e; rw [e]; exact hxH))
            have hat2 := hat2.ext hE33 fun z hz e => by have e : z = x := e; subst e; exact hHF2 z hxH hz
            have hrw := hrw.extTy hE33 hlb0 (by decide)
            have hps := hps.ext hE33 fun z _ ht e => by have e : z = x := e; subst e; exact ht.ne hlb0 (by decide) rfl
            have hpc := hpc.ext hE33 fun z _ ht e => by have e : z = x := e; subst e; exact ht.ne hlb0 (by decide) rfl
            have hC := hC.then (hE33.mono fun _ _ e => .inr e)
            refine wd_k I_ok 2 rfl ?_
            rw [show IntKind.i64.wrap ((W.used : Int) + ((pieceB W.turn W.pieces.length b).length : Int)) = ((W.used + sectN b.length : Nat) : Int) from by rw [hpbl, IntWalk.i64_in _ (by omega)]; omega]
            have hlb0 := hlb
            refine wd_l rfl (st_set I_ok hlb rfl rfl (Nat.lt_of_lt_of_eq (by decide : 0 + 4 < 6) rfl) fun w34 hlb hE34 hs34 => ⟨hC.then (hE34.mono fun _ _ e => .inr e), ?_⟩)
            have hX := hX.then (hE34.mono fun z _ e => .inr (by have e : z = x := e; rw [e]; exact hxH))
            have hat2 := hat2.ext hE34 fun z hz e => by have e : z = x := e; subst e; exact hHF2 z hxH hz
            have hrw := hrw.extTy hE34 hlb0 (by decide)
            have hps := hps.ext hE34 fun z _ ht e => by have e : z = x := e; subst e; exact ht.ne hlb0 (by decide) rfl
            have hpc := hpc.ext hE34 fun z _ ht e => by have e : z = x := e; subst e; exact ht.ne hlb0 (by decide) rfl
            have hnw := hat2.lt
            have hhr := fun z (hz : OwnB pn z) => hrw.lt hz
            have hxw := hX.size
            refine wd_sw (wb_nil ?_)
            exact f_cut ({ W with D := y.1, broken := false, pieces := W.pieces ++ [b], used := W.used + sectN b.length }, fun z => (H z ∨ K z) ∨ (N ≤ z ∧ z < w34.heap.size)) rfl ⟨⟨⟨⟨pn, cn, _, by dsimp only; rw [List.length_append]; rw [decide_eq_false (fun e => e hy0)] at hlb; exact hlb, hrw, (PiecesAt.mono hps fun z hz => .inl (.inl hz)).snoc (PieceAt.mono hpc fun z hz => .inl (.inr hz)), fun z hz => (hqn z hz).elim (fun e => .inl (.inl e)) fun e => .inr ⟨e, hhr z hz⟩⟩, .inl (.inl hxH), fun z hz => hz.elim (fun e => e.elim (fun e => Nat.lt_of_lt_of_le (hlt z e) hxw) fun e => Nat.lt_of_lt_of_le (hK z e).2 hxw) fun e => e.2⟩, hat2, fun z hz => hz.imp id fun e => Nat.le_trans hNw e.1, fun z hz e => hz.elim (fun h => h.elim (fun h => hHF2 z h e) fun h => hKF2 z h e) fun h => by have := hF2lt z e; omega, by rw [hy0]; exact append_ok hre hy hy0⟩, hX⟩
          · refine st_bs I_ok rfl 1 rfl rfl rfl (by decide) (by decide) (by simp [partsOk]) (l' := [.slice p b.length c]) rfl fun b72 w35 hn72 hb72 hE35 hs35 => ⟨hC.thenNo hE35, ?_⟩
            have fr72 := Nat.le_trans hX.size hn72
            have frhC72 := Nat.le_trans hC.size hn72
            have hlb := hlb.extNo hE35
            have hrw := hrw.ext hE35 fun _ _ => id
            have hps := hps.ext hE35 fun _ _ _ => id
            have hpc := hpc.ext hE35 fun _ _ _ => id
            have hat2 := hat2.extNo hE35
            have hX := hX.thenNo hE35
            have hC := hC.thenNo hE35
            refine wx_plan [(5, false), (8, false), (16, true), (17, true), (18, false), (19, true), (20, true), (21, false)] 0 rfl (by kernel_rfl) (wd_l rfl (st_ld I_ok rfl (hlb.cell rfl) ⟨hC, ?_⟩))
            have hNs := hC.size
            refine wd_l rfl (st_app I_ok rfl 1 24 rfl rfl rfl (by decide) hrw (Src.slice (m := 1) ⟨rfl, .inr ⟨b72, 0, rfl, hb72.seg⟩⟩ OneC.h) (by dsimp only [maxLen]; omega) (by dsimp only; omega) fun p36 c36 w36 ho36 hE36 hB36 => ⟨hC.then (hE36.mono fun _ _ e => .inl e), ?_⟩)
            have hC := hC.then (hE36.mono fun _ _ e => .inl e)
            have hX := hX.then (hE36.mono fun z _ e => .inr (hqH z e))
            have hlb := hlb.ext hE36 hqx
            have hat2 := hat2.ext hE36 fun z hz e => hHF2 z (hqH z e) hz
            have hps := hps.ext hE36 fun z hz ht e => by obtain ⟨l, hl⟩ := Own.ty hrw e; exact ht.ne hl (by decide) rfl
            have hpc := hpc.ext hE36 fun z hz ht e => by obtain ⟨l, hl⟩ := Own.ty hrw e; exact ht.ne hl (by decide) rfl
            have hqn : ∀ z, OwnB p36 z → H z ∨ N ≤ z := fun z hz => (hB36 z hz).imp (hqH z) fun e => by omega
            have hrw : Own w36 p36 (W.pieces ++ [b]).length c36 56 1 (rows ++ [.slice p b.length c]) := by rw [List.length_append]; exact ho36
            dsimp only
            obtain ⟨pn, hpn0⟩ : ∃ pn, pn = p36 := ⟨_, rfl⟩
            obtain ⟨cn, hcn0⟩ : ∃ cn, cn = c36 := ⟨_, rfl⟩
            rw [← hpn0] at hrw hqn ⊢
            rw [← hcn0] at hrw ⊢
            refine wd_k I_ok 2 rfl ?_
            have hlb0 := hlb
            refine wd_l rfl (st_set I_ok hlb rfl rfl (Nat.lt_of_lt_of_eq (by decide : 0 + 3 < 6) rfl) fun w37 hlb hE37 hs37 => ⟨hC.then (hE37.mono fun _ _ e => .inr e), ?_⟩)
            have hX := hX.then (hE37.mono fun z _ e => .inr (by have e : z = x := e; rw [e]; exact hxH))
            have hat2 := hat2.ext hE37 fun z hz e => by have e : z = x := e; subst e; exact hHF2 z hxH hz
            have hrw := hrw.extTy hE37 hlb0 (by decide)
            have hps := hps.ext hE37 fun z _ ht e => by have e : z = x := e; subst e; exact ht.ne hlb0 (by decide) rfl
            have hpc := hpc.ext hE37 fun z _ ht e => by have e : z = x := e; subst e; exact ht.ne hlb0 (by decide) rfl
            have hC := hC.then (hE37.mono fun _ _ e => .inr e)
            refine wd_k I_ok 2 rfl ?_
            rw [show IntKind.i64.wrap ((W.used : Int) + ((pieceB W.turn W.pieces.length b).length : Int)) = ((W.used + sectN b.length : Nat) : Int) from by rw [hpbl, IntWalk.i64_in _ (by omega)]; omega]
            have hlb0 := hlb
            refine wd_l rfl (st_set I_ok hlb rfl rfl (Nat.lt_of_lt_of_eq (by decide : 0 + 4 < 6) rfl) fun w38 hlb hE38 hs38 => ⟨hC.then (hE38.mono fun _ _ e => .inr e), ?_⟩)
            have hX := hX.then (hE38.mono fun z _ e => .inr (by have e : z = x := e; rw [e]; exact hxH))
            have hat2 := hat2.ext hE38 fun z hz e => by have e : z = x := e; subst e; exact hHF2 z hxH hz
            have hrw := hrw.extTy hE38 hlb0 (by decide)
            have hps := hps.ext hE38 fun z _ ht e => by have e : z = x := e; subst e; exact ht.ne hlb0 (by decide) rfl
            have hpc := hpc.ext hE38 fun z _ ht e => by have e : z = x := e; subst e; exact ht.ne hlb0 (by decide) rfl
            have hnw := hat2.lt
            have hhr := fun z (hz : OwnB pn z) => hrw.lt hz
            have hxw := hX.size
            refine wd_sw (wb_nil ?_)
            exact f_cut ({ W with D := y.1, broken := false, pieces := W.pieces ++ [b], used := W.used + sectN b.length }, fun z => (H z ∨ K z) ∨ (N ≤ z ∧ z < w38.heap.size)) rfl ⟨⟨⟨⟨pn, cn, _, by dsimp only; rw [List.length_append]; rw [decide_eq_false (fun e => e hy0)] at hlb; exact hlb, hrw, (PiecesAt.mono hps fun z hz => .inl (.inl hz)).snoc (PieceAt.mono hpc fun z hz => .inl (.inr hz)), fun z hz => (hqn z hz).elim (fun e => .inl (.inl e)) fun e => .inr ⟨e, hhr z hz⟩⟩, .inl (.inl hxH), fun z hz => hz.elim (fun e => e.elim (fun e => Nat.lt_of_lt_of_le (hlt z e) hxw) fun e => Nat.lt_of_lt_of_le (hK z e).2 hxw) fun e => e.2⟩, hat2, fun z hz => hz.imp id fun e => Nat.le_trans hNw e.1, fun z hz e => hz.elim (fun h => h.elim (fun h => hHF2 z h e) fun h => hKF2 z h e) fun h => by have := hF2lt z e; omega, by rw [hy0]; exact append_ok hre hy hy0⟩, hX⟩
      · have hy0 : y.2 ≠ 0 := by simpa using hc
        refine c_skip ?_
        exact f_cut ({ W with D := y.1, broken := true }, H) rfl ⟨⟨⟨⟨q, cq, rows, by rw [decide_eq_true hy0] at hlb; exact hlb, hrw, hps, hqH⟩, hxH, fun z hz => Nat.lt_of_lt_of_le (hlt z hz) hX.size⟩, hat2, fun z hz => .inl (.inl hz), hHF2, append_bad hre hy hy0⟩, hX⟩
    rintro ⟨V, G⟩ w39 ⟨⟨hlog3, hat3, hGs, hGF, hap⟩, hX⟩
    refine c_seq (c_region (wl_p I_ok rfl (wl_nil (f_then (c_ret (f_ret1 rfl rfl ?_))))))
    rw [hap]
    exact ⟨rfl, F2, G, hat3, hlog3, hFs, hGs, hGF, hX⟩
end Go.Proofs.YtlfdlodcjiaiiaaGreatDoor
namespace Go.Proofs.YtlfdlodcjiaiiaaGreatDoor
open Go.Vc
/-- a book, and its disk's blocks apart from its own -/
def BookOf (w0 w' : World) (d : Nat) (F' : Nat → Prop) (xo : Option Addr) (W : Wl) : Prop := ∃ x H, xo = some ⟨x, 0, none⟩ ∧ BookAt w' x d H W ∧ ∀ y, H y → w0.heap.size ≤ y ∧ ¬ F' y
theorem flat_reps (n : Nat) : (List.replicate n zeros).flatMap bytesU = rep n (bytesU zeros) := by
  unfold rep
  rw [List.flatMap_def, List.map_replicate]
theorem bookFormat_calls (w : World) {d m : Nat} {F : Nat → Prop} {D : Dsk} (h : At w d F D) (hok : D.Ok m) (hm : m + 7000 < 1000000000) (area : Int) (har : -9223372036854775808 ≤ area ∧ area < 9223372036854775808) :
    CallsV Tryz.prog 25 [.pointer (some ⟨d, 0, none⟩), .int .i64 area] w fun v w' => ∃ (xo : Option Addr) (F' : Nat → Prop), v = .tuple #[.pointer xo, .int .i64 (formatW D area).2] ∧ At w' d F' (formatW D area).1 ∧ Ext F w w' ∧ (∀ y, F' y → F y ∨ w.heap.size ≤ y) ∧ ((formatW D area).2 = 0 → BookOf w w' d F' xo (Wl.fresh (formatW D area).1 area.toNat)) := by
  refine calls_enter Tryz.func25 rfl rfl rfl rfl ?_
  have hX := Ext.refl F w
  have hFlt := h.lt
  have hsz := hok.size
  refine c_seq (c_region (wl_p I_ok rfl (wl_nil (f_then (c_seq (c_seq (c_region (wl_p I_ok rfl (wl (st_call Tryz.call61 rfl rfl rfl rfl rfl rfl ((dk_len w (h.extNo (Ext.refl _ _))).same) fun v1 w1 hr1 => ?_))))))))))
  obtain ⟨rfl, hE1⟩ := hr1
  have h := h.extNo hE1
  have hX := hX.thenNo hE1
  refine wl (st_call Tryz.call60 rfl rfl rfl rfl rfl rfl (refFits_calls w1 area D.secs.length (by omega)) fun v2 w2 hr2 => ?_)
  obtain ⟨rfl, hE2⟩ := hr2
  have h := h.extNo hE2
  have hX := hX.thenNo hE2
  refine wl_p I_ok rfl (wl_nil (f_then (c_cond rfl (fun hc => ?_) (fun hc => ?_))))
  · have hfit : ¬ (0 ≤ area ∧ FitsB area.toNat D.secs.length) := fun h => by rw [decide_eq_true h] at hc; cases hc
    have he := formatW_no hfit
    rw [he]
    refine c_seq (c_region (wl_p I_ok rfl (wl_nil (f_then (c_ret (f_thenR (f_ret [_, _] ⟨rfl, rfl, trivial⟩ ?_)))))))
    exact ⟨none, F, rfl, h, hX, fun y hy => .inl hy, fun e => absurd (show (2 : Int) = 0 from e) (by decide)⟩
  · have hfit : 0 ≤ area ∧ FitsB area.toNat D.secs.length := by simpa using hc
    obtain ⟨a, rfl⟩ : ∃ a : Nat, area = (a : Int) := ⟨area.toNat, by omega⟩
    rw [Int.toNat_natCast] at hfit
    have hfit := hfit.2
    have ha4 := hfit.1
    have ha1 := hfit.2.1
    have hW := formatW_yes hfit
    rw [Int.toNat_natCast]
    obtain ⟨y, hy⟩ : ∃ y, y = layD D 0 (List.replicate (2 + 2 * a) zeros) := ⟨_, rfl⟩
    have hyo := layD_ok (List.replicate (2 + 2 * a) zeros) 0 hok (zeros_rep _)
    rw [List.length_replicate, ← hy] at hyo
    rw [← hy] at hW
    refine c_skip (f_then (c_seq (c_region (wl_p I_ok rfl (wl (st_bs I_ok rfl 1 rfl rfl rfl (by decide) (by decide) (by simp [partsOk]) (l' := []) rfl fun b15 w3 hn15 hb15 hE3 hs3 => ?_))))))
    have fr15 := Nat.le_trans hX.size hn15
    have h := h.extNo hE3
    have hX := hX.thenNo hE3
    refine wl (st_bs I_ok rfl 1 rfl rfl rfl (by decide) (by decide) (by simp [partsOk]) (l' := [.slice (some ⟨b15, 0, none⟩) 0 0]) rfl fun b16 w4 hn16 hb16 hE4 hs4 => ?_)
    have ne15_16 : b15 ≠ b16 := Nat.ne_of_lt (Nat.lt_of_lt_of_le hb15.lt hn16)
    have fr16 := Nat.le_trans hX.size hn16
    have hb15 := hb15.extNo hE4
    have h := h.extNo hE4
    have hX := hX.thenNo hE4
    refine wl (st_bd I_ok rfl ⟨⟨rfl, by decide⟩, ⟨rfl, by decide⟩, ⟨rfl, by decide⟩, ⟨rfl, by decide⟩, trivial⟩ (l' := [.pointer (some ⟨d, 0, none⟩), .int .i64 (a : Int), .int .u32 0, .slice (some ⟨b16, 0, none⟩) 1 1, .int .i64 1, .bool false]) rfl ?_)
    refine wl (st_al I_ok rfl fun b18 w5 hn18 hb18 hE5 => ?_)
    have ne15_18 : b15 ≠ b18 := Nat.ne_of_lt (Nat.lt_of_lt_of_le hb15.lt hn18)
    have ne16_18 : b16 ≠ b18 := Nat.ne_of_lt (Nat.lt_of_lt_of_le hb16.lt hn18)
    have fr18 := Nat.le_trans hX.size hn18
    have hb15 := hb15.extNo hE5
    have hb16 := hb16.extNo hE5
    have h := h.extNo hE5
    have hX := hX.thenNo hE5
    have hb18 : Blk w5 b18 112 ([.pointer (some ⟨d, 0, none⟩), .int .i64 (a : Int), .int .u32 0, .slice (some ⟨b16, 0, none⟩) 1 1, .int .i64 1, .bool false]) := hb18
    refine wl_p I_ok rfl (wl_nil (f_then (c_seq (c_region (wl_p I_ok rfl ?_)))))
    rw [show IntKind.i64.wrap (2 + IntKind.i64.wrap (2 * (a : Int))) = ((2 + 2 * a : Nat) : Int) from by rw [IntWalk.i64_in (2 * (a : Int)) (by omega), IntWalk.i64_in _ (by omega)]; omega]
    refine wl (st_mk I_ok rfl (2 + 2 * a) (2 + 2 * a) 64 rfl (zs := bytesU zeros) z29 rfl (by decide) rfl rfl (Nat.le_refl _) (by omega) (by unfold maxLen; omega) fun b23 w6 hn23 hb23 hE6 hs6 => ?_)
    have ne15_23 : b15 ≠ b23 := Nat.ne_of_lt (Nat.lt_of_lt_of_le hb15.lt hn23)
    have ne16_23 : b16 ≠ b23 := Nat.ne_of_lt (Nat.lt_of_lt_of_le hb16.lt hn23)
    have ne18_23 : b18 ≠ b23 := Nat.ne_of_lt (Nat.lt_of_lt_of_le hb18.lt hn23)
    have fr23 := Nat.le_trans hX.size hn23
    have hb15 := hb15.extNo hE6
    have hb16 := hb16.extNo hE6
    have hb18 := hb18.extNo hE6
    have h := h.extNo hE6
    have hX := hX.thenNo hE6
    have hb23 : Blk w6 b23 37 ((List.replicate (2 + 2 * a) zeros).flatMap bytesU) := by (rw [flat_reps]; exact hb23)
    rw [show Value.slice (some ⟨b23, 0, none⟩) (2 + 2 * a) (2 + 2 * a) = .slice (some ⟨b23, 0, none⟩) (List.replicate (2 + 2 * a) zeros).length (2 + 2 * a) from by rw [List.length_replicate]]
    have hX1 := hX.size
    have l18 := hb18.lt
    have l16 := hb16.lt
    have l15 := hb15.lt
    refine wl (st_call Tryz.call62 rfl rfl rfl rfl rfl rfl (lay_calls w6 h hok (by rw [List.length_replicate]; omega) 0 (by decide) (zeros_rep _) (by simp) ⟨by rw [List.length_replicate, flat_bytes_len (zeros_rep _), List.length_replicate], .inr ⟨b23, 0, rfl, hb23.seg⟩⟩ (fun y off e hF => by cases e; have := hFlt _ hF; omega)) fun v7 w7 hr7 => ?_)
    obtain ⟨rfl, F2, h2, hE7, hF2⟩ := hr7
    have nF : ∀ z, w.heap.size ≤ z → ¬ F z := fun z hz e => by have := hFlt z e; omega
    have hX := hX.then hE7
    have hb15 := hb15.ext hE7 (nF _ fr15)
    have hb16 := hb16.ext hE7 (nF _ fr16)
    have hb18 := hb18.ext hE7 (nF _ fr18)
    have hb23 := hb23.ext hE7 (nF _ fr23)
    rw [← hy] at h2 ⊢
    have n15 : ¬ F2 b15 := fun e => (hF2 _ e).elim (nF _ fr15) fun e => by omega
    have n16 : ¬ F2 b16 := fun e => (hF2 _ e).elim (nF _ fr16) fun e => by omega
    have n18 : ¬ F2 b18 := fun e => (hF2 _ e).elim (nF _ fr18) fun e => by omega
    have hF2 := grow_sub (fun x => .inl) hX1 hF2
    obtain ⟨H, hH⟩ : ∃ H : Nat → Prop, H = fun z => z = b15 ∨ z = b16 ∨ z = b18 := ⟨_, rfl⟩
    have ho15 := Own.blk (n := 0) (c := 0) hb15 1 rfl (Nat.le_refl _) (by decide)
    have hbk : BookAt w7 b18 d H (Wl.fresh D a) := ⟨⟨some ⟨b16, 0, none⟩, 1, [.slice (some ⟨b15, 0, none⟩) 0 0], hb18, Own.blk (n := 1) (c := 1) hb16 1 rfl (Nat.le_refl _) (by decide), PiecesAt.snoc (ps := []) (rows := []) ⟨rfl, fun i b v h => by cases h⟩ (PieceAt.ofOwn (b := []) ho15 fun z hz => by rw [hH]; exact .inl (own1 hz)), fun z hz => by rw [hH]; exact .inr (.inl (own1 hz))⟩, by rw [hH]; exact .inr (.inr rfl), fun z hz => by rw [hH] at hz; rcases hz with rfl | rfl | rfl; exact hb15.lt; exact hb16.lt; exact hb18.lt⟩
    have hHF2 : ∀ z, H z → ¬ F2 z := fun z hz => by rw [hH] at hz; rcases hz with rfl | rfl | rfl; exact n15; exact n16; exact n18
    have hHw : ∀ z, H z → w.heap.size ≤ z := fun z hz => by rw [hH] at hz; rcases hz with rfl | rfl | rfl; exact fr15; exact fr16; exact fr18
    refine wl_p I_ok rfl (wl_nil (f_then ?_))
    refine c_cutK (α := (Nat → Prop) × Dsk × Int) [6] rfl (fun z => [(7, .int .i64 z.2.2)]) (fun z u => ((z.2.1, z.2.2) = formatW D (a : Int) ∧ At u d z.1 z.2.1 ∧ (∀ x, z.1 x → F x ∨ w.heap.size ≤ x) ∧ BookAt u b18 d H (Wl.fresh D a) ∧ (∀ y, H y → ¬ z.1 y)) ∧ Ext F w u) ?_ ?_
    · refine c_seq ?_
      refine c_region (wl_p I_ok rfl (wl_nil (f_then (c_if rfl (fun hc => ?_) (fun hc => ?_)))))
      · refine c_region ?_
        refine wl_p I_ok rfl ?_
        have hX2 := hX.size
        have hbl := hbk.lt
        refine wl (st_call Tryz.call63 rfl rfl rfl rfl rfl rfl (bookBegin_calls w7 (t := 0) (b := []) (c := 0) (p := none) hbk h2 hyo (by omega) (by show a < 1000000; omega) (by decide) (Sl.nil _ _ _) (by decide) n18) fun v8 w8 hr8 => ?_)
        obtain ⟨rfl, F4, h4, hE8, hF4s⟩ := hr8
        have hX := hX.trans hE8 fun x hx e => (hF2 x e).resolve_right (by omega)
        have hbk := hbk.ext hE8 hHF2
        have hHF4 : ∀ z, H z → ¬ F4 z := fun z hz e => (hF4s z e).elim (hHF2 z hz) fun e => by have := hbl z hz; omega
        have hF4s := grow_sub hF2 hX2 hF4s
        refine wl_p I_ok rfl (wl_nil ?_)
        exact f_cut (F4, (beginD y.1 0 a []).1, (beginD y.1 0 a []).2) rfl ⟨⟨by rw [hW, if_neg (fun h => h hc)], h4, hF4s, hbk, hHF4⟩, hX⟩
      · refine c_skip ?_
        exact f_cut (F2, y.1, y.2) rfl ⟨⟨by rw [hW, if_pos hc], h2, hF2, hbk, hHF2⟩, hX⟩
    rintro ⟨G, D1, e⟩ w9 ⟨⟨hfw, hA, hG, hbk, hHG⟩, hX⟩
    refine c_seq (c_region (wl_p I_ok rfl (wl_nil (f_then (c_ret (f_ret [_, _] ⟨rfl, rfl, trivial⟩ ?_))))))
    rw [← hfw]
    exact ⟨_, G, rfl, hA, hX, hG, fun _ => ⟨b18, H, rfl, hbk.data rfl rfl rfl rfl rfl, fun y hy => ⟨hHw y hy, hHG y hy⟩⟩⟩
end Go.Proofs.YtlfdlodcjiaiiaaGreatDoor
namespace Go.Proofs.YtlfdlodcjiaiiaaGreatDoor
open Go.Vc
abbrev boolsT (l : List Bool) : List Value := l.map Value.bool
theorem tw_read {D : Dsk} (h1 : D.dead = false) (h2 : D.fault = -1) {i : Nat} (hi : i < D.secs.length) : D.read (i : Int) = ({ D with done := D.done + 1 }, D.now i, 0) := by
  have e : D.begin (i : Int) false = ({ D with done := D.done + 1 }, 0) := by
    unfold Dsk.begin
    rw [if_neg (by rw [h1]; decide), if_neg (by omega), if_neg (by rw [h2]; decide), if_neg (by simp)]
    have e1 : faultTo D.fault = D.fault := by rw [h2]; rfl
    have e2 : fuseTo false D.fuse = D.fuse := by simp [fuseTo]
    rw [e1, e2]
  unfold Dsk.read
  dsimp only
  rw [e, Int.toNat_natCast]
  rfl
theorem fill_step {K j : Nat} (h : j < K) : (boolsT (List.replicate j true ++ List.replicate (K - j) false)).set j (Value.bool true) = boolsT (List.replicate (j + 1) true ++ List.replicate (K - (j + 1)) false) := by
  unfold boolsT
  rw [List.map_append, List.map_append, List.map_replicate, List.map_replicate, List.map_replicate, List.map_replicate]
  apply List.ext_getElem
  · simp; omega
  · intro i h1 h2
    rw [List.getElem_set]
    by_cases e : j = i
    · subst e
      simp [List.getElem_replicate]
    · rw [if_neg e]
      simp only [List.getElem_append, List.length_replicate, List.getElem_replicate]
      by_cases h3 : i < j
      · rw [dif_pos h3, dif_pos (by omega)]
      · rw [dif_neg h3, dif_neg (by omega)]
theorem twins_calls (w : World) {d1 d2 m : Nat} {F1 F2 : Nat → Prop} {D : Dsk} (h1 : At w d1 F1 D) (h2 : At w d2 F2 D) (hok : D.Ok m) (hm : m + 5000 < 1000000000) :
    CallsV Tryz.prog 35 [.pointer (some ⟨d1, 0, none⟩), .pointer (some ⟨d2, 0, none⟩)] w fun v w' => v = .bool true ∧ Ext No w w' := by
  refine calls_enter Tryz.func35 rfl rfl rfl rfl ?_
  have hX := Ext.refl No w
  have hA1 := h1
  have hA2 := h2
  have hF1 := h1.lt
  have hF2 := h2.lt
  have hfew := hok.few
  have hsize := hok.size
  refine c_seq (c_region (wl_p I_ok rfl (wl_nil (f_then (c_seq (c_cutK (α := Bool) [0, 1] rfl (fun z => [(35, .bool z)]) (fun z u => (z = false ∧ At u d1 F1 D ∧ At u d2 F2 D) ∧ Ext No w u) ?_ ?_))))))
  · refine c_region ?_
    refine wl_p I_ok rfl (wl (st_call Tryz.call75 rfl rfl rfl rfl rfl rfl (dk_ops w hA1) fun v1 w1 hr1 => ?_))
    obtain ⟨rfl, rfl⟩ := hr1
    refine wl_p I_ok rfl (wl (st_call Tryz.call75 rfl rfl rfl rfl rfl rfl (dk_ops w1 hA2) fun v2 w2 hr2 => ?_))
    obtain ⟨rfl, rfl⟩ := hr2
    refine wl_p I_ok rfl (wl_caseD 20 rfl (fun hg => ?_) (fun hg => ?_))
    · exact absurd rfl hg
    · refine wl_pk I_ok 1 rfl ?_
      refine wl (st_call Tryz.call76 rfl rfl rfl rfl rfl rfl (dk_dead w2 hA1) fun v3 w3 hr3 => ?_)
      obtain ⟨rfl, rfl⟩ := hr3
      refine wl_pk I_ok 1 rfl (wl (st_call Tryz.call76 rfl rfl rfl rfl rfl rfl (dk_dead w3 hA2) fun v4 w4 hr4 => ?_))
      obtain ⟨rfl, rfl⟩ := hr4
      refine wl_pk I_ok 3 rfl (wl_case 27 rfl (fun hg => ?_) (fun hg => ?_))
      · simp at hg
      · refine wl_pk I_ok 1 rfl ?_
        refine wl (st_call Tryz.call77 rfl rfl rfl rfl rfl rfl (dk_pending w4 hA1 hok (by omega)) fun v5 w5 hr5 => ?_)
        obtain ⟨b1, rfl, _, _, hE5⟩ := hr5
        have hA1 := hA1.extNo hE5
        have hA2 := hA2.extNo hE5
        have hX := hX.thenNo hE5
        refine wl_pk I_ok 2 rfl (wl (st_call Tryz.call77 rfl rfl rfl rfl rfl rfl (dk_pending w5 hA2 hok (by omega)) fun v6 w6 hr6 => ?_))
        obtain ⟨b2, rfl, _, _, hE6⟩ := hr6
        have hA1 := hA1.extNo hE6
        have hA2 := hA2.extNo hE6
        have hX := hX.thenNo hE6
        refine wl_pk I_ok 3 rfl (wl_nil ?_)
        exact f_cut (decide ((D.order.length : Int) ≠ (D.order.length : Int))) rfl ⟨⟨by simp, hA1, hA2⟩, hX⟩
  rintro z w7 ⟨⟨rfl, hA1, hA2⟩, hX⟩
  refine c_condF rfl (c_skip (f_then (c_seq (c_seq (c_region (wl_p I_ok rfl (wl_nil (f_then (c_block ?_)))))))))
  refine c_loopK (α := Nat) [0, 1] rfl (fun z => [(36, .int .i64 (z : Int))]) (fun z u => (z ≤ 2 ∧ At u d1 F1 D ∧ At u d2 F2 D) ∧ Ext No w u) (fun z u => 2 - z) (0) rfl ⟨⟨by decide, hA1, hA2⟩, hX⟩ ?_
  rintro k w8 ⟨⟨hk2, hA1, hA2⟩, hX⟩
  refine c_seq (c_region (wl_p I_ok rfl (wl_nil (f_then (c_seq (c_if rfl (fun hc => ?_) (fun hc => ?_)))))))
  · have hkl : k < 2 := by omega
    refine c_skip (f_then (c_seq (c_block (c_seq (c_region (wl_p I_ok rfl (wl_nil (f_then (c_seq (c_region (wl_p I_ok rfl ?_)))))))))))
    have hX6 := hX.size
    obtain ⟨wa, hwa⟩ : ∃ u, u = w8 := ⟨_, rfl⟩
    refine wl (st_call Tryz.call78 rfl rfl rfl rfl rfl rfl (dk_copy w8 hA1 hok (by omega)) fun v9 w9 hr9 => ?_)
    obtain ⟨c1, rfl, hc1n, hcA, hE9⟩ := hr9
    have hA1 := hA1.extNo hE9
    have hA2 := hA2.extNo hE9
    have hX := hX.thenNo hE9
    have hwb := hE9.size
    generalize hFC1 : Grow _ _ _ = FC1 at hcA
    have hc1l : ∀ y, FC1 y → w.heap.size ≤ y ∧ y < w9.heap.size := fun y hy => by rw [← hFC1] at hy; exact hy.elim (fun e => e.elim) fun e => ⟨by omega, e.2⟩
    obtain ⟨nb1, hnb1⟩ : ∃ n, n = w9.heap.size := ⟨_, rfl⟩
    rw [← hnb1] at hc1l
    refine wl_p I_ok rfl ?_
    have hX7 := hX.size
    have hnb1s : nb1 = w9.heap.size := hnb1
    refine wl (st_call Tryz.call78 rfl rfl rfl rfl rfl rfl (dk_copy w9 hA2 hok (by omega)) fun v10 w10 hr10 => ?_)
    obtain ⟨c2, rfl, hc2n, hcB, hE10⟩ := hr10
    have hA1 := hA1.extNo hE10
    have hA2 := hA2.extNo hE10
    have hcA := hcA.extNo hE10
    have hX := hX.thenNo hE10
    generalize hFC2 : Grow _ _ _ = FC2 at hcB
    have hc2l : ∀ y, FC2 y → nb1 ≤ y := fun y hy => by rw [← hFC2] at hy; exact hy.elim (fun e => e.elim) fun e => by omega
    have hcl : ∀ y, FC1 y ∨ FC2 y → w.heap.size ≤ y := fun y hy => hy.elim (fun e => (hc1l y e).1) fun e => by have := hc2l y e; omega
    have hdj : ∀ y, FC1 y → ¬ FC2 y := fun y h1 h2 => by have := (hc1l y h1).2; have := hc2l y h2; omega
    refine wl_p I_ok rfl (wl_nil (f_then (c_seq (c_region (wl_p I_ok rfl (wl (st_call Tryz.call77 rfl rfl rfl rfl rfl rfl (dk_pending w10 hA1 hok (by omega)) fun v11 w11 hr11 => ?_)))))))
    obtain ⟨b3, rfl, _, _, hE11⟩ := hr11
    have hA1 := hA1.extNo hE11
    have hA2 := hA2.extNo hE11
    have hcA := hcA.extNo hE11
    have hcB := hcB.extNo hE11
    have hX := hX.thenNo hE11
    refine wl_p I_ok rfl ?_
    obtain ⟨K, hK⟩ : ∃ K, K = k * D.order.length := ⟨_, rfl⟩
    have hKm : K ≤ m := by rw [hK]; rcases (by omega : k = 0 ∨ k = 1) with rfl | rfl <;> omega
    rw [show IntKind.i64.wrap ((k : Int) * (D.order.length : Int)) = (K : Int) from by rw [show (k : Int) * (D.order.length : Int) = (K : Int) from by rw [hK]; exact (Int.natCast_mul k D.order.length).symm]; exact IntWalk.i64_in _ (by omega)]
    have hla := hcA.lt
    have hlb := hcB.lt
    refine wl (st_mk I_ok rfl K K 1 rfl rfl rfl (by decide) rfl rfl (Nat.le_refl _) (by omega) (by unfold maxLen; omega) fun b48 w12 hn48 hb48 hE12 hs12 => ?_)
    have fr48 := Nat.le_trans hX.size hn48
    have hA1 := hA1.extNo hE12
    have hA2 := hA2.extNo hE12
    have hcA := hcA.extNo hE12
    have hcB := hcB.extNo hE12
    have hX := hX.thenNo hE12
    have hb48 : Blk w12 b48 4 (boolsT (List.replicate 0 true ++ List.replicate (K - 0) false)) := by (have e : rep K (cellsOf ti4.zero) = boolsT (List.replicate 0 true ++ List.replicate (K - 0) false) := by rw [show cellsOf ti4.zero = [Value.bool false] from rfl, rep_one, boolsT]; simp); rw [← e]; exact hb48
    have nbA48 : ∀ y, FC1 y → y ≠ b48 := fun y hy e => by have := hla y hy; omega
    have nbB48 : ∀ y, FC2 y → y ≠ b48 := fun y hy e => by have := hlb y hy; omega
    refine wl_p I_ok rfl (wl_nil (f_then (c_seq (c_seq (c_region (wl_p I_ok rfl (wl_nil (f_then (c_block ?_)))))))))
    refine c_loopK (α := Nat) [0, 1, 6, 7, 8, 36, 50] rfl (fun z => [(51, .int .i64 (z : Int))]) (fun z u => (z ≤ K ∧ At u d1 F1 D ∧ At u d2 F2 D ∧ At u c1 FC1 D ∧ At u c2 FC2 D) ∧ Blk u b48 4 (boolsT (List.replicate z true ++ List.replicate (K - z) false)) ∧ Ext No w u) (fun z u => K - z) (0) rfl ⟨⟨Nat.zero_le _, hA1, hA2, hcA, hcB⟩, hb48, hX⟩ ?_
    rintro j w13 ⟨⟨hj, hA1, hA2, hcA, hcB⟩, hb48, hX⟩
    refine c_seq (c_region (wl_p I_ok rfl (wl_nil (f_then (c_seq (c_if rfl (fun hc => ?_) (fun hc => ?_)))))))
    · have hjK : j < K := by omega
      refine c_skip (f_then (c_seq (c_block (c_seq (c_region (wl_p I_ok rfl (wl_nil (f_then (c_region (wl_p I_ok rfl (wl (st_ix I_ok rfl 1 rfl j rfl hjK (0 + j * 1) rfl ?_))))))))))))
      refine wl (st_set I_ok hb48 rfl rfl (by simp [boolsT]; omega) fun w14 hb48 hE14 hs14 => ?_)
      have hA1 := hA1.ext hE14 fun y hy e => by have e : y = b48 := e; have := hF1 y hy; omega
      have hA2 := hA2.ext hE14 fun y hy e => by have e : y = b48 := e; have := hF2 y hy; omega
      have hcA := hcA.ext hE14 fun y hy e => by have e : y = b48 := e; exact nbA48 y hy e
      have hcB := hcB.ext hE14 fun y hy e => by have e : y = b48 := e; exact nbB48 y hy e
      have hX := hX.thenNew hE14 fr48
      have hb48 : Blk w14 b48 4 (boolsT (List.replicate (j + 1) true ++ List.replicate (K - (j + 1)) false)) := by (have e := hb48; rw [show 0 + j * 1 = j from by omega, fill_step hjK] at e; exact e)
      refine wl_nil (f_blockN (f_then (c_region (wl_p I_ok rfl ?_))))
      rw [IntWalk.i64_in _ (by omega)]
      refine wl_nil ?_
      exact f_round (j + 1) rfl ⟨⟨by omega, hA1, hA2, hcA, hcB⟩, hb48, hX⟩ (by first | omega | (dsimp only; omega))
    · have hjK : j = K := by omega
      rw [hjK, Nat.sub_self, List.replicate_zero, List.append_nil] at hb48
      refine c_exit (f_thenE (f_thenE (f_blockE (f_then (c_seq ?_)))))
      refine c_cutK (α := Bool) [0, 1, 6, 7, 36] rfl (fun z => [(67, .bool z)]) (fun z u => (z = false ∧ At u d1 F1 D ∧ At u d2 F2 D ∧ At u c1 FC1 (D.crash (List.replicate K true)) ∧ At u c2 FC2 (D.crash (List.replicate K true))) ∧ Ext No w u) ?_ ?_
      · refine c_region ?_
        refine wl_p I_ok rfl ?_
        refine wl (st_call Tryz.call18 rfl rfl rfl rfl rfl rfl (dk_crash w13 hcA hok (by omega) (keep := List.replicate K true) (by simp) ⟨by simp [], .inr ⟨b48, 0, rfl, hb48.seg⟩⟩ (fun b off e hF => by cases e; exact nbA48 _ hF rfl)) fun v15 w15 hr15 => ?_)
        obtain ⟨rfl, hcA2, hE15⟩ := hr15
        have hX := hX.trans hE15 fun y hy e => by have := hcl y (.inl e); omega
        have hb48 := hb48.ext hE15 fun e => nbA48 _ e rfl
        have hA1 := hA1.ext hE15 fun y hy e => by have := hF1 y hy; have := hcl y (.inl e); omega
        have hA2 := hA2.ext hE15 fun y hy e => by have := hF2 y hy; have := hcl y (.inl e); omega
        have hcB := hcB.ext hE15 fun y hy e => hdj y e hy
        have hcA := hcA2
        refine wl_p I_ok rfl (wl_case 62 rfl (fun hg => ?_) (fun hg => ?_))
        · cases hg
        · refine wl_pk I_ok 2 rfl ?_
          refine wl (st_call Tryz.call18 rfl rfl rfl rfl rfl rfl (dk_crash w15 hcB hok (by omega) (keep := List.replicate K true) (by simp) ⟨by simp [], .inr ⟨b48, 0, rfl, hb48.seg⟩⟩ (fun b off e hF => by cases e; exact nbB48 _ hF rfl)) fun v16 w16 hr16 => ?_)
          obtain ⟨rfl, hcB2, hE16⟩ := hr16
          have hX := hX.trans hE16 fun y hy e => by have := hcl y (.inr e); omega
          have hb48 := hb48.ext hE16 fun e => nbB48 _ e rfl
          have hA1 := hA1.ext hE16 fun y hy e => by have := hF1 y hy; have := hcl y (.inr e); omega
          have hA2 := hA2.ext hE16 fun y hy e => by have := hF2 y hy; have := hcl y (.inr e); omega
          have hcA := hcA.ext hE16 fun y hy e => hdj y hy e
          have hcB := hcB2
          refine wl_pk I_ok 2 rfl (wl_nil ?_)
          exact f_cut (decide ((0 : Int) ≠ 0)) rfl ⟨⟨by simp, hA1, hA2, hcA, hcB⟩, hX⟩
      rintro z w17 ⟨⟨rfl, hA1, hA2, hcA, hcB⟩, hX⟩
      refine c_condF rfl (c_skip (f_then (c_seq (c_region (wl_p I_ok rfl ?_)))))
      have hokc := hok.crash (List.replicate K true)
      have hdd : (D.crash (List.replicate K true)).dead = false := rfl
      have hdf : (D.crash (List.replicate K true)).fault = -1 := rfl
      generalize D.crash (List.replicate K true) = Dc at hcA hcB hokc hdd hdf ⊢
      have hszc := hokc.size
      refine wl (st_call Tryz.call61 rfl rfl rfl rfl rfl rfl (dk_len w17 hcA) fun v18 w18 hr18 => ?_)
      obtain ⟨rfl, rfl⟩ := hr18
      refine wl_p I_ok rfl (wl_nil (f_then (c_block ?_)))
      refine c_loopK (α := Nat × Dsk) [0, 1, 6, 7, 36, 69] rfl (fun z => [(70, .int .i64 (z.1 : Int))]) (fun z u => (z.1 ≤ Dc.secs.length ∧ At u d1 F1 D ∧ At u d2 F2 D ∧ At u c1 FC1 z.2 ∧ At u c2 FC2 z.2 ∧ z.2.dead = false ∧ z.2.fault = -1 ∧ z.2.secs.length = Dc.secs.length ∧ z.2.Ok (m + z.1)) ∧ Ext No w u) (fun z u => Dc.secs.length - z.1) (0, Dc) rfl ⟨⟨Nat.zero_le _, hA1, hA2, hcA, hcB, hdd, hdf, rfl, hokc⟩, hX⟩ ?_
      rintro ⟨i, E1⟩ w19 ⟨⟨hi, hA1, hA2, hcA, hcB, hd0, hf0, hs0, hokz⟩, hX⟩
      try dsimp only
      dsimp only at hi hA1 hA2 hcA hcB hd0 hf0 hs0 hokz
      refine c_seq (c_region (wl_p I_ok rfl (wl_nil (f_then (c_seq (c_if rfl (fun hc => ?_) (fun hc => ?_)))))))
      · have hil : i < Dc.secs.length := by omega
        have hrd := tw_read hd0 hf0 (i := i) (by omega)
        have hB64 := now_length hokz i
        obtain ⟨Bn, hBn⟩ : ∃ B, B = E1.now i := ⟨_, rfl⟩
        rw [← hBn] at hrd hB64
        refine c_skip (f_then (c_seq (c_block (c_seq (c_region (wl_p I_ok rfl (wl_nil (f_then (c_seq (c_region (wl_p I_ok rfl ?_)))))))))))
        refine wl (st_call Tryz.call12 rfl rfl rfl rfl rfl rfl (dkRead w19 hcA hokz (by omega) (i : Int)) fun v20 w20 hr20 => ?_)
        obtain ⟨rfl, hcA2, hE20⟩ := hr20
        rw [hrd] at hcA2
        rw [hrd]
        have hX := hX.trans hE20 fun y hy e => by have := hcl y (.inl e); omega
        have hA1 := hA1.ext hE20 fun y hy e => by have := hF1 y hy; have := hcl y (.inl e); omega
        have hA2 := hA2.ext hE20 fun y hy e => by have := hF2 y hy; have := hcl y (.inl e); omega
        have hcB := hcB.ext hE20 fun y hy e => hdj y e hy
        have hcA := hcA2
        refine wl_p I_ok rfl ?_
        have hla := hcA.lt
        have hlb := hcB.lt
        refine wl (st_al I_ok rfl fun b11 w21 hn11 hb11 hE21 => ?_)
        have fr11 := Nat.le_trans hX.size hn11
        have hA1 := hA1.extNo hE21
        have hA2 := hA2.extNo hE21
        have hcA := hcA.extNo hE21
        have hcB := hcB.extNo hE21
        have hX := hX.thenNo hE21
        have nbA11 : ∀ y, FC1 y → y ≠ b11 := fun y hy e => by have := hla y hy; omega
        have nbB11 : ∀ y, FC2 y → y ≠ b11 := fun y hy e => by have := hlb y hy; omega
        refine wl (st_stW (l' := bytesU Bn) I_ok hb11 rfl rfl (by rw [bytesU_len, hB64]) (by rw [bytesU_len, hB64]; rfl) OneC.h fun w22 hb11 hE22 hs22 => ?_)
        have hA1 := hA1.ext hE22 fun y hy e => by have e : y = b11 := e; have := hF1 y hy; omega
        have hA2 := hA2.ext hE22 fun y hy e => by have e : y = b11 := e; have := hF2 y hy; omega
        have hcA := hcA.ext hE22 fun y hy e => by have e : y = b11 := e; exact nbA11 y hy e
        have hcB := hcB.ext hE22 fun y hy e => by have e : y = b11 := e; exact nbB11 y hy e
        have hX := hX.thenNew hE22 fr11
        have hb11 : Blk w22 b11 37 (bytesU Bn) := hb11
        refine wl_p I_ok rfl (wl_nil (f_then (c_seq (c_region (wl_p I_ok rfl (wl (st_call Tryz.call12 rfl rfl rfl rfl rfl rfl (dkRead w22 hcB hokz (by omega) (i : Int)) fun v23 w23 hr23 => ?_)))))))
        obtain ⟨rfl, hcB2, hE23⟩ := hr23
        rw [hrd] at hcB2
        rw [hrd]
        have hX := hX.trans hE23 fun y hy e => by have := hcl y (.inr e); omega
        have hb11 := hb11.ext hE23 fun e => nbB11 _ e rfl
        have hA1 := hA1.ext hE23 fun y hy e => by have := hF1 y hy; have := hcl y (.inr e); omega
        have hA2 := hA2.ext hE23 fun y hy e => by have := hF2 y hy; have := hcl y (.inr e); omega
        have hcA := hcA.ext hE23 fun y hy e => hdj y hy e
        have hcB := hcB2
        refine wl_p I_ok rfl ?_
        have hla := hcA.lt
        have hlb := hcB.lt
        refine wl (st_al I_ok rfl fun b13 w24 hn13 hb13 hE24 => ?_)
        have ne11_13 : b11 ≠ b13 := Nat.ne_of_lt (Nat.lt_of_lt_of_le hb11.lt hn13)
        have fr13 := Nat.le_trans hX.size hn13
        have hb11 := hb11.extNo hE24
        have hA1 := hA1.extNo hE24
        have hA2 := hA2.extNo hE24
        have hcA := hcA.extNo hE24
        have hcB := hcB.extNo hE24
        have hX := hX.thenNo hE24
        have nbA13 : ∀ y, FC1 y → y ≠ b13 := fun y hy e => by have := hla y hy; omega
        have nbB13 : ∀ y, FC2 y → y ≠ b13 := fun y hy e => by have := hlb y hy; omega
        refine wl (st_stW (l' := bytesU Bn) I_ok hb13 rfl rfl (by rw [bytesU_len, hB64]) (by rw [bytesU_len, hB64]; rfl) OneC.h fun w25 hb13 hE25 hs25 => ?_)
        have hb11 := hb11.ext1 hE25 ne11_13
        have hA1 := hA1.ext hE25 fun y hy e => by have e : y = b13 := e; have := hF1 y hy; omega
        have hA2 := hA2.ext hE25 fun y hy e => by have e : y = b13 := e; have := hF2 y hy; omega
        have hcA := hcA.ext hE25 fun y hy e => by have e : y = b13 := e; exact nbA13 y hy e
        have hcB := hcB.ext hE25 fun y hy e => by have e : y = b13 := e; exact nbB13 y hy e
        have hX := hX.thenNew hE25 fr13
        have hb13 : Blk w25 b13 37 (bytesU Bn) := hb13
        refine wl_p I_ok rfl (wl_nil (f_then (c_cutK (α := Bool) [0, 1, 6, 7, 36, 69, 70] rfl (fun z => [(96, .bool z)]) (fun z u => u = w25 ∧ z = false) ?_ ?_)))
        · refine c_region ?_
          refine wl (st_ldB I_ok hb11 rfl (by rw [bytesU_len, hB64]) (wl (st_ldB I_ok hb13 rfl (by rw [bytesU_len, hB64]) ?_)))
          refine wl (st_eqA (xs := natsI Bn) (ys := natsI Bn) I_ok rfl (by kernel_rfl) (numB_eq _) (numB_eq _) (by rw [natsI_len, hB64]) (by rw [natsI_len, hB64]) (wl_p I_ok rfl (wl_caseD 88 rfl (fun hg => ?_) (fun hg => ?_))))
          · exact absurd rfl hg
          · refine wl_pk I_ok 5 rfl ?_
            refine wl_case 93 rfl (fun hg => ?_) (fun hg => ?_)
            · cases hg
            · refine wl_pk I_ok 3 rfl ?_
              refine wl_nil ?_
              exact f_cut (decide ((0 : Int) ≠ 0)) rfl ⟨rfl, by simp⟩
        rintro z w26 ⟨hu, rfl⟩
        have hu := hu.symm
        subst hu
        refine c_condF rfl (c_skip (f_blockN (f_then (c_region (wl_p I_ok rfl ?_)))))
        rw [IntWalk.i64_in _ (by omega)]
        refine wl_nil ?_
        exact f_round (i + 1, { E1 with done := E1.done + 1 }) rfl ⟨⟨by dsimp only; omega, hA1, hA2, hcA, hcB, hd0, hf0, hs0, by have e := hokz.read (i : Int); rw [hrd] at e; exact e⟩, hX⟩ (by first | omega | (dsimp only; omega))
      · refine c_exit ?_
        refine f_thenE (f_thenE (f_blockE (f_blockN (f_then (c_region (wl_p I_ok rfl ?_))))))
        rw [IntWalk.i64_in _ (by omega)]
        refine wl_nil ?_
        exact f_round (k + 1) rfl ⟨⟨by omega, hA1, hA2⟩, hX⟩ (by first | omega | (dsimp only; omega))
  · refine c_exit ?_
    refine f_thenE (f_thenE (f_blockE (f_then (c_seq (c_region (wl_p I_ok rfl (wl_nil (f_then (c_ret (f_ret1 rfl rfl ?_))))))))))
    exact ⟨rfl, hX⟩
end Go.Proofs.YtlfdlodcjiaiiaaGreatDoor
namespace Go.Proofs.YtlfdlodcjiaiiaaGreatDoor
open Go.Vc
theorem own_opened {w : World} {p : Option Addr} {n c T sz : Nat} {xs : List Value} (h : Own w p n c T sz xs) (hn : 0 < n) : ∃ b l, p = some ⟨b, 0, none⟩ ∧ Blk w b T l ∧ l.length = c * sz ∧ n ≤ c ∧ c ≤ maxLen ∧ l.take (n * sz) = xs := by
  rcases h with ⟨_, h, _, _⟩ | ⟨b, l, hp, hb, hl, hn', hc, hx⟩
  · omega
  · exact ⟨b, l, hp, hb, hl, hn', hc, hx⟩
/-- bytes that are turned -/
def MutB (u : World) (q : Option Addr) (n c : Nat) : Prop := ∃ cc : Bytes, cc.length = n ∧ Own u q n c 5 1 (bytesU cc)
theorem MutB.ext {S : Nat → Prop} {u u' : World} {q : Option Addr} {n c : Nat} (h : MutB u q n c) (hE : Ext S u u') (hS : ∀ y, OwnB q y → ¬ S y) : MutB u' q n c := by
  obtain ⟨cc, h1, h2⟩ := h
  exact ⟨cc, h1, h2.ext hE hS⟩
theorem MutB.at {u : World} {q : Option Addr} {n c i : Nat} (h : MutB u q n c) (hi : i < n) : ∃ b l x, q = some ⟨b, 0, none⟩ ∧ Blk u b 5 l ∧ l.length = c ∧ n ≤ c ∧ l[i]? = some (byteV x) ∧ ∀ u', Blk u' b 5 (l.set i (byteV (x + 1))) → MutB u' q n c := by
  obtain ⟨cc, h1, h2⟩ := h
  obtain ⟨b, l, rfl, hb, hl, hnc, hcm, hx⟩ := own_opened h2 (by omega)
  rw [Nat.mul_one] at hl hx
  have hg : (l.take n)[i]? = l[i]? := List.getElem?_take_of_lt hi
  refine ⟨b, l, cc[i]'(by omega), rfl, hb, hl, hnc, ?_, fun u' hb' => ⟨cc.set i (cc[i]'(by omega) + 1), by rw [List.length_set, h1], .inr ⟨b, _, rfl, hb', by rw [List.length_set, hl, Nat.mul_one], hnc, hcm, ?_⟩⟩⟩
  · rw [← hg, hx, bytesU, List.getElem?_map, List.getElem?_eq_getElem (by omega)]
    rfl
  · rw [Nat.mul_one, List.take_set, hx, bytesU, ← List.map_set, bytesU]
theorem byte_next (x : UInt8) : IntKind.u8.wrap ((x.toNat : Int) + 1) = ((x + 1).toNat : Int) := by
  rw [IntKind.wrap_u8]
  have e : (x + 1).toNat = (x.toNat + 1) % 256 := by rw [UInt8.toNat_add]; rfl
  rw [e]
  omega
/-- what an iterator of a log holds -/
def AllI (u : World) (bA cA n3 : Nat) (qA : Option Addr) (rowsA : List Value) (ps : List Bytes) (H : Nat → Prop) : Prop :=
  Blk u bA 96 [.slice qA ps.length cA] ∧ Sl u qA ps.length 1 rowsA ∧ PiecesAt u H ps rowsA ∧ n3 ≤ u.heap.size
theorem AllI.step {S : Nat → Prop} {u u' : World} {bA cA n3 : Nat} {qA : Option Addr} {rowsA : List Value} {ps : List Bytes} {H : Nat → Prop} (h : AllI u bA cA n3 qA rowsA ps H) (hb : bA < n3) (hq : ∀ y off, qA = some ⟨y, off, none⟩ → ps.length ≠ 0 → y < n3) (hH : ∀ y, H y → y < n3) (hE : Ext S u u') (hS : ∀ y, S y → n3 ≤ y) : AllI u' bA cA n3 qA rowsA ps H := by
  obtain ⟨h1, h2, h3, h4⟩ := h
  refine ⟨h1.ext hE fun e => by have := hS _ e; omega, ?_, h3.ext hE fun y hy _ e => by have := hS y e; have := hH y hy; omega, Nat.le_trans h4 hE.size⟩
  by_cases h0 : ps.length = 0
  · exact ⟨h2.1, .inl h0⟩
  · exact h2.ext hE fun y off e hs => by have := hS y hs; have := hq y off e h0; omega
def toldC (w : World) (b8 : Nat) : CoS Unit w where
  Fp := fun _ y => y = b8
  J := fun k _ u => Blk u b8 3 [.int .i64 (k : Int)]
  Jx := fun _ _ _ _ => False
  st := fun h1 hE hS => h1.ext hE fun e => (hS _ e).2 rfl
  stx := fun h _ _ => h.elim
  lt := fun h1 x e => by rw [show x = b8 from e]; exact h1.lt
  ltx := fun h => h.elim
def stopC (w : World) : CoS Unit w where
  Fp := fun _ _ => False
  J := fun k _ _ => k = 0
  Jx := fun k c _ _ => k = 0 ∧ c = .exit 8
  st := fun h1 _ _ => h1
  stx := fun h _ _ => h
  lt := fun _ _x e => e.elim
  ltx := fun _ _x e => e.elim
theorem told_calls (w : World) {xl dl xb db : Nat} {Hl Hb : Nat → Prop} {W9 : Wl} (hL : LogAt w xl dl Hl W9) (hB : BookAt w xb db Hb W9) (hW : Wl.Ok W9) :
    CallsV Tryz.prog 33 [.pointer (some ⟨xb, 0, none⟩), .pointer (some ⟨xl, 0, none⟩)] w fun v w' => v = .bool true ∧ Ext No w w' := by
  refine calls_enterM Tryz.func33 rfl rfl rfl rfl ?_
  have hX := Ext.refl No w
  have hlog := hL
  have hbook := hB
  have hHlt := hL.lt
  obtain ⟨⟨qk, ck, rowsk, hbk0, hrwk, hpsk, _⟩, hxbH, hBlt⟩ := id hB
  have hbk := hbk0
  obtain ⟨s0, r0, hp0⟩ : ∃ s0 r0, W9.pieces = s0 :: r0 := by
    cases hp : W9.pieces with
    | nil => exact absurd hp hW.some
    | cons a l => exact ⟨a, l, rfl⟩
  have hz2 := hW.size.2
  have hfew := hW.few
  have hroom := hW.room
  have hlen : W9.pieces.length = r0.length + 1 := by rw [hp0]; rfl
  have hne : 0 < W9.pieces.length := by omega
  have hs0 : W9.pieces[0] = s0 := by simp [hp0]
  have hsh : ∀ b ∈ W9.pieces, b.length < 1000000000 := fun b hb => by have := hW.short b hb; omega
  have hdr : W9.pieces.drop 1 = r0 := by rw [hp0]; rfl
  have hs0l : s0.length < 1000000000 := hsh s0 (by rw [hp0]; simp)
  obtain ⟨qb, rfl, hqs0⟩ : ∃ qb, qk = some ⟨qb, 0, none⟩ ∧ Seg w qb 0 rowsk := by
    rcases hrwk with ⟨_, h0, _⟩ | ⟨bq, lq, h1, h2, _, _, _, h3⟩
    · omega
    · refine ⟨bq, h1, ?_⟩
      have e := h2.seg.take (W9.pieces.length * 1)
      rw [h3] at e
      exact e
  refine c_seq (c_region (wl (st_al I_ok rfl fun b2 w1 hn2 hb2 hE1 => ?_)))
  have fr2 := Nat.le_trans hX.size hn2
  have hlog := hlog.extNo hE1
  have hbk := hbk.extNo hE1
  have hX := hX.thenNo hE1
  have hb2 : Blk w1 b2 44 ([.pointer (some ⟨xb, 0, none⟩)]) := hb2
  refine wl (st_al I_ok rfl fun b4 w2 hn4 hb4 hE2 => ?_)
  have ne2_4 : b2 ≠ b4 := Nat.ne_of_lt (Nat.lt_of_lt_of_le hb2.lt hn4)
  have fr4 := Nat.le_trans hX.size hn4
  have hb2 := hb2.extNo hE2
  have hlog := hlog.extNo hE2
  have hbk := hbk.extNo hE2
  have hX := hX.thenNo hE2
  have hb4 : Blk w2 b4 4 ([.bool false]) := hb4
  refine wl_nil (f_then (c_seq (c_cutK (α := Bool) [1, 2, 4] rfl (fun z => [(52, .bool z)]) (fun z u => (z = false) ∧ Blk u b2 44 ([.pointer (some ⟨xb, 0, none⟩)]) ∧ Blk u b4 4 ([.bool false]) ∧ Ext No w u) ?_ ?_)))
  · refine c_draw rfl 41 [(0, true), (2, true), (3, true), (4, true), (5, true), (6, true), (7, true), (1, false), (8, true), (9, true), (10, true), (12, true), (13, true), (14, true), (15, true), (16, true), (17, true), (18, true), (19, true), (20, true), (11, false), (21, true), (22, true), (23, true), (24, true), (26, true), (27, true), (28, true), (29, true), (25, false), (30, true), (31, true), (32, true), (33, true), (35, true), (36, true), (37, true), (38, true), (34, false), (39, true), (40, true)] [] (No) (by kernel_rfl) fun w3 hE3 hs3 => ?_
    have hd2 := hb2
    have hd4 := hb4
    have hlogd := hlog
    have hbkd := hbk
    have hXd := hX
    have hb2 := hb2.extNo hE3
    have hb4 := hb4.extNo hE3
    have hlog := hlog.extNo hE3
    have hbk := hbk.extNo hE3
    have hX := hX.thenNo hE3
    have hC : Ext (No) _ w3 := hE3.no
    refine wd_k I_ok 1 rfl (wd_ld I_ok rfl rfl (fun w' hw' => (hd2.extNo hw').cell rfl) ?_)
    refine wd_k I_ok 2 rfl (wd_ld I_ok rfl rfl (fun w' hw' => ((hbkd.extNo hw').cell rfl)) ?_)
    refine wd_k I_ok 2 rfl ?_
    rw [IntWalk.i64_in _ (by omega)]
    refine wd_l rfl (st_call Tryz.call20 rfl rfl rfl rfl rfl rfl (logLen_calls w3 hlog (by omega)) fun v4 w4 hr4 => ⟨(by obtain ⟨rfl, hE4⟩ := hr4; exact hC.thenNo hE4), ?_⟩)
    obtain ⟨rfl, hE4⟩ := hr4
    have hb2 := hb2.extNo hE4
    have hb4 := hb4.extNo hE4
    have hlog := hlog.extNo hE4
    have hbk := hbk.extNo hE4
    have hX := hX.thenNo hE4
    have hC := hC.thenNo hE4
    refine wd_k I_ok 2 rfl (wd_caseD 21 rfl (fun hg => ?_) (fun hg => ?_))
    · exact absurd rfl hg
    · refine wd_k I_ok 1 rfl ?_
      refine wd_ld I_ok rfl rfl (fun w' hw' => (hd2.extNo hw').cell rfl) ?_
      refine wd_k I_ok 2 rfl (wd_ld I_ok rfl rfl (fun w' hw' => ((hbkd.extNo hw').cell rfl)) ?_)
      refine wd_ld I_ok rfl rfl (fun w' hw' => (hd2.extNo hw').cell rfl) ?_
      refine wd_k I_ok 2 rfl (wd_ld I_ok rfl rfl (fun w' hw' => ((hbkd.extNo hw').cell rfl)) ?_)
      refine wd_k I_ok 1 rfl ?_
      rw [IntWalk.i64_in _ (by omega)]
      refine wd_l rfl (st_call Tryz.call21 rfl rfl rfl rfl rfl rfl (left_calls w4 hlog (by omega) (by omega)) fun v5 w5 hr5 => ⟨(by obtain ⟨rfl, hE5⟩ := hr5; exact hC.thenNo hE5), ?_⟩)
      obtain ⟨rfl, hE5⟩ := hr5
      have hb2 := hb2.extNo hE5
      have hb4 := hb4.extNo hE5
      have hlog := hlog.extNo hE5
      have hbk := hbk.extNo hE5
      have hX := hX.thenNo hE5
      have hC := hC.thenNo hE5
      refine wd_k I_ok 3 rfl (wd_caseD 35 rfl (fun hg => ?_) (fun hg => ?_))
      · exact absurd rfl hg
      · refine wd_k I_ok 1 rfl ?_
        refine wd_ld I_ok rfl rfl (fun w' hw' => (hd2.extNo hw').cell rfl) ?_
        refine wd_k I_ok 2 rfl (wd_ld I_ok rfl rfl (fun w' hw' => ((hbkd.extNo hw').cell rfl)) ?_)
        refine wd_l rfl (st_call Tryz.call72 rfl rfl rfl rfl rfl rfl (turn_calls w5 hlog) fun v6 w6 hr6 => ⟨(by obtain ⟨rfl, hE6⟩ := hr6; exact hC.thenNo hE6), ?_⟩)
        obtain ⟨rfl, hE6⟩ := hr6
        have hb2 := hb2.extNo hE6
        have hb4 := hb4.extNo hE6
        have hlog := hlog.extNo hE6
        have hbk := hbk.extNo hE6
        have hX := hX.thenNo hE6
        have hC := hC.thenNo hE6
        refine wd_k I_ok 3 rfl (wd_caseD 44 rfl (fun hg => ?_) (fun hg => ?_))
        · exact absurd rfl hg
        · refine wd_k I_ok 1 rfl ?_
          refine wd_ld I_ok rfl rfl (fun w' hw' => (hd2.extNo hw').cell rfl) ?_
          refine wd_k I_ok 2 rfl (wd_ld I_ok rfl rfl (fun w' hw' => ((hbkd.extNo hw').cell rfl)) ?_)
          refine wd_l rfl (st_call Tryz.call73 rfl rfl rfl rfl rfl rfl (broken_calls w6 hlog) fun v7 w7 hr7 => ⟨(by obtain ⟨rfl, hE7⟩ := hr7; exact hC.thenNo hE7), ?_⟩)
          obtain ⟨rfl, hE7⟩ := hr7
          have hb2 := hb2.extNo hE7
          have hb4 := hb4.extNo hE7
          have hlog := hlog.extNo hE7
          have hbk := hbk.extNo hE7
          have hX := hX.thenNo hE7
          have hC := hC.thenNo hE7
          refine wd_k I_ok 2 rfl (wd_sw (wb_nil ?_))
          exact f_cut (!(W9.broken == W9.broken)) rfl ⟨by simp, hb2, hb4, hX⟩
  rintro z w8 ⟨rfl, hb2, hb4, hX⟩
  refine c_condF rfl (c_skip (f_then (c_seq (c_region (wl_p I_ok rfl ?_)))))
  have l2 := hb2.lt
  have l4 := hb4.lt
  refine wl (st_call Tryz.call23 rfl rfl rfl rfl rfl rfl (all_calls w8 (hL.extNo hX) hne (by omega)) fun v9 w9 hr9 => ?_)
  obtain ⟨bA, qA, cA, rowsA, rfl, hbA, hsA, hpA, hAn, hqA, hE9⟩ := hr9
  have hb2 := hb2.extNo hE9
  have hb4 := hb4.extNo hE9
  have hX := hX.thenNo hE9
  rw [hdr] at hbA hsA hpA hqA
  obtain ⟨n3, hn3⟩ : ∃ n, n = w9.heap.size := ⟨_, rfl⟩
  have hwn3 : w.heap.size ≤ n3 := by rw [hn3]; exact hX.size
  have hs3 := hE9.size
  have h2n3 : b2 < n3 ∧ b4 < n3 := ⟨by omega, by omega⟩
  have hbn : bA < n3 := by rw [hn3]; exact hbA.lt
  have hqn : ∀ y off, qA = some ⟨y, off, none⟩ → r0.length ≠ 0 → y < n3 := fun y off e h0 => by rw [hn3]; exact (hqA y off e h0).2
  have hHn : ∀ y, Hl y → y < n3 := fun y hy => by have := hHlt y hy; omega
  have hT : AllI w9 bA cA n3 qA rowsA r0 Hl := ⟨hbA, hsA, hpA, by rw [hn3]; exact Nat.le_refl _⟩
  refine wl_p I_ok rfl (wl_nil (f_then (c_seq (c_seq (c_region (wl_p I_ok rfl (wl_nil (f_then (c_block (c_loopU (c_seq (c_region (wl_p I_ok rfl (wl_nil (f_then (c_seq (c_condT rfl (c_skip (f_then (c_seq (c_block (c_seq ?_))))))))))))))))))))))
  refine c_region (wl_p I_ok rfl ?_)
  have hnT := hT.2.2.2
  refine wl (st_call Tryz.call74 rfl rfl rfl rfl rfl rfl (snapshot_calls w9 (hL.extNo hX) hne (hsh _ (List.getElem_mem hne))) fun v10 w10 hr10 => ?_)
  obtain ⟨q1, k1, rfl, hq1, hnq1, hE10⟩ := hr10
  have hb2 := hb2.extNo hE10
  have hb4 := hb4.extNo hE10
  have hT := hT.step hbn hqn hHn hE10 fun y e => e.elim
  have hX := hX.thenNo hE10
  rw [hs0] at hq1 ⊢
  have hn1 : ∀ y, OwnB q1 y → n3 ≤ y := fun y hy => by have := hnq1 y hy; omega
  refine wl_p I_ok rfl (wl_nil (f_then (c_seq (c_seq (c_region (wl_p I_ok rfl (wl (st_ldb I_ok hb2 rfl rfl (wl_p I_ok rfl ?_)))))))))
  obtain ⟨pb0, pc0, hr0, _, hsl0, _⟩ := (hpsk.ext hX fun _ _ _ => id).get hne
  rw [hs0] at hr0 hsl0
  refine wl (st_ld I_ok rfl ((hbk0.extNo hX).cell rfl) (wl (st_ix I_ok rfl 1 rfl 0 rfl hne (0 + 0 * 1) rfl (wl (st_ld I_ok rfl ((Seg.ext hqs0 hX id) _ _ hr0) ?_)))))
  refine wl (st_call Tryz.call24 rfl rfl rfl rfl rfl rfl (bytesEqual_calls w10 hq1.sl hsl0) fun v11 w11 hr11 => ?_)
  obtain ⟨rfl, rfl⟩ := hr11
  rw [decide_eq_true rfl]
  refine wl_p I_ok rfl (wl_nil (f_then (c_condF rfl ?_)))
  have hmu : MutB w11 q1 s0.length k1 := ⟨s0, rfl, hq1⟩
  refine c_skip (f_then (c_seq (c_seq (c_region (wl_p I_ok rfl (wl_nil (f_then (c_block ?_))))))))
  refine c_loopK (α := Nat) [1, 2, 4, 5, 6, 55, 69] rfl (fun z => [(70, .int .i64 (z : Int))]) (fun z u => (z ≤ s0.length ∧ MutB u q1 s0.length k1 ∧ AllI u bA cA n3 qA rowsA r0 Hl) ∧ Blk u b2 44 ([.pointer (some ⟨xb, 0, none⟩)]) ∧ Blk u b4 4 ([.bool false]) ∧ Ext No w u) (fun z u => s0.length - z) (0) rfl ⟨⟨Nat.zero_le _, hmu, hT⟩, hb2, hb4, hX⟩ ?_
  rintro i w12 ⟨⟨hi, hmu, hT⟩, hb2, hb4, hX⟩
  refine c_seq (c_region (wl_p I_ok rfl (wl_nil (f_then (c_seq (c_if rfl (fun hc => ?_) (fun hc => ?_)))))))
  · have hil : i < s0.length := by omega
    obtain ⟨bl, Lq, xq, rfl, hbl, hLl, hLc, hLi, hset⟩ := hmu.at hil
    have hbln : n3 ≤ bl := hn1 bl rfl
    refine c_skip (f_then (c_seq (c_block (c_seq (c_region (wl_p I_ok rfl (wl_nil (f_then (c_region (wl_p I_ok rfl (wl (st_ix I_ok rfl 1 rfl i rfl hil (0 + i * 1) rfl ?_))))))))))))
    refine wl (st_ld I_ok rfl (hbl.cell (by rw [show 0 + i * 1 = i from by omega]; exact hLi)) (wl_p I_ok rfl ?_))
    rw [byte_next xq]
    refine wl (st_ix I_ok rfl 1 rfl i rfl hil (0 + i * 1) rfl ?_)
    have hblo := hbl
    refine wl (st_set I_ok hbl rfl rfl (by omega) fun w13 hbl hE13 hs13 => ?_)
    rw [show 0 + i * 1 = i from by omega] at hbl
    have hb2 := hb2.ext1 hE13 fun e => by omega
    have hb4 := hb4.ext1 hE13 fun e => by omega
    have hX := hX.trans hE13 fun y hy e => by have e : y = bl := e; omega
    have hT := hT.step hbn hqn hHn hE13 fun y e => by have e : y = bl := e; omega
    have hmu := hset _ hbl
    refine wl_nil (f_blockN (f_then (c_region (wl_p I_ok rfl ?_))))
    rw [IntWalk.i64_in _ (by omega)]
    refine wl_nil ?_
    exact f_round (i + 1) rfl ⟨⟨by omega, hmu, hT⟩, hb2, hb4, hX⟩ (by first | omega | (dsimp only; omega))
  · refine c_exit ?_
    refine f_thenE (f_thenE (f_blockE (f_then (c_seq (c_region ?_)))))
    have hnT := hT.2.2.2
    refine wl (st_al I_ok rfl fun b8 w14 hn8 hb8 hE14 => ?_)
    have ne2_8 : b2 ≠ b8 := Nat.ne_of_lt (Nat.lt_of_lt_of_le hb2.lt hn8)
    have ne4_8 : b4 ≠ b8 := Nat.ne_of_lt (Nat.lt_of_lt_of_le hb4.lt hn8)
    have fr8 := Nat.le_trans hX.size hn8
    have hb2 := hb2.extNo hE14
    have hb4 := hb4.extNo hE14
    have hT := hT.step hbn hqn hHn hE14 fun y e => e.elim
    have hX := hX.thenNo hE14
    have n3_8 : n3 ≤ b8 := by omega
    refine wl (st_st I_ok hb8 rfl rfl rfl fun w15 hb8 hE15 hs15 => ?_)
    have hb2 := hb2.ext1 hE15 ne2_8
    have hb4 := hb4.ext1 hE15 ne4_8
    have hT := hT.step hbn hqn hHn hE15 fun y e => by have e : y = b8 := e; rw [e]; exact n3_8
    have hX := hX.thenNew hE15 fr8
    have hb8 : Blk w15 b8 3 ([.int .i64 ((0 : Nat) : Int)]) := hb8
    refine wl_nil (f_then (c_seq (c_seq (c_region (wl_p I_ok rfl (wl_nil (f_then (c_block ?_))))))))
    have hXx := hX
    have hTx := hT
    have hb2x := hb2
    have hb4x := hb4
    have fr8x := fr8
    have l8x := hb8.lt
    refine c_iterV (toldC w15 b8) (()) rfl Tryz.call59 rfl AllA.size (fun w1 hE1 => all1_iter w1 (ps := r0) (hT.1.extNo hE1) (by by_cases h0 : r0.length = 0; exact ⟨hT.2.1.1, .inl h0⟩; exact hT.2.1.ext hE1 fun _ _ _ => id) (hT.2.2.1.ext hE1 fun _ _ _ => id) (fun y off e h0 => by have := hqn y off e h0; have := hT.2.2.2; have := hE1.size; omega) (fun y hy => by have := hHn y hy; have := hT.2.2.2; have := hE1.size; omega) (by omega) (fun b hb => hsh b (by rw [hp0]; exact List.mem_cons_of_mem _ hb))) (fun y hy => by
  have hsz := hT.2.2.2
  rcases hy with ⟨off, e, h⟩ | hy
  · have h1 := hqn y off e h
    exact ⟨by omega, fun e2 => by have e2 : y = b8 := e2; omega⟩
  · have h1 := hHn y hy
    exact ⟨by omega, fun e2 => by have e2 : y = b8 := e2; omega⟩) hb8 (fun l DD r k z W vs Xn hRd hNx hJ hk hA => ?_) (fun D1 z W hJ hE hsub hDn hmk hnd => ?_) (fun D1 k c z W hk hJ hE hsub hDn hmk hnd => ?_)
    · have hLr := hRd.l
      have hb8 : Blk W b8 3 [.int .i64 (k : Int)] := hJ
      obtain ⟨qx, cx, rfl, hown, rfl⟩ := hA
      have hkr : k < r0.length := hk
      obtain ⟨Bk, hBk⟩ : ∃ Bk, Bk = r0.getD k [] := ⟨_, rfl⟩
      have hBg : W9.pieces[k + 1]? = some Bk := by rw [hp0, hBk]; simp [hkr]
      have hk2 : k + 1 < W9.pieces.length := by omega
      have hBk2 : W9.pieces[k + 1] = Bk := by rw [List.getElem?_eq_getElem hk2] at hBg; exact Option.some.inj hBg
      rw [← hBk] at hown ⊢
      have hBl : Bk.length < 1000000000 := by rw [← hBk2]; exact hsh _ (List.getElem_mem hk2)
      have hXW : Ext No w W := hXx.trans hRd.X fun y hy e => by have e : y = b8 := e; omega
      have hb2 : Blk W b2 44 [.pointer (some ⟨xb, 0, none⟩)] := hb2x.ext hRd.X fun e => by have e : b2 = b8 := e; omega
      have hbkW := hbk0.extNo hXW
      obtain ⟨pk, pc, hrk, _, hslk, _⟩ := hpsk.get hk2
      rw [hBk2] at hrk hslk
      have hX0W := hXW.size
      have l8W := hb8.lt
      have hxn := fun y (hy : OwnB qx y) => hNx.ne y hy
      have nl2 := hb2.neL hLr
      have nl8 := hb8.neL hLr
      have hX : Ext (fun x => (x = b8 ∨ x = l) ∨ OwnB qx x) W W := Ext.refl _ _
      refine ci_seq (ci_region (wli_pR I_ok rfl (wli_nil (fi_then (ci_region (wli_pR I_ok rfl (wli_nil (fin_begin hRd hLr fun w16 hE16 hL16 => ?_))))))))
      have hb2 := hb2.extL hLr hE16
      have hb8 := hb8.extL hLr hE16
      have hown := hown.ext hE16 fun y hy e => (hxn y hy).2.1 e
      have hXW := hXW.trans hE16 fun y hy e => by have e : y = l := e; have := hRd.lo.1; have := hXx.size; omega
      have hLr := hL16
      have hX := hX.then (hE16.mono fun x _ e => .inl (.inr e))
      refine ci_block (ci_seq (ci_seq (ci_region (wli (.round _) rfl (st_ldb I_ok hb8 rfl rfl (wli_pR I_ok rfl ?_))))))
      rw [IntWalk.i64_in _ (by omega)]
      refine wli (.round _) rfl (st_st I_ok hb8 rfl rfl rfl fun w17 hb8 hE17 hs17 => ?_)
      have hb2 := hb2.ext1 hE17 ne2_8
      have hown := hown.ext hE17 fun y hy e => (hxn y hy).2.2.2 (show y = b8 from e)
      have hXW := hXW.trans hE17 fun y hy e => by have e : y = b8 := e; omega
      have hLr := hl_ext hLr hE17 nl8.symm
      have hX := hX.then (hE17.mono fun x _ e => by have e : x = b8 := e; subst e; exact (.inl (.inl rfl)))
      have hb8 : Blk w17 b8 3 ([.int .i64 ((k + 1 : Nat) : Int)]) := hb8
      refine wli_nil (fi_then ?_)
      refine ci_cutK (α := Bool) [4, 10] rfl (fun z => [(108, .bool z)]) (fun z u => (z = false ∧ Own u qx Bk.length cx 5 1 (bytesU Bk) ∧ u.heap[l]? = some (.loop (busy r)) ∧ Ext No w u) ∧ Blk u b2 44 ([.pointer (some ⟨xb, 0, none⟩)]) ∧ Blk u b8 3 ([.int .i64 ((k + 1 : Nat) : Int)]) ∧ Ext (fun x => (x = b8 ∨ x = l) ∨ OwnB qx x) W u) ?_ ?_
      · refine ci_draw (.round _) rfl rfl 24 [(0, true), (1, true), (2, true), (3, true), (4, true), (5, true), (6, true), (7, true), (8, true), (9, true), (10, true), (11, true), (12, true), (13, true), (14, true), (15, true), (16, true), (17, true), (18, true), (19, true), (20, true), (21, false), (22, true), (23, true)] [] (No) (by kernel_rfl) fun w18 hE18 hs18 => ?_
        have hd2 := hb2
        have hd8 := hb8
        have hownd := hown
        have hXWd := hXW
        have hLrd := hLr
        have hXd := hX
        have hb2 := hb2.extNo hE18
        have hb8 := hb8.extNo hE18
        have hown := hown.ext hE18 fun _ _ => id
        have hXW := hXW.thenNo hE18
        have hLr := hl_ext hLr hE18 id
        have hX := hX.thenNo hE18
        have hC : Ext (No) _ w18 := hE18.no
        refine wd_k I_ok 1 rfl (wd_ld I_ok rfl rfl (fun w' hw' => (hd8.extNo hw').cell rfl) ?_)
        refine wd_k I_ok 2 rfl (wd_caseD 88 rfl (fun hg => ?_) (fun hg => ?_))
        · exact absurd hg (by omega)
        · refine wd_ld I_ok rfl rfl (fun w' hw' => (hd8.extNo hw').cell rfl) ?_
          refine wd_ld I_ok rfl rfl (fun w' hw' => (hd2.extNo hw').cell rfl) ?_
          refine wd_k I_ok 2 rfl (wd_ld I_ok rfl rfl (fun w' hw' => ((hbk0.extNo (hXWd.thenNo hw')).cell rfl)) ?_)
          refine wd_k I_ok 4 rfl (wd_caseD 97 rfl (fun hg => ?_) (fun hg => ?_))
          · exact absurd hg (by omega)
          · refine wd_k I_ok 1 rfl ?_
            refine wd_ld I_ok rfl rfl (fun w' hw' => (hd2.extNo hw').cell rfl) ?_
            refine wd_k I_ok 2 rfl (wd_ld I_ok rfl rfl (fun w' hw' => ((hbk0.extNo (hXWd.thenNo hw')).cell rfl)) ?_)
            refine wd_ld I_ok rfl rfl (fun w' hw' => (hd8.extNo hw').cell rfl) ?_
            refine wd_ix I_ok rfl rfl 1 rfl (k + 1) rfl hk2 (0 + (k + 1) * 1) rfl (wd_ld I_ok rfl rfl (fun w' hw' => ((Seg.ext hqs0 (hXWd.thenNo hw') id) _ _ (by rw [Nat.mul_one]; exact hrk))) ?_)
            refine wd_l rfl (st_call Tryz.call24 rfl rfl rfl rfl rfl rfl (bytesEqual_calls w18 hown.sl (hslk.extNo hXW)) fun v19 w19 hr19 => ⟨(by obtain ⟨rfl, rfl⟩ := hr19; exact hC), ?_⟩)
            obtain ⟨rfl, rfl⟩ := hr19
            have hC := hC
            rw [decide_eq_true rfl]
            refine wd_k I_ok 2 rfl (wd_sw (wb_nil ?_))
            exact f_cut (false) rfl ⟨⟨rfl, hown, hLr, hXW⟩, hb2, hb8, hX⟩
      rintro z w20 ⟨⟨rfl, hown, hLr, hXW⟩, hb2, hb8, hX⟩
      refine ci_condF rfl ?_
      have hmu : MutB w20 qx Bk.length cx := ⟨Bk, rfl, hown⟩
      refine ci_skip (fi_then (ci_seq (ci_region (wli_pR I_ok rfl (wli_nil (fi_then (ci_block ?_)))))))
      refine ci_loopK (α := Nat) [10, 110] rfl (fun z => [(111, .int .i64 (z : Int))]) (fun z u => (z ≤ Bk.length ∧ MutB u qx Bk.length cx ∧ u.heap[l]? = some (.loop (busy r))) ∧ Blk u b2 44 ([.pointer (some ⟨xb, 0, none⟩)]) ∧ Blk u b8 3 ([.int .i64 ((k + 1 : Nat) : Int)]) ∧ Ext (fun x => (x = b8 ∨ x = l) ∨ OwnB qx x) W u) (fun z u => Bk.length - z) (0) rfl ⟨⟨Nat.zero_le _, hmu, hLr⟩, hb2, hb8, hX⟩ ?_
      rintro j w21 ⟨⟨hj, hmu, hLr⟩, hb2, hb8, hX⟩
      refine ci_seq (ci_region (wli_pR I_ok rfl (wli_nil (fi_then (ci_seq (ci_if rfl (fun hc => ?_) (fun hc => ?_)))))))
      · have hjl : j < Bk.length := by omega
        obtain ⟨bl, Lq, xq, rfl, hbl, hLl, hLc, hLi, hset⟩ := hmu.at hjl
        refine ci_skip (fi_then (ci_seq (ci_block (ci_seq (ci_region (wli_pR I_ok rfl (wli_nil (fi_then (ci_region (wli_pR I_ok rfl (wli (.round _) rfl (st_ix I_ok rfl 1 rfl j rfl hjl (0 + j * 1) rfl ?_))))))))))))
        refine wli (.round _) rfl (st_ld I_ok rfl (hbl.cell (by rw [show 0 + j * 1 = j from by omega]; exact hLi)) (wli_pR I_ok rfl ?_))
        rw [byte_next xq]
        refine wli (.round _) rfl (st_ix I_ok rfl 1 rfl j rfl hjl (0 + j * 1) rfl ?_)
        have hblo := hbl
        refine wli (.round _) rfl (st_set I_ok hbl rfl rfl (by omega) fun w22 hbl hE22 hs22 => ?_)
        rw [show 0 + j * 1 = j from by omega] at hbl
        have hb2 := hb2.ext1 hE22 (hb2.ne hblo (by decide))
        have hb8 := hb8.ext1 hE22 (hb8.ne hblo (by decide))
        have hX := hX.then (hE22.mono fun y _ e => .inr (by have e : y = bl := e; rw [e]))
        have hLr := hl_one hLr hE22 hblo
        have hmu := hset _ hbl
        refine wli_nil (f_blockN (fi_then (ci_region (wli_pR I_ok rfl ?_))))
        rw [IntWalk.i64_in _ (by omega)]
        refine wli_nil ?_
        exact f_round (j + 1) rfl ⟨⟨by omega, hmu, hLr⟩, hb2, hb8, hX⟩ (by first | omega | (dsimp only; omega))
      · refine ci_exit ?_
        exact f_thenE (f_thenE (f_blockE (f_blockN (fin_nextV (()) hRd hNx hLr hX (fun y hy => .inl hy) (hb8)))))
    · have hb8 : Blk W b8 3 [.int .i64 (r0.length : Int)] := hJ
      have hX : Ext No w W := hXx.trans hE fun y hy e => by have e : y = b8 := e; omega
      have hT := hTx.step hbn hqn hHn hE fun y e => by have e : y = b8 := e; omega
      have hb2 : Blk W b2 44 [.pointer (some ⟨xb, 0, none⟩)] := hb2x.ext hE fun e => by have e : b2 = b8 := e; omega
      have hb4 : Blk W b4 4 [.bool false] := hb4x.ext hE fun e => by have e : b4 = b8 := e; omega
      have hmk1 := hmk
      have hD1w : w.heap.size ≤ D1 := by have := hXx.size; omega
      refine f_blockN (f_then (c_seq (c_draw rfl 8 [(0, true), (1, true), (2, true), (3, true), (4, true), (5, true), (6, true), (7, true)] [] (No) (by kernel_rfl) fun w23 hE23 hs23 => ?_)))
      have hd2 := hb2
      have hd4 := hb4
      have hd8 := hb8
      have hTd := hT
      have hmk1d := hmk1
      have hXd := hX
      have hb2 := hb2.extNo hE23
      have hb4 := hb4.extNo hE23
      have hb8 := hb8.extNo hE23
      have hT := hT.step hbn hqn hHn hE23 fun y e => e.elim
      have hmk1 := hl_ext hmk1 hE23 id
      have hX := hX.thenNo hE23
      have hC : Ext (No) _ w23 := hE23.no
      refine wd_ld I_ok rfl rfl (fun w' hw' => (hd8.extNo hw').cell rfl) ?_
      refine wd_ld I_ok rfl rfl (fun w' hw' => (hd2.extNo hw').cell rfl) ?_
      refine wd_k I_ok 2 rfl (wd_ld I_ok rfl rfl (fun w' hw' => ((hbk0.extNo (hXd.thenNo hw')).cell rfl)) ?_)
      refine wd_k I_ok 3 rfl ?_
      rw [IntWalk.i64_in _ (by omega)]
      refine wd_sw (wb_nil (f_then (c_if rfl (fun hc => ?_) (fun hc => ?_))))
      · exact absurd hc (by omega)
      · refine c_skip ?_
        refine f_blockN (f_then (c_region (wl_p I_ok rfl ?_)))
        rw [IntWalk.i64_in _ (by omega)]
        refine wl_nil (f_again (c_seq (c_region (wl_p I_ok rfl (wl_nil (f_then (c_seq (c_condT rfl (c_skip (f_then (c_seq (c_block (c_seq (c_region (wl_p I_ok rfl ?_)))))))))))))))
        have hnT := hT.2.2.2
        have hDl := heap_lt hmk1
        refine wl (st_call Tryz.call74 rfl rfl rfl rfl rfl rfl (snapshot_calls w23 (hL.extNo hX) hne (hsh _ (List.getElem_mem hne))) fun v24 w24 hr24 => ?_)
        obtain ⟨q1, k1, rfl, hq1, hnq1, hE24⟩ := hr24
        have hb2 := hb2.extNo hE24
        have hb4 := hb4.extNo hE24
        have hb8 := hb8.extNo hE24
        have hT := hT.step hbn hqn hHn hE24 fun y e => e.elim
        have hmk1 := hl_ext hmk1 hE24 id
        have hX := hX.thenNo hE24
        rw [hs0] at hq1 ⊢
        have hn1 : ∀ y, OwnB q1 y → n3 ≤ y := fun y hy => by have := hnq1 y hy; omega
        have hqD : ∀ y, OwnB q1 y → y ≠ D1 := fun y hy e => by have := hnq1 y hy; omega
        refine wl_p I_ok rfl (wl_nil (f_then (c_seq (c_seq (c_region (wl_p I_ok rfl (wl (st_ldb I_ok hb2 rfl rfl (wl_p I_ok rfl ?_)))))))))
        obtain ⟨pb0, pc0, hr0, _, hsl0, _⟩ := (hpsk.ext hX fun _ _ _ => id).get hne
        rw [hs0] at hr0 hsl0
        refine wl (st_ld I_ok rfl ((hbk0.extNo hX).cell rfl) (wl (st_ix I_ok rfl 1 rfl 0 rfl hne (0 + 0 * 1) rfl (wl (st_ld I_ok rfl ((Seg.ext hqs0 hX id) _ _ hr0) ?_)))))
        refine wl (st_call Tryz.call24 rfl rfl rfl rfl rfl rfl (bytesEqual_calls w24 hq1.sl hsl0) fun v25 w25 hr25 => ?_)
        obtain ⟨rfl, rfl⟩ := hr25
        rw [decide_eq_true rfl]
        refine wl_p I_ok rfl (wl_nil (f_then (c_condF rfl ?_)))
        have hmu : MutB w25 q1 s0.length k1 := ⟨s0, rfl, hq1⟩
        refine c_skip (f_then (c_seq (c_seq (c_region (wl_p I_ok rfl (wl_nil (f_then (c_block ?_))))))))
        refine c_loopK (α := Nat) [1, 2, 4, 5, 6, 55, 69] rfl (fun z => [(70, .int .i64 (z : Int))]) (fun z u => (z ≤ s0.length ∧ MutB u q1 s0.length k1 ∧ AllI u bA cA n3 qA rowsA r0 Hl ∧ u.heap[D1]? = some mark0) ∧ Blk u b2 44 ([.pointer (some ⟨xb, 0, none⟩)]) ∧ Blk u b4 4 ([.bool false]) ∧ Ext No w u) (fun z u => s0.length - z) (0) rfl ⟨⟨Nat.zero_le _, hmu, hT, hmk1⟩, hb2, hb4, hX⟩ ?_
        rintro i w26 ⟨⟨hi, hmu, hT, hmk1⟩, hb2, hb4, hX⟩
        refine c_seq (c_region (wl_p I_ok rfl (wl_nil (f_then (c_seq (c_if rfl (fun hc => ?_) (fun hc => ?_)))))))
        · have hil : i < s0.length := by omega
          obtain ⟨bl, Lq, xq, rfl, hbl, hLl, hLc, hLi, hset⟩ := hmu.at hil
          have hbln : n3 ≤ bl := hn1 bl rfl
          refine c_skip (f_then (c_seq (c_block (c_seq (c_region (wl_p I_ok rfl (wl_nil (f_then (c_region (wl_p I_ok rfl (wl (st_ix I_ok rfl 1 rfl i rfl hil (0 + i * 1) rfl ?_))))))))))))
          refine wl (st_ld I_ok rfl (hbl.cell (by rw [show 0 + i * 1 = i from by omega]; exact hLi)) (wl_p I_ok rfl ?_))
          rw [byte_next xq]
          refine wl (st_ix I_ok rfl 1 rfl i rfl hil (0 + i * 1) rfl ?_)
          have hblo := hbl
          refine wl (st_set I_ok hbl rfl rfl (by omega) fun w27 hbl hE27 hs27 => ?_)
          rw [show 0 + i * 1 = i from by omega] at hbl
          have hb2 := hb2.ext1 hE27 fun e => by omega
          have hb4 := hb4.ext1 hE27 fun e => by omega
          have hX := hX.trans hE27 fun y hy e => by have e : y = bl := e; omega
          have hT := hT.step hbn hqn hHn hE27 fun y e => by have e : y = bl := e; omega
          have hmu := hset _ hbl
          have hmk1 := hl_ext hmk1 hE27 fun e => hqD bl rfl (show D1 = bl from e).symm
          refine wl_nil (f_blockN (f_then (c_region (wl_p I_ok rfl ?_))))
          rw [IntWalk.i64_in _ (by omega)]
          refine wl_nil ?_
          exact f_round (i + 1) rfl ⟨⟨by omega, hmu, hT, hmk1⟩, hb2, hb4, hX⟩ (by first | omega | (dsimp only; omega))
        · refine c_exit ?_
          refine f_thenE (f_thenE (f_blockE (f_then (c_seq (c_region ?_)))))
          have hnT := hT.2.2.2
          have hDl := heap_lt hmk1
          refine wl (st_al I_ok rfl fun b8 w28 hn8 hb8 hE28 => ?_)
          have ne2_8 : b2 ≠ b8 := Nat.ne_of_lt (Nat.lt_of_lt_of_le hb2.lt hn8)
          have ne4_8 : b4 ≠ b8 := Nat.ne_of_lt (Nat.lt_of_lt_of_le hb4.lt hn8)
          have fr8 := Nat.le_trans hX.size hn8
          have hb2 := hb2.extNo hE28
          have hb4 := hb4.extNo hE28
          have hT := hT.step hbn hqn hHn hE28 fun y e => e.elim
          have hmk1 := hl_ext hmk1 hE28 id
          have hX := hX.thenNo hE28
          have n3_8 : n3 ≤ b8 := by omega
          have nd1_8 : D1 ≠ b8 := by omega
          refine wl (st_st I_ok hb8 rfl rfl rfl fun w29 hb8 hE29 hs29 => ?_)
          have hb2 := hb2.ext1 hE29 ne2_8
          have hb4 := hb4.ext1 hE29 ne4_8
          have hT := hT.step hbn hqn hHn hE29 fun y e => by have e : y = b8 := e; rw [e]; exact n3_8
          have hmk1 := hl_ext hmk1 hE29 fun e => nd1_8 e
          have hX := hX.thenNew hE29 fr8
          have hb8 : Blk w29 b8 3 ([.int .i64 ((0 : Nat) : Int)]) := hb8
          refine wl_nil (f_then (c_seq (c_seq (c_region (wl_p I_ok rfl (wl_nil (f_then (c_block ?_))))))))
          have hXx := hX
          have hTx := hT
          have hb2x := hb2
          have hb4x := hb4
          have fr8x := fr8
          have l8x := hb8.lt
          have hmkx := hmk1
          refine c_iterV (toldC w29 b8) (()) rfl Tryz.call59 rfl AllA.size (fun w1 hE1 => all1_iter w1 (ps := r0) (hT.1.extNo hE1) (by by_cases h0 : r0.length = 0; exact ⟨hT.2.1.1, .inl h0⟩; exact hT.2.1.ext hE1 fun _ _ _ => id) (hT.2.2.1.ext hE1 fun _ _ _ => id) (fun y off e h0 => by have := hqn y off e h0; have := hT.2.2.2; have := hE1.size; omega) (fun y hy => by have := hHn y hy; have := hT.2.2.2; have := hE1.size; omega) (by omega) (fun b hb => hsh b (by rw [hp0]; exact List.mem_cons_of_mem _ hb))) (fun y hy => by
  have hsz := hT.2.2.2
  rcases hy with ⟨off, e, h⟩ | hy
  · have h1 := hqn y off e h
    exact ⟨by omega, fun e2 => by have e2 : y = b8 := e2; omega⟩
  · have h1 := hHn y hy
    exact ⟨by omega, fun e2 => by have e2 : y = b8 := e2; omega⟩) hb8 (fun l DD r k z W vs Xn hRd hNx hJ hk hA => ?_) (fun D2 z W hJ hE hsub hDn hmk hnd => ?_) (fun D2 k c z W hk hJ hE hsub hDn hmk hnd => ?_)
          · have hLr := hRd.l
            have hb8 : Blk W b8 3 [.int .i64 (k : Int)] := hJ
            obtain ⟨qx, cx, rfl, hown, rfl⟩ := hA
            have hkr : k < r0.length := hk
            obtain ⟨Bk, hBk⟩ : ∃ Bk, Bk = r0.getD k [] := ⟨_, rfl⟩
            have hBg : W9.pieces[k + 1]? = some Bk := by rw [hp0, hBk]; simp [hkr]
            have hk2 : k + 1 < W9.pieces.length := by omega
            have hBk2 : W9.pieces[k + 1] = Bk := by rw [List.getElem?_eq_getElem hk2] at hBg; exact Option.some.inj hBg
            rw [← hBk] at hown ⊢
            have hBl : Bk.length < 1000000000 := by rw [← hBk2]; exact hsh _ (List.getElem_mem hk2)
            have hXW : Ext No w W := hXx.trans hRd.X fun y hy e => by have e : y = b8 := e; omega
            have hb2 : Blk W b2 44 [.pointer (some ⟨xb, 0, none⟩)] := hb2x.ext hRd.X fun e => by have e : b2 = b8 := e; omega
            have hbkW := hbk0.extNo hXW
            obtain ⟨pk, pc, hrk, _, hslk, _⟩ := hpsk.get hk2
            rw [hBk2] at hrk hslk
            have hX0W := hXW.size
            have l8W := hb8.lt
            have hxn := fun y (hy : OwnB qx y) => hNx.ne y hy
            have nl2 := hb2.neL hLr
            have nl8 := hb8.neL hLr
            have hX : Ext (fun x => (x = b8 ∨ x = l) ∨ OwnB qx x) W W := Ext.refl _ _
            refine ci_seq (ci_region (wli_pR I_ok rfl (wli_nil (fi_then (ci_region (wli_pR I_ok rfl (wli_nil (fin_begin hRd hLr fun w30 hE30 hL30 => ?_))))))))
            have hb2 := hb2.extL hLr hE30
            have hb8 := hb8.extL hLr hE30
            have hown := hown.ext hE30 fun y hy e => (hxn y hy).2.1 e
            have hXW := hXW.trans hE30 fun y hy e => by have e : y = l := e; have := hRd.lo.1; have := hXx.size; omega
            have hLr := hL30
            have hX := hX.then (hE30.mono fun x _ e => .inl (.inr e))
            refine ci_block (ci_seq (ci_seq (ci_region (wli (.round _) rfl (st_ldb I_ok hb8 rfl rfl (wli_pR I_ok rfl ?_))))))
            rw [IntWalk.i64_in _ (by omega)]
            refine wli (.round _) rfl (st_st I_ok hb8 rfl rfl rfl fun w31 hb8 hE31 hs31 => ?_)
            have hb2 := hb2.ext1 hE31 ne2_8
            have hown := hown.ext hE31 fun y hy e => (hxn y hy).2.2.2 (show y = b8 from e)
            have hXW := hXW.trans hE31 fun y hy e => by have e : y = b8 := e; omega
            have hLr := hl_ext hLr hE31 nl8.symm
            have hX := hX.then (hE31.mono fun x _ e => by have e : x = b8 := e; subst e; exact (.inl (.inl rfl)))
            have hb8 : Blk w31 b8 3 ([.int .i64 ((k + 1 : Nat) : Int)]) := hb8
            refine wli_nil (fi_then ?_)
            refine ci_cutK (α := Bool) [4, 10] rfl (fun z => [(108, .bool z)]) (fun z u => (z = false ∧ Own u qx Bk.length cx 5 1 (bytesU Bk) ∧ u.heap[l]? = some (.loop (busy r)) ∧ Ext No w u) ∧ Blk u b2 44 ([.pointer (some ⟨xb, 0, none⟩)]) ∧ Blk u b8 3 ([.int .i64 ((k + 1 : Nat) : Int)]) ∧ Ext (fun x => (x = b8 ∨ x = l) ∨ OwnB qx x) W u) ?_ ?_
            · refine ci_draw (.round _) rfl rfl 24 [(0, true), (1, true), (2, true), (3, true), (4, true), (5, true), (6, true), (7, true), (8, true), (9, true), (10, true), (11, true), (12, true), (13, true), (14, true), (15, true), (16, true), (17, true), (18, true), (19, true), (20, true), (21, false), (22, true), (23, true)] [] (No) (by kernel_rfl) fun w32 hE32 hs32 => ?_
              have hd2 := hb2
              have hd8 := hb8
              have hownd := hown
              have hXWd := hXW
              have hLrd := hLr
              have hXd := hX
              have hb2 := hb2.extNo hE32
              have hb8 := hb8.extNo hE32
              have hown := hown.ext hE32 fun _ _ => id
              have hXW := hXW.thenNo hE32
              have hLr := hl_ext hLr hE32 id
              have hX := hX.thenNo hE32
              have hC : Ext (No) _ w32 := hE32.no
              refine wd_k I_ok 1 rfl (wd_ld I_ok rfl rfl (fun w' hw' => (hd8.extNo hw').cell rfl) ?_)
              refine wd_k I_ok 2 rfl (wd_caseD 88 rfl (fun hg => ?_) (fun hg => ?_))
              · exact absurd hg (by omega)
              · refine wd_ld I_ok rfl rfl (fun w' hw' => (hd8.extNo hw').cell rfl) ?_
                refine wd_ld I_ok rfl rfl (fun w' hw' => (hd2.extNo hw').cell rfl) ?_
                refine wd_k I_ok 2 rfl (wd_ld I_ok rfl rfl (fun w' hw' => ((hbk0.extNo (hXWd.thenNo hw')).cell rfl)) ?_)
                refine wd_k I_ok 4 rfl (wd_caseD 97 rfl (fun hg => ?_) (fun hg => ?_))
                · exact absurd hg (by omega)
                · refine wd_k I_ok 1 rfl ?_
                  refine wd_ld I_ok rfl rfl (fun w' hw' => (hd2.extNo hw').cell rfl) ?_
                  refine wd_k I_ok 2 rfl (wd_ld I_ok rfl rfl (fun w' hw' => ((hbk0.extNo (hXWd.thenNo hw')).cell rfl)) ?_)
                  refine wd_ld I_ok rfl rfl (fun w' hw' => (hd8.extNo hw').cell rfl) ?_
                  refine wd_ix I_ok rfl rfl 1 rfl (k + 1) rfl hk2 (0 + (k + 1) * 1) rfl (wd_ld I_ok rfl rfl (fun w' hw' => ((Seg.ext hqs0 (hXWd.thenNo hw') id) _ _ (by rw [Nat.mul_one]; exact hrk))) ?_)
                  refine wd_l rfl (st_call Tryz.call24 rfl rfl rfl rfl rfl rfl (bytesEqual_calls w32 hown.sl (hslk.extNo hXW)) fun v33 w33 hr33 => ⟨(by obtain ⟨rfl, rfl⟩ := hr33; exact hC), ?_⟩)
                  obtain ⟨rfl, rfl⟩ := hr33
                  have hC := hC
                  rw [decide_eq_true rfl]
                  refine wd_k I_ok 2 rfl (wd_sw (wb_nil ?_))
                  exact f_cut (false) rfl ⟨⟨rfl, hown, hLr, hXW⟩, hb2, hb8, hX⟩
            rintro z w34 ⟨⟨rfl, hown, hLr, hXW⟩, hb2, hb8, hX⟩
            refine ci_condF rfl ?_
            have hmu : MutB w34 qx Bk.length cx := ⟨Bk, rfl, hown⟩
            refine ci_skip (fi_then (ci_seq (ci_region (wli_pR I_ok rfl (wli_nil (fi_then (ci_block ?_)))))))
            refine ci_loopK (α := Nat) [10, 110] rfl (fun z => [(111, .int .i64 (z : Int))]) (fun z u => (z ≤ Bk.length ∧ MutB u qx Bk.length cx ∧ u.heap[l]? = some (.loop (busy r))) ∧ Blk u b2 44 ([.pointer (some ⟨xb, 0, none⟩)]) ∧ Blk u b8 3 ([.int .i64 ((k + 1 : Nat) : Int)]) ∧ Ext (fun x => (x = b8 ∨ x = l) ∨ OwnB qx x) W u) (fun z u => Bk.length - z) (0) rfl ⟨⟨Nat.zero_le _, hmu, hLr⟩, hb2, hb8, hX⟩ ?_
            rintro j w35 ⟨⟨hj, hmu, hLr⟩, hb2, hb8, hX⟩
            refine ci_seq (ci_region (wli_pR I_ok rfl (wli_nil (fi_then (ci_seq (ci_if rfl (fun hc => ?_) (fun hc => ?_)))))))
            · have hjl : j < Bk.length := by omega
              obtain ⟨bl, Lq, xq, rfl, hbl, hLl, hLc, hLi, hset⟩ := hmu.at hjl
              refine ci_skip (fi_then (ci_seq (ci_block (ci_seq (ci_region (wli_pR I_ok rfl (wli_nil (fi_then (ci_region (wli_pR I_ok rfl (wli (.round _) rfl (st_ix I_ok rfl 1 rfl j rfl hjl (0 + j * 1) rfl ?_))))))))))))
              refine wli (.round _) rfl (st_ld I_ok rfl (hbl.cell (by rw [show 0 + j * 1 = j from by omega]; exact hLi)) (wli_pR I_ok rfl ?_))
              rw [byte_next xq]
              refine wli (.round _) rfl (st_ix I_ok rfl 1 rfl j rfl hjl (0 + j * 1) rfl ?_)
              have hblo := hbl
              refine wli (.round _) rfl (st_set I_ok hbl rfl rfl (by omega) fun w36 hbl hE36 hs36 => ?_)
              rw [show 0 + j * 1 = j from by omega] at hbl
              have hb2 := hb2.ext1 hE36 (hb2.ne hblo (by decide))
              have hb8 := hb8.ext1 hE36 (hb8.ne hblo (by decide))
              have hX := hX.then (hE36.mono fun y _ e => .inr (by have e : y = bl := e; rw [e]))
              have hLr := hl_one hLr hE36 hblo
              have hmu := hset _ hbl
              refine wli_nil (f_blockN (fi_then (ci_region (wli_pR I_ok rfl ?_))))
              rw [IntWalk.i64_in _ (by omega)]
              refine wli_nil ?_
              exact f_round (j + 1) rfl ⟨⟨by omega, hmu, hLr⟩, hb2, hb8, hX⟩ (by first | omega | (dsimp only; omega))
            · refine ci_exit ?_
              exact f_thenE (f_thenE (f_blockE (f_blockN (fin_nextV (()) hRd hNx hLr hX (fun y hy => .inl hy) (hb8)))))
          · have hb8 : Blk W b8 3 [.int .i64 (r0.length : Int)] := hJ
            have hX : Ext No w W := hXx.trans hE fun y hy e => by have e : y = b8 := e; omega
            have hT := hTx.step hbn hqn hHn hE fun y e => by have e : y = b8 := e; omega
            have hb2 : Blk W b2 44 [.pointer (some ⟨xb, 0, none⟩)] := hb2x.ext hE fun e => by have e : b2 = b8 := e; omega
            have hb4 : Blk W b4 4 [.bool false] := hb4x.ext hE fun e => by have e : b4 = b8 := e; omega
            have hmk2 := hmk
            have hD2w : w.heap.size ≤ D2 := by have := hXx.size; omega
            have hmk1 := hl_ext hmkx hE fun e => nd1_8 e
            have hD12 : D1 ≠ D2 := by have := heap_lt hmkx; omega
            refine f_blockN (f_then (c_seq (c_draw rfl 8 [(0, true), (1, true), (2, true), (3, true), (4, true), (5, true), (6, true), (7, true)] [] (No) (by kernel_rfl) fun w37 hE37 hs37 => ?_)))
            have hd2 := hb2
            have hd4 := hb4
            have hd8 := hb8
            have hTd := hT
            have hmk1d := hmk1
            have hmk2d := hmk2
            have hXd := hX
            have hb2 := hb2.extNo hE37
            have hb4 := hb4.extNo hE37
            have hb8 := hb8.extNo hE37
            have hT := hT.step hbn hqn hHn hE37 fun y e => e.elim
            have hmk1 := hl_ext hmk1 hE37 id
            have hmk2 := hl_ext hmk2 hE37 id
            have hX := hX.thenNo hE37
            have hC : Ext (No) _ w37 := hE37.no
            refine wd_ld I_ok rfl rfl (fun w' hw' => (hd8.extNo hw').cell rfl) ?_
            refine wd_ld I_ok rfl rfl (fun w' hw' => (hd2.extNo hw').cell rfl) ?_
            refine wd_k I_ok 2 rfl (wd_ld I_ok rfl rfl (fun w' hw' => ((hbk0.extNo (hXd.thenNo hw')).cell rfl)) ?_)
            refine wd_k I_ok 3 rfl ?_
            rw [IntWalk.i64_in _ (by omega)]
            refine wd_sw (wb_nil (f_then (c_if rfl (fun hc => ?_) (fun hc => ?_))))
            · exact absurd hc (by omega)
            · refine c_skip ?_
              refine f_blockN (f_then (c_region (wl_p I_ok rfl ?_)))
              rw [IntWalk.i64_in _ (by omega)]
              refine wl_nil (f_again (c_seq (c_region (wl_p I_ok rfl (wl_nil (f_then (c_seq (c_condF rfl (c_exit (f_thenE (f_thenE (f_blockE (f_then (c_seq (c_seq (c_region (wl_p I_ok rfl (wl_nil (f_then (c_block ?_))))))))))))))))))))
              have hXx := hX
              have hb4x := hb4
              have hmkx := hmk1
              have hmky := hmk2
              have fr4x := fr4
              refine c_iterV (stopC w37) (()) rfl Tryz.call59 rfl AllA.size (fun w1 hE1 => all1_iter w1 (ps := r0) (hT.1.extNo hE1) (by by_cases h0 : r0.length = 0; exact ⟨hT.2.1.1, .inl h0⟩; exact hT.2.1.ext hE1 fun _ _ _ => id) (hT.2.2.1.ext hE1 fun _ _ _ => id) (fun y off e h0 => by have := hqn y off e h0; have := hT.2.2.2; have := hE1.size; omega) (fun y hy => by have := hHn y hy; have := hT.2.2.2; have := hE1.size; omega) (by omega) (fun b hb => hsh b (by rw [hp0]; exact List.mem_cons_of_mem _ hb))) (fun y hy => by
  have hsz := hT.2.2.2
  rcases hy with ⟨off, e, h⟩ | hy
  · have h1 := hqn y off e h
    exact ⟨by omega, fun e2 => e2⟩
  · have h1 := hHn y hy
    exact ⟨by omega, fun e2 => e2⟩) rfl (fun l DD r k z W vs Xn hRd hNx hJ hk hA => ?_) (fun D3 z W hJ hE hsub hDn hmk hnd => ?_) (fun D3 k c z W hk hJ hE hsub hDn hmk hnd => ?_)
              · have hLr := hRd.l
                obtain ⟨qx, cx, rfl, hown, rfl⟩ := hA
                have hX : Ext (fun x => (False ∨ x = l) ∨ OwnB qx x) W W := Ext.refl _ _
                refine ci_skip (fin_begin hRd hLr fun w38 hE38 hL38 => ?_)
                have hLr := hL38
                have hX := hX.then (hE38.mono fun x _ e => .inl (.inr e))
                refine ci_block (ci_exit ?_)
                exact f_blockE' rfl (fin_stopV (.inr ⟨8, rfl, rfl⟩) (()) hRd hNx hLr hX (fun y hy => .inl hy) (⟨hJ, rfl⟩))
              · have hX : Ext No w W := hXx.trans hE fun y hy e => e.elim
                have hb4 : Blk W b4 4 [.bool false] := hb4x.ext hE id
                have hmk3 := hmk
                have hmk1 := hl_ext hmkx hE id
                have hmk2 := hl_ext hmky hE id
                have hD13 : D1 ≠ D3 := by have := heap_lt hmkx; omega
                have hD23 : D2 ≠ D3 := by have := heap_lt hmky; omega
                have l4 := hb4.lt
                have nd41 : b4 ≠ D1 := fun e => by
                  rw [e] at hb4; unfold Blk at hb4; rw [hmk1] at hb4; cases hb4
                have nd42 : b4 ≠ D2 := fun e => by
                  rw [e] at hb4; unfold Blk at hb4; rw [hmk2] at hb4; cases hb4
                have nd43 : b4 ≠ D3 := fun e => by
                  rw [e] at hb4; unfold Blk at hb4; rw [hmk3] at hb4; cases hb4
                have hD3w : w.heap.size ≤ D3 := by have := hXx.size; omega
                have nd4 : b4 ≠ D1 ∧ b4 ≠ D2 ∧ b4 ≠ D3 := ⟨nd41, nd42, nd43⟩
                refine f_blockN (f_then (c_seq (c_region (wl (st_st I_ok hb4 rfl rfl rfl fun w39 hb4 hE39 hs39 => ?_)))))
                have hmk1 := hl_ext hmk1 hE39 fun e => nd4.1 (show D1 = b4 from e).symm
                have hmk2 := hl_ext hmk2 hE39 fun e => nd4.2.1 (show D2 = b4 from e).symm
                have hmk3 := hl_ext hmk3 hE39 fun e => nd4.2.2 (show D3 = b4 from e).symm
                have hX := hX.thenNew hE39 fr4
                refine wl_nil (f_then (c_ret ?_))
                refine f_retMs [D3, D2, D1] (by simp [hD13.symm, hD23.symm, hD12.symm]) (fun x hx => by simp only [List.mem_cons, List.not_mem_nil, or_false] at hx; rcases hx with rfl | rfl | rfl; exact hmk3; exact hmk2; exact hmk1) [.bool true] (fun w20 hE20 => ?_) (.inl rfl)
                have hb4 := hb4.ext hE20 fun e => by simp only [List.mem_cons, List.not_mem_nil, or_false] at e; rcases e with e | e | e; exact nd4.2.2 e; exact nd4.2.1 e; exact nd4.1 e
                refine ⟨⟨⟨b4, 0, rfl, ld_one I_ok rfl rfl (hb4.cell rfl)⟩, trivial⟩, rfl, hX.trans hE20 fun y hy e => ?_⟩
                simp only [List.mem_cons, List.not_mem_nil, or_false] at e
                rcases e with rfl | rfl | rfl <;> omega
              · have hX : Ext No w W := hXx.trans hE fun y hy e => e.elim
                have hb4 : Blk W b4 4 [.bool false] := hb4x.ext hE id
                have hmk3 := hmk
                have hmk1 := hl_ext hmkx hE id
                have hmk2 := hl_ext hmky hE id
                have hD13 : D1 ≠ D3 := by have := heap_lt hmkx; omega
                have hD23 : D2 ≠ D3 := by have := heap_lt hmky; omega
                have l4 := hb4.lt
                have nd41 : b4 ≠ D1 := fun e => by
                  rw [e] at hb4; unfold Blk at hb4; rw [hmk1] at hb4; cases hb4
                have nd42 : b4 ≠ D2 := fun e => by
                  rw [e] at hb4; unfold Blk at hb4; rw [hmk2] at hb4; cases hb4
                have nd43 : b4 ≠ D3 := fun e => by
                  rw [e] at hb4; unfold Blk at hb4; rw [hmk3] at hb4; cases hb4
                have hD3w : w.heap.size ≤ D3 := by have := hXx.size; omega
                have nd4 : b4 ≠ D1 ∧ b4 ≠ D2 ∧ b4 ≠ D3 := ⟨nd41, nd42, nd43⟩
                obtain ⟨rfl, rfl⟩ := hJ
                refine c_exit (f_blockE (f_then (c_seq (c_region (wl (st_st I_ok hb4 rfl rfl rfl fun w40 hb4 hE40 hs40 => ?_))))))
                have hmk1 := hl_ext hmk1 hE40 fun e => nd4.1 (show D1 = b4 from e).symm
                have hmk2 := hl_ext hmk2 hE40 fun e => nd4.2.1 (show D2 = b4 from e).symm
                have hmk3 := hl_ext hmk3 hE40 fun e => nd4.2.2 (show D3 = b4 from e).symm
                have hX := hX.thenNew hE40 fr4
                refine wl_nil (f_then (c_ret ?_))
                refine f_retMs [D3, D2, D1] (by simp [hD13.symm, hD23.symm, hD12.symm]) (fun x hx => by simp only [List.mem_cons, List.not_mem_nil, or_false] at hx; rcases hx with rfl | rfl | rfl; exact hmk3; exact hmk2; exact hmk1) [.bool true] (fun w20 hE20 => ?_) (.inl rfl)
                have hb4 := hb4.ext hE20 fun e => by simp only [List.mem_cons, List.not_mem_nil, or_false] at e; rcases e with e | e | e; exact nd4.2.2 e; exact nd4.2.1 e; exact nd4.1 e
                refine ⟨⟨⟨b4, 0, rfl, ld_one I_ok rfl rfl (hb4.cell rfl)⟩, trivial⟩, rfl, hX.trans hE20 fun y hy e => ?_⟩
                simp only [List.mem_cons, List.not_mem_nil, or_false] at e
                rcases e with rfl | rfl | rfl <;> omega
          · exact hJ.elim
    · exact hJ.elim
end Go.Proofs.YtlfdlodcjiaiiaaGreatDoor
namespace Go.Proofs.YtlfdlodcjiaiiaaGreatDoor
open Go.Vc
/-- the blocks: of the first disk, of the log, of the second disk, of the book -/
abbrev PZ := (Nat → Prop) × (Nat → Prop) × (Nat → Prop) × (Nat → Prop)
def PZ.any (z : PZ) : Nat → Prop := fun y => z.1 y ∨ z.2.1 y ∨ z.2.2.1 y ∨ z.2.2.2 y
structure PairAt (w u : World) (d1 d2 x xb : Nat) (z : PZ) (W1 W2 : Wl) : Prop where
  a1 : At u d1 z.1 W1.D
  l1 : LogAt u x d1 z.2.1 W1
  a2 : At u d2 z.2.2.1 W2.D
  b2 : BookAt u xb d2 z.2.2.2 W2
  lo : ∀ y, z.any y → w.heap.size ≤ y ∧ y < u.heap.size
  n1 : ∀ y, z.1 y → ¬ z.2.1 y ∧ ¬ z.2.2.1 y ∧ ¬ z.2.2.2 y
  n2 : ∀ y, z.2.1 y → ¬ z.2.2.1 y ∧ ¬ z.2.2.2 y
  n3 : ∀ y, z.2.2.1 y → ¬ z.2.2.2 y
  rt : Rt u
theorem PairAt.ext {S : Nat → Prop} {w u u' : World} {d1 d2 x xb : Nat} {z : PZ} {W1 W2 : Wl} (h : PairAt w u d1 d2 x xb z W1 W2) (hE : Ext S u u') (hS : ∀ y, z.any y → ¬ S y) (h0 : ¬ S 0) : PairAt w u' d1 d2 x xb z W1 W2 :=
  ⟨h.a1.ext hE fun y hy => hS y (.inl hy), h.l1.ext hE fun y hy => hS y (.inr (.inl hy)), h.a2.ext hE fun y hy => hS y (.inr (.inr (.inl hy))), h.b2.ext hE fun y hy => hS y (.inr (.inr (.inr hy))), fun y hy => ⟨(h.lo y hy).1, Nat.lt_of_lt_of_le (h.lo y hy).2 hE.size⟩, h.n1, h.n2, h.n3, Rt.ext h.rt hE h0⟩
theorem PairAt.extNo {w u u' : World} {d1 d2 x xb : Nat} {z : PZ} {W1 W2 : Wl} (h : PairAt w u d1 d2 x xb z W1 W2) (hE : Ext No u u') : PairAt w u' d1 d2 x xb z W1 W2 := h.ext hE (fun _ _ => id) id
theorem PairAt.ext1 {w u u' : World} {d1 d2 x xb b : Nat} {z : PZ} {W1 W2 : Wl} (h : PairAt w u d1 d2 x xb z W1 W2) (hE : Ext (One b) u u') (hb : ¬ z.any b) (h0 : b ≠ 0) : PairAt w u' d1 d2 x xb z W1 W2 := h.ext hE (fun y hy e => by have e : y = b := e; rw [e] at hy; exact hb hy) (fun e => h0 (show 0 = b from e).symm)
/-- what turns the first disk and the log alone -/
theorem PairAt.first {w u u' : World} {d1 d2 x xb : Nat} {z : PZ} {W1 W2 W1' : Wl} {F' H' : Nat → Prop} (h : PairAt w u d1 d2 x xb z W1 W2) (hw : 0 < w.heap.size) (hX : Ext No w u)
    (h1 : At u' d1 F' W1'.D) (h2 : LogAt u' x d1 H' W1') (h3 : ∀ y, F' y → z.1 y ∨ u.heap.size ≤ y) (h4 : ∀ y, H' y → z.2.1 y ∨ u.heap.size ≤ y) (h5 : ∀ y, H' y → ¬ F' y) (hE : Ext (fun y => z.1 y ∨ z.2.1 y) u u') :
    PairAt w u' d1 d2 x xb (F', H', z.2.2.1, z.2.2.2) W1' W2 ∧ Ext No w u' ∧ Ext z.any u u' ∧ ∀ y, PZ.any (F', H', z.2.2.1, z.2.2.2) y → z.any y ∨ u.heap.size ≤ y := by
  have hs := hX.size
  have hs2 := hE.size
  have hl := h1.lt
  have hl2 := h2.lt
  have hw1 : ∀ y, F' y → z.1 y ∨ u.heap.size ≤ y := h3
  have d3 : ∀ y, F' y ∨ H' y → ¬ z.2.2.1 y ∧ ¬ z.2.2.2 y := fun y hy => by
    have : (z.1 y ∨ z.2.1 y) ∨ u.heap.size ≤ y := hy.elim (fun e => (h3 y e).imp .inl id) fun e => (h4 y e).imp .inr id
    rcases this with (e | e) | e
    · exact (h.n1 y e).2
    · exact h.n2 y e
    · exact ⟨fun g => by have := (h.lo y (.inr (.inr (.inl g)))).2; omega, fun g => by have := (h.lo y (.inr (.inr (.inr g)))).2; omega⟩
  refine ⟨⟨h1, h2, h.a2.ext hE fun y hy e => ?_, h.b2.ext hE fun y hy e => ?_, fun y hy => ?_, fun y hy => ⟨fun e => h5 y e hy, d3 y (.inl hy)⟩, fun y hy => d3 y (.inr hy), h.n3, Rt.ext h.rt hE fun e => ?_⟩, hX.trans hE fun y hy e => ?_, hE.mono fun y _ e => e.imp id .inl, fun y hy => ?_⟩
  · exact e.elim (fun e => (h.n1 y e).2.1 hy) fun e => (h.n2 y e).1 hy
  · exact e.elim (fun e => (h.n1 y e).2.2 hy) fun e => (h.n2 y e).2 hy
  · rcases hy with hy | hy | hy | hy
    · exact ⟨(h3 y hy).elim (fun e => (h.lo y (.inl e)).1) fun e => by omega, hl y hy⟩
    · exact ⟨(h4 y hy).elim (fun e => (h.lo y (.inr (.inl e))).1) fun e => by omega, hl2 y hy⟩
    · have := h.lo y (.inr (.inr (.inl hy))); exact ⟨this.1, Nat.lt_of_lt_of_le this.2 hs2⟩
    · have := h.lo y (.inr (.inr (.inr hy))); exact ⟨this.1, Nat.lt_of_lt_of_le this.2 hs2⟩
  · have := (h.lo 0 (e.elim (fun e => .inl e) fun e => .inr (.inl e))).1; omega
  · have := (h.lo y (e.elim (fun e => .inl e) fun e => .inr (.inl e))).1; omega
  · rcases hy with hy | hy | hy | hy
    · exact (h3 y hy).imp (fun e => .inl e) id
    · exact (h4 y hy).imp (fun e => .inr (.inl e)) id
    · exact .inl (.inr (.inr (.inl hy)))
    · exact .inl (.inr (.inr (.inr hy)))
/-- what turns the second disk and the book alone -/
theorem PairAt.second {w u u' : World} {d1 d2 x xb : Nat} {z : PZ} {W1 W2 W2' : Wl} {F' H' K : Nat → Prop} (h : PairAt w u d1 d2 x xb z W1 W2) (hw : 0 < w.heap.size) (hX : Ext No w u) (hK : ∀ y, K y → (w.heap.size ≤ y ∧ y < u.heap.size) ∧ ¬ z.any y)
    (h1 : At u' d2 F' W2'.D) (h2 : BookAt u' xb d2 H' W2') (h3 : ∀ y, F' y → z.2.2.1 y ∨ u.heap.size ≤ y) (h4 : ∀ y, H' y → (z.2.2.2 y ∨ K y) ∨ u.heap.size ≤ y) (h5 : ∀ y, H' y → ¬ F' y) (hE : Ext (fun y => z.2.2.1 y ∨ z.2.2.2 y) u u') :
    PairAt w u' d1 d2 x xb (z.1, z.2.1, F', H') W1 W2' ∧ Ext No w u' ∧ Ext z.any u u' ∧ ∀ y, PZ.any (z.1, z.2.1, F', H') y → (z.any y ∨ K y) ∨ u.heap.size ≤ y := by
  have hs := hX.size
  have hs2 := hE.size
  have hl := h1.lt
  have hl2 := h2.lt
  have d3 : ∀ y, F' y ∨ H' y → ¬ z.1 y ∧ ¬ z.2.1 y := fun y hy => by
    have : (z.2.2.1 y ∨ z.2.2.2 y ∨ K y) ∨ u.heap.size ≤ y := hy.elim (fun e => (h3 y e).imp .inl id) fun e => (h4 y e).imp .inr id
    rcases this with (e | e | e) | e
    · exact ⟨fun g => (h.n1 y g).2.1 e, fun g => (h.n2 y g).1 e⟩
    · exact ⟨fun g => (h.n1 y g).2.2 e, fun g => (h.n2 y g).2 e⟩
    · exact ⟨fun g => (hK y e).2 (.inl g), fun g => (hK y e).2 (.inr (.inl g))⟩
    · exact ⟨fun g => by have := (h.lo y (.inl g)).2; omega, fun g => by have := (h.lo y (.inr (.inl g))).2; omega⟩
  refine ⟨⟨h.a1.ext hE fun y hy e => ?_, h.l1.ext hE fun y hy e => ?_, h1, h2, fun y hy => ?_, fun y hy => ⟨(h.n1 y hy).1, fun e => (d3 y (.inl e)).1 hy, fun e => (d3 y (.inr e)).1 hy⟩, fun y hy => ⟨fun e => (d3 y (.inl e)).2 hy, fun e => (d3 y (.inr e)).2 hy⟩, fun y hy e => h5 y e hy, Rt.ext h.rt hE fun e => ?_⟩, hX.trans hE fun y hy e => ?_, hE.mono fun y _ e => .inr (.inr e), fun y hy => ?_⟩
  · exact e.elim (fun e => (h.n1 y hy).2.1 e) fun e => (h.n1 y hy).2.2 e
  · exact e.elim (fun e => (h.n2 y hy).1 e) fun e => (h.n2 y hy).2 e
  · rcases hy with hy | hy | hy | hy
    · have := h.lo y (.inl hy); exact ⟨this.1, Nat.lt_of_lt_of_le this.2 hs2⟩
    · have := h.lo y (.inr (.inl hy)); exact ⟨this.1, Nat.lt_of_lt_of_le this.2 hs2⟩
    · exact ⟨(h3 y hy).elim (fun e => (h.lo y (.inr (.inr (.inl e)))).1) fun e => by omega, hl y hy⟩
    · exact ⟨(h4 y hy).elim (fun e => e.elim (fun e => (h.lo y (.inr (.inr (.inr e)))).1) fun e => (hK y e).1.1) fun e => by omega, hl2 y hy⟩
  · have := (h.lo 0 (.inr (.inr e))).1; omega
  · have := (h.lo y (.inr (.inr e))).1; omega
  · rcases hy with hy | hy | hy | hy
    · exact .inl (.inl (.inl hy))
    · exact .inl (.inl (.inr (.inl hy)))
    · exact (h3 y hy).imp (fun e => .inl (.inr (.inr (.inl e)))) id
    · exact (h4 y hy).imp (fun e => e.imp (fun e => .inr (.inr (.inr e))) id) id
theorem PairAt.disk1 {w u u' : World} {d1 d2 x xb : Nat} {z : PZ} {W1 W2 : Wl} {F' : Nat → Prop} {D' : Dsk} (h : PairAt w u d1 d2 x xb z W1 W2) (hw : 0 < w.heap.size) (hX : Ext No w u)
    (h1 : At u' d1 F' D') (h3 : ∀ y, F' y → z.1 y ∨ u.heap.size ≤ y) (hE : Ext z.1 u u') :
    PairAt w u' d1 d2 x xb (F', z.2.1, z.2.2.1, z.2.2.2) { W1 with D := D' } W2 ∧ Ext No w u' ∧ Ext z.any u u' ∧ ∀ y, PZ.any (F', z.2.1, z.2.2.1, z.2.2.2) y → z.any y ∨ u.heap.size ≤ y := by
  have hl := h.l1.lt
  exact h.first hw hX h1 ((h.l1.ext hE fun y hy e => (h.n1 y e).1 hy).data rfl rfl rfl rfl rfl) h3 (fun y hy => .inl hy) (fun y hy e => (h3 y e).elim (fun g => (h.n1 y g).1 hy) fun g => by have := hl y hy; omega) (hE.mono fun y _ e => .inl e)
theorem PairAt.disk2 {w u u' : World} {d1 d2 x xb : Nat} {z : PZ} {W1 W2 : Wl} {F' : Nat → Prop} {D' : Dsk} (h : PairAt w u d1 d2 x xb z W1 W2) (hw : 0 < w.heap.size) (hX : Ext No w u)
    (h1 : At u' d2 F' D') (h3 : ∀ y, F' y → z.2.2.1 y ∨ u.heap.size ≤ y) (hE : Ext z.2.2.1 u u') :
    PairAt w u' d1 d2 x xb (z.1, z.2.1, F', z.2.2.2) W1 { W2 with D := D' } ∧ Ext No w u' ∧ Ext z.any u u' ∧ ∀ y, PZ.any (z.1, z.2.1, F', z.2.2.2) y → z.any y ∨ u.heap.size ≤ y := by
  have hl := h.b2.lt
  obtain ⟨a, b, c, d⟩ := h.second (W2' := { W2 with D := D' }) (K := fun _ => False) hw hX (fun y e => e.elim) h1 ((h.b2.ext hE fun y hy e => h.n3 y e hy).data rfl rfl rfl rfl rfl) h3 (fun y hy => .inl (.inl hy)) (fun y hy e => (h3 y e).elim (fun g => h.n3 y g hy) fun g => by have := hl y hy; omega) (hE.mono fun y _ e => .inl e)
  exact ⟨a, b, c, fun y hy => (d y hy).imp (fun e => e.elim id fun e => e.elim) id⟩
/-- two disks -/
structure Dk2 (w u : World) (d1 d2 : Nat) (F1 F2 : Nat → Prop) (D1 D2 : Dsk) : Prop where
  a1 : At u d1 F1 D1
  a2 : At u d2 F2 D2
  lo : ∀ y, F1 y ∨ F2 y → w.heap.size ≤ y ∧ y < u.heap.size
  ne : ∀ y, F1 y → ¬ F2 y
  rt : Rt u
theorem Dk2.ext {S F1 F2 : Nat → Prop} {w u u' : World} {d1 d2 : Nat} {D1 D2 : Dsk} (h : Dk2 w u d1 d2 F1 F2 D1 D2) (hE : Ext S u u') (hS : ∀ y, F1 y ∨ F2 y → ¬ S y) (h0 : ¬ S 0) : Dk2 w u' d1 d2 F1 F2 D1 D2 :=
  ⟨h.a1.ext hE fun y hy => hS y (.inl hy), h.a2.ext hE fun y hy => hS y (.inr hy), fun y hy => ⟨(h.lo y hy).1, Nat.lt_of_lt_of_le (h.lo y hy).2 hE.size⟩, h.ne, Rt.ext h.rt hE h0⟩
theorem Dk2.extNo {F1 F2 : Nat → Prop} {w u u' : World} {d1 d2 : Nat} {D1 D2 : Dsk} (h : Dk2 w u d1 d2 F1 F2 D1 D2) (hE : Ext No u u') : Dk2 w u' d1 d2 F1 F2 D1 D2 := h.ext hE (fun _ _ => id) id
theorem Dk2.first {F1 F2 F' : Nat → Prop} {w u u' : World} {d1 d2 : Nat} {D1 D2 D1' : Dsk} (h : Dk2 w u d1 d2 F1 F2 D1 D2) (hw : 0 < w.heap.size) (hX : Ext No w u) (h1 : At u' d1 F' D1') (h3 : ∀ y, F' y → F1 y ∨ u.heap.size ≤ y) (hE : Ext F1 u u') : Dk2 w u' d1 d2 F' F2 D1' D2 ∧ Ext No w u' := by
  have hs := hX.size
  have hl := h1.lt
  refine ⟨⟨h1, h.a2.ext hE fun y hy e => h.ne y e hy, fun y hy => ?_, fun y hy e => ?_, Rt.ext h.rt hE fun e => ?_⟩, hX.trans hE fun y hy e => ?_⟩
  · rcases hy with hy | hy
    · exact ⟨(h3 y hy).elim (fun e => (h.lo y (.inl e)).1) fun e => by omega, hl y hy⟩
    · have := h.lo y (.inr hy); exact ⟨this.1, Nat.lt_of_lt_of_le this.2 hE.size⟩
  · exact (h3 y hy).elim (fun g => h.ne y g e) fun g => by have := (h.lo y (.inr e)).2; omega
  · have := (h.lo 0 (.inl e)).1; omega
  · have := (h.lo y (.inl e)).1; omega
theorem Dk2.second {F1 F2 F' : Nat → Prop} {w u u' : World} {d1 d2 : Nat} {D1 D2 D2' : Dsk} (h : Dk2 w u d1 d2 F1 F2 D1 D2) (hw : 0 < w.heap.size) (hX : Ext No w u) (h1 : At u' d2 F' D2') (h3 : ∀ y, F' y → F2 y ∨ u.heap.size ≤ y) (hE : Ext F2 u u') : Dk2 w u' d1 d2 F1 F' D1 D2' ∧ Ext No w u' := by
  have hs := hX.size
  have hl := h1.lt
  refine ⟨⟨h.a1.ext hE fun y hy e => h.ne y hy e, h1, fun y hy => ?_, fun y hy e => ?_, Rt.ext h.rt hE fun e => ?_⟩, hX.trans hE fun y hy e => ?_⟩
  · rcases hy with hy | hy
    · have := h.lo y (.inl hy); exact ⟨this.1, Nat.lt_of_lt_of_le this.2 hE.size⟩
    · exact ⟨(h3 y hy).elim (fun e => (h.lo y (.inr e)).1) fun e => by omega, hl y hy⟩
  · exact (h3 y e).elim (fun g => h.ne y hy g) fun g => by have := (h.lo y (.inl hy)).2; omega
  · have := (h.lo 0 (.inr e)).1; omega
  · have := (h.lo y (.inr e)).1; omega
theorem Dsk.Ok.fail {D : Dsk} {m : Nat} (h : D.Ok m) (n : Int) (hn : n < 9223372036854775808) : (D.fail n).1.Ok m ∧ (D.fail n).1.secs = D.secs := by
  unfold Dsk.fail
  split
  · exact ⟨h, rfl⟩
  · exact ⟨⟨h.size, h.safe, h.inside, h.count, h.few, h.fuse, setTo_ge n hn, h.done⟩, rfl⟩
theorem Dsk.Ok.arm {D : Dsk} {m : Nat} (h : D.Ok m) (n : Int) (hn : n < 9223372036854775808) : (D.arm n).1.Ok m ∧ (D.arm n).1.secs = D.secs := by
  unfold Dsk.arm
  split
  · exact ⟨h, rfl⟩
  · exact ⟨⟨h.size, h.safe, h.inside, h.count, h.few, setTo_ge n hn, h.fault, h.done⟩, rfl⟩
/-- the same log over another disk of as many sectors -/
theorem Wl.Ok.on {W : Wl} (h : Wl.Ok W) {D : Dsk} (hD : D.secs.length = W.D.secs.length) : Wl.Ok { W with D := D } := ⟨h.size, by show 2 + 2 * W.size ≤ D.secs.length; rw [hD]; exact h.secs, h.turn, h.some, h.short, h.few, h.used, h.room⟩
end Go.Proofs.YtlfdlodcjiaiiaaGreatDoor
namespace Go.Proofs.YtlfdlodcjiaiiaaGreatDoor
open Go.Vc
theorem pieceB_step {t n j : Nat} {b : Bytes} {L : List Bytes} (hj : j < sectN b.length) (hL : j < L.length) (h : (pieceB t n b).take j = L.take j) (he : pieceAt t n b j = L[j]) : (pieceB t n b).take (j + 1) = L.take (j + 1) := by
  have e : (pieceB t n b)[j]? = some (pieceAt t n b j) := by simp [pieceB, hj]
  rw [List.take_succ_eq_append_getElem (by rw [pieceB_length]; exact hj), List.take_succ_eq_append_getElem hL, h, ← he]
  congr 2
  rw [List.getElem?_eq_getElem (by rw [pieceB_length]; exact hj)] at e
  exact Option.some.inj e
theorem pieceB_not {t n j : Nat} {b : Bytes} {L : List Bytes} {K : Nat} (hK : K ≤ L.length) (hj : j < sectN b.length) (hL : j < K) (he : pieceAt t n b j ≠ L[j]) : ¬ pieceB t n b = L.take K := fun h => by
  have e : (pieceB t n b)[j]? = some (pieceAt t n b j) := by simp [pieceB, hj]
  rw [h, List.getElem?_take_of_lt hL, List.getElem?_eq_getElem (by omega)] at e
  exact he (Option.some.inj e).symm
theorem refLies_calls (w : World) {p : Option Addr} {c t n : Nat} {L : List Bytes} (hs : Sl w p L.length 64 (L.flatMap bytesU)) (hL : ∀ b ∈ L, b.length = 64) (hLl : L.length ≤ 100000) (ht : t < 4294967296) (hn : n < 4294967296) :
    CallsV Tryz.prog 98 [.slice p L.length c, .int .u32 (t : Int), .int .u32 (n : Int)] w fun v w' => LiesQ w w' (liesB L t n) v ∧ Ext No w w' := by
  refine calls_enter Tryz.func98 rfl rfl rfl rfl ?_
  have hX := Ext.refl No w
  refine c_seq (c_region (wl_p I_ok rfl (wl_nil (f_then (c_seq (c_seq (c_region (wl_p I_ok rfl (wl_nil (f_then (c_if rfl (fun hc => ?_) (fun hc => ?_))))))))))))
  · have hL0 : L = [] := List.eq_nil_of_length_eq_zero (by omega)
    refine c_seq (c_region (wl_p I_ok rfl (wl_nil (f_then (c_ret (f_thenR (f_ret [_, _] ⟨rfl, rfl, trivial⟩ ?_)))))))
    exact ⟨by rw [hL0]; rfl, hX⟩
  · have hpos : 0 < L.length := by omega
    obtain ⟨pb, po, rfl, hsg0⟩ := hs.rowAll (fun r hr => bytesU_64 (hL r hr)) hpos
    obtain ⟨s0, hs0⟩ : ∃ s0, s0 = L[0] := ⟨_, rfl⟩
    have hs64 : s0.length = 64 := by rw [hs0]; exact hL _ (List.getElem_mem _)
    refine c_skip (f_then (c_seq (c_region (wl_p I_ok rfl (wl (st_ix I_ok rfl 64 rfl 0 rfl hpos (po + 0 * 64) rfl (wl (st_sa I_ok rfl 16 20 64 1 rfl ⟨.inr ⟨rfl, rfl⟩, .inl rfl, .inl rfl, by decide, by decide, by decide⟩ ?_))))))))
    rw [slBase_eq (by decide)]
    obtain ⟨l4, hl4⟩ : ∃ l4, l4 = (s0.drop 16).take 4 := ⟨_, rfl⟩
    have hll4 : l4.length = 4 := by rw [hl4, List.length_take, List.length_drop]; omega
    have hsl4 : SlB w (some ⟨pb, po + 0 * 64 + 16 * 1, none⟩) l4 := ⟨by rw [bytesU_len, Nat.mul_one], .inr ⟨pb, _, rfl, by
      have e := (((hsg0 0 hpos).extNo hX).drop 16).take 4
      rw [← hs0, bytesU_drop, bytesU_take, ← hl4] at e
      exact e⟩⟩
    rw [show Value.slice (some ⟨pb, po + 0 * 64 + 16 * 1, none⟩) (20 - 16) (64 - 16) = .slice (some ⟨pb, po + 0 * 64 + 16 * 1, none⟩) l4.length 48 from by rw [hll4]]
    refine wl (st_call Tryz.call97 rfl rfl rfl rfl rfl rfl ((number_calls w hsl4 (by rw [hll4]; decide)).same) fun v1 w1 hr1 => ?_)
    obtain ⟨rfl, hE1⟩ := hr1
    have hX := hX.thenNo hE1
    obtain ⟨many, hmany⟩ : ∃ many, many = num l4 := ⟨_, rfl⟩
    have hmlt : many < 4294967296 := by have := num_lt l4; rw [hll4] at this; rw [hmany]; exact this
    have hmB : manyB L[0] = many := by rw [hmany, hl4, hs0]; rfl
    rw [← hmany]
    refine wl_p I_ok rfl (wl_nil (f_then (c_seq (c_cutK (α := Bool) [0, 1, 2, 8] rfl (fun z => [(30, .bool z)]) (fun z u => (z = decide (40000 < many ∨ L.length < sectN many)) ∧ Ext No w u) ?_ ?_))))
    · refine c_region ?_
      refine wl_p I_ok rfl (wl_caseD 23 rfl (fun hg => ?_) (fun hg => ?_))
      · refine wl_pk I_ok 7 rfl ?_
        refine wl_nil ?_
        exact f_cut (true) rfl ⟨by symm; rw [decide_eq_true_iff]; exact .inl (by omega), hX⟩
      · refine wl_pk I_ok 2 rfl ?_
        rw [IntWalk.i64_in (many : Int) (by omega)]
        refine wl (st_call Tryz.call68 rfl rfl rfl rfl rfl rfl (refSectors_calls w1 (many : Int)) fun v2 w2 hr2 => ?_)
        obtain ⟨rfl, hE2⟩ := hr2
        have hX := hX.thenNo hE2
        rw [sectZ_nat]
        refine wl_pk I_ok 4 rfl (wl_nil ?_)
        exact f_cut (decide ((sectN many : Int) > (L.length : Int))) rfl ⟨by rw [decide_eq_decide]; omega, hX⟩
    rintro z w3 ⟨rfl, hX⟩
    refine c_if rfl (fun hc => ?_) (fun hc => ?_)
    · have hno := liesB_no hpos t n (by rw [hmB]; exact hc)
      refine c_seq (c_region (wl_p I_ok rfl (wl_nil (f_then (c_ret (f_thenR (f_ret [_, _] ⟨rfl, rfl, trivial⟩ ?_)))))))
      exact ⟨by rw [hno]; rfl, hX⟩
    · have hyes := liesB_yes hpos t n (by rw [hmB]; exact hc)
      rw [hmB] at hyes
      have hm4 : many ≤ 40000 := by omega
      obtain ⟨K, hK⟩ : ∃ K, K = sectN many := ⟨_, rfl⟩
      have hKl : K ≤ L.length := by omega
      have hroom := sectN_room hm4
      have hKp := sectN_pos hm4
      rw [← hK] at hyes hroom hKp
      have hK8 : K ≤ 834 := by rw [hK]; exact sectN_le _
      refine c_skip (f_then (c_seq (c_region (wl_p I_ok rfl (wl_nil (f_then (c_seq (c_seq (c_region (wl_p I_ok rfl (wl_nil (f_then (c_block ?_)))))))))))))
      refine c_loopK (α := Nat × Option Addr × Nat) [0, 1, 2, 8] rfl (fun z => [(9, .slice z.2.1 (allB (L.take z.1)).length z.2.2), (10, .int .i64 (z.1 : Int))]) (fun z u => (z.1 ≤ K ∧ Own u z.2.1 (allB (L.take z.1)).length z.2.2 5 1 (bytesU (allB (L.take z.1))) ∧ (∀ y, OwnB z.2.1 y → w.heap.size ≤ y)) ∧ Ext No w u) (fun z u => K - z.1) (0, none, 0) rfl ⟨⟨Nat.zero_le _, Own.nil _ _ _, fun y hy => (by cases hy)⟩, hX⟩ ?_
      rintro ⟨i, q, k⟩ w4 ⟨⟨hi, hq, hqn⟩, hX⟩
      try dsimp only
      dsimp only at hi hq hqn
      have hal := allB_len hL (i := i) (by omega)
      refine c_seq (c_seq (c_region (wl_p I_ok rfl ?_)))
      rw [IntWalk.i64_in (many : Int) (by omega)]
      refine wl (st_call Tryz.call68 rfl rfl rfl rfl rfl rfl (refSectors_calls w4 (many : Int)) fun v5 w5 hr5 => ?_)
      obtain ⟨rfl, hE5⟩ := hr5
      have hq := hq.ext hE5 fun _ _ => id
      have hX := hX.thenNo hE5
      rw [sectZ_nat, ← hK]
      refine wl_p I_ok rfl (wl_nil (f_then (c_if rfl (fun hc => ?_) (fun hc => ?_))))
      · have hiK : i < K := by omega
        have hiL : i < L.length := by omega
        have hi64 := hL _ (List.getElem_mem hiL)
        refine c_skip (f_then (c_seq (c_block (c_region (wl_p I_ok rfl (wl (st_ix I_ok rfl 64 rfl i rfl hiL (po + i * 64) rfl (wl (st_sa I_ok rfl 16 64 64 1 rfl ⟨.inr ⟨rfl, rfl⟩, .inr ⟨rfl, rfl⟩, .inl rfl, by decide, by decide, by decide⟩ ?_)))))))))
        rw [slBase_eq (by decide)]
        have hsr : SlB w5 (some ⟨pb, po + i * 64 + 16 * 1, none⟩) ((L[i]).drop 16) := ⟨by rw [bytesU_len, Nat.mul_one], .inr ⟨pb, _, rfl, by have e := ((hsg0 i hiL).extNo hX).drop 16; rw [bytesU_drop] at e; exact e⟩⟩
        rw [show Value.slice (some ⟨pb, po + i * 64 + 16 * 1, none⟩) (64 - 16) (64 - 16) = .slice (some ⟨pb, po + i * 64 + 16 * 1, none⟩) ((L[i]).drop 16).length 48 from by rw [List.length_drop, hi64]]
        have hXs := hX.size
        refine wl (st_call Tryz.call94 rfl rfl rfl rfl rfl rfl (both_calls w5 hq.sl hsr (by omega) (by rw [List.length_drop]; omega)) fun v6 w6 hr6 => ?_)
        obtain ⟨q2, k2, rfl, hq2, hqn2, hE6⟩ := hr6
        have hq := hq.ext hE6 fun _ _ => id
        have hX := hX.thenNo hE6
        rw [← allB_take hiL] at hq2 ⊢
        refine wl_p I_ok rfl (wl_nil (f_blockN (f_then (c_region (wl_p I_ok rfl ?_)))))
        rw [IntWalk.i64_in _ (by omega)]
        refine wl_nil ?_
        exact f_round (i + 1, q2, k2) rfl ⟨⟨hiK, hq2, fun y hy => by have := hqn2 y hy; omega⟩, hX⟩ (by first | omega | (dsimp only; omega))
      · have hiK : i = K := by omega
        subst hiK
        refine c_exit (f_thenE (f_thenE (f_blockE (f_then (c_seq (c_region (wl_p I_ok rfl ?_)))))))
        rw [IntWalk.i64_in (many : Int) (by omega)]
        refine wl_p I_ok rfl ?_
        rw [IntWalk.i64_in _ (by omega), show (4 : Int) + (many : Int) = ((4 + many : Nat) : Int) from by omega]
        obtain ⟨A, hA⟩ : ∃ A, A = allB (L.take i) := ⟨_, rfl⟩
        obtain ⟨b, hb⟩ : ∃ b, b = (A.drop 4).take many := ⟨_, rfl⟩
        rw [← hA] at hal hyes hq
        have hqc := hq.cap
        have hbl : b.length = many := by rw [hb, List.length_take, List.length_drop]; omega
        rw [← hb] at hyes
        have hsb : SlB w5 (slBase q 4 k 1) b := by
          have e := Sl.slice hq.sl 4 (4 + many) k (by omega) (by omega) (by omega)
          rw [Nat.mul_one, Nat.mul_one, bytesU_drop, bytesU_take, show 4 + many - 4 = many from by omega, ← hb] at e
          rw [SlB, hbl]
          exact e
        have hqb : ∀ y off, slBase q 4 k 1 = some ⟨y, off, none⟩ → OwnB q y := fun y off e => by
          obtain ⟨bq, lq, hq1, _⟩ : ∃ bq lq, q = some ⟨bq, 0, none⟩ ∧ Blk w5 bq 5 lq := by
            rcases hq with ⟨_, h0, _⟩ | ⟨bq, lq, h1, h2, _⟩
            · omega
            · exact ⟨bq, lq, h1, h2⟩
          obtain ⟨off', e'⟩ := slBase_some e (fun x o sp e => by rw [hq1] at e; cases e; rfl)
          rw [hq1] at e'
          cases e'
          exact hq1
        have hqty : ∀ y, OwnB q y → TyB w5 y 5 := fun y hy => Own.ty hq hy
        refine wl (st_sl I_ok rfl 4 (4 + many) k 1 rfl (.inr ⟨rfl, rfl⟩) (.inl rfl) (.inl rfl) (by omega) (by have := hq.cap; omega) (Nat.le_refl _) ?_)
        dsimp only
        obtain ⟨qb, hqbd⟩ : ∃ qb, qb = slBase q 4 k 1 := ⟨_, rfl⟩
        rw [← hqbd] at hsb hqb ⊢
        rw [show 4 + many - 4 = b.length from by omega]
        have hpn : PieceNew w w5 qb (k - 4) b := ⟨by omega, hsb, fun y off e => ⟨hqn y (hqb y off e), hqty y (hqb y off e)⟩⟩
        refine wl_p I_ok rfl (wl_nil (f_then (c_seq (c_region (wl_p I_ok rfl (wl (st_call Tryz.call65 rfl rfl rfl rfl rfl rfl (refPiece_calls w5 t n ht hn hpn.2.1 (by omega)) fun v7 w7 hr7 => ?_)))))))
        obtain ⟨q5, k5, rfl, ho5, _, hE7⟩ := hr7
        have hpn := hpn.extNo hE7
        have hX := hX.thenNo hE7
        have hKb : sectN b.length = i := by rw [hbl, hK]
        obtain ⟨p5, o5, rfl, hsg5⟩ := ho5.sl.rowAll (fun r hr => bytesU_64 (pieceB_len t n b r hr)) (by rw [pieceB_length]; omega)
        rw [show (pieceB t n b).length = i from by rw [pieceB_length, hKb]]
        have hX12 := Ext.refl No w7
        have hT := Ext.refl No w7
        refine wl_p I_ok rfl (wl_nil (f_then (c_seq (c_seq (c_region (wl_p I_ok rfl (wl_nil (f_then (c_block ?_)))))))))
        refine c_loopK (α := Nat) [0, 11, 12] rfl (fun z => [(13, .int .i64 (z : Int))]) (fun z u => (z ≤ i ∧ (pieceB t n b).take z = L.take z ∧ PieceNew w u qb (k - 4) b ∧ Ext No w7 u) ∧ Ext No w u) (fun z u => i - z) (0) rfl ⟨⟨Nat.zero_le _, rfl, hpn, Ext.refl _ _⟩, hX⟩ ?_
        rintro j w8 ⟨⟨hj0, htk, hpn, hT⟩, hX⟩
        refine c_seq (c_seq (c_region (wl_p I_ok rfl (wl_nil (f_then (c_if rfl (fun hc => ?_) (fun hc => ?_)))))))
        · have hj : j < i := by omega
          have hjL : j < L.length := by omega
          have hp64 := pieceAt_len t n b j
          have hg5 : (pieceB t n b)[j]'(by rw [pieceB_length]; omega) = pieceAt t n b j := by simp [pieceB]
          have hs5 := (hsg5 j (by rw [pieceB_length]; omega)).extNo hT
          rw [hg5] at hs5
          have hL64 := hL _ (List.getElem_mem hjL)
          have hsL := (hsg0 j hjL).extNo hX
          refine c_skip (f_then (c_seq (c_block (c_seq (c_draw rfl 9 [(0, true), (1, true), (2, true), (3, true), (4, true), (5, true), (6, true), (7, true), (8, true)] [] (No) (by kernel_rfl) fun w9 hE9 hs9 => ?_)))))
          have hqd := hq
          have hpnd := hpn
          have hTd := hT
          have hXd := hX
          have hpn := hpn.extNo hE9
          have hT := hT.thenNo hE9
          have hX := hX.thenNo hE9
          have hC : Ext (No) _ w9 := hE9.no
          refine wd_k I_ok 2 rfl (wd_ix I_ok rfl rfl 64 rfl j rfl hj (o5 + j * 64) rfl (wd_ldN I_ok rfl rfl (fun w' hw' => (hs5.extNo hw')) (bytesU_64 hp64) ?_))
          refine wd_k I_ok 2 rfl (wd_ix I_ok rfl rfl 64 rfl j rfl hjL (po + j * 64) rfl (wd_ldN I_ok rfl rfl (fun w' hw' => (hsL.extNo hw')) (bytesU_64 hL64) ?_))
          refine wd_eqA (xs := natsI (pieceAt t n b j)) (ys := natsI L[j]) I_ok rfl rfl (by kernel_rfl) (numB_eq _) (numB_eq _) (by rw [natsI_len, hp64]) (by rw [natsI_len, hL64]) (wd_sw (wb_nil (f_then (c_if rfl (fun hc => ?_) (fun hc => ?_)))))
          · rw [if_neg (pieceB_not hKl (by omega) hj fun e => hc (by rw [e]))] at hyes
            refine c_seq (c_region (wl_p I_ok rfl (wl_nil (f_then (c_ret (f_blockR (f_thenR (f_thenR (f_blockR (f_thenR (f_ret [_, _] ⟨rfl, rfl, trivial⟩ ?_)))))))))))
            exact ⟨by rw [hyes]; rfl, hX⟩
          · have he : pieceAt t n b j = L[j] := natsI_inj.1 (Decidable.not_not.1 hc)
            refine c_skip (f_blockN (f_then (c_region (wl_p I_ok rfl ?_))))
            rw [IntWalk.i64_in _ (by omega)]
            refine wl_nil ?_
            exact f_round (j + 1) rfl ⟨⟨hj, pieceB_step (by omega) hjL htk he, hpn, hT⟩, hX⟩ (by first | omega | (dsimp only; omega))
        · have hj : j = i := by omega
          rw [hj] at htk
          refine c_exit (f_thenE (f_thenE (f_blockE (f_then (c_seq (c_region (wl_p I_ok rfl (wl_nil (f_then (c_ret (f_ret [_, _] ⟨rfl, rfl, trivial⟩ ?_)))))))))))
          rw [List.take_of_length_le (by rw [pieceB_length]; omega)] at htk
          rw [if_pos htk] at hyes
          exact ⟨by rw [hyes]; exact ⟨qb, k - 4, rfl, hpn⟩, hX⟩
end Go.Proofs.YtlfdlodcjiaiiaaGreatDoor
namespace Go.Proofs.YtlfdlodcjiaiiaaGreatDoor
open Go.Vc
theorem refLies_calls' (w : World) {p : Option Addr} {c t n : Nat} {L : List Bytes} (hs : Sl w p L.length 64 (L.flatMap bytesU)) (hL : ∀ b ∈ L, b.length = 64) (hLl : L.length ≤ 100000) (ht : t < 4294967296) (hn : n < 4294967296) :
    CallsV Tryz.prog 98 [.slice p L.length c, .int .u32 (t : Int), .int .u32 (n : Int)] w fun v w' => ∃ q k, v = .tuple #[.slice q ((liesB L t n).getD []).length k, .bool (liesB L t n).isSome] ∧ (∀ b, liesB L t n = some b → PieceNew w w' q k b) ∧ Ext No w w' := by
  refine (refLies_calls w hs hL hLl ht hn).mono fun v w' ⟨h, hE⟩ => ?_
  cases hl : liesB L t n with
  | none => rw [hl] at h; exact ⟨none, 0, h, (fun b e => by cases e), hE⟩
  | some b => rw [hl] at h; obtain ⟨q, k, h1, h2⟩ := h; exact ⟨q, k, h1, (fun b' e => by cases e; exact h2), hE⟩
theorem refLying_calls (w : World) {p : Option Addr} {c t : Nat} {L : List Bytes} (hs : Sl w p L.length 64 (L.flatMap bytesU)) (hL : ∀ b ∈ L, b.length = 64) (hc : L.length ≤ c) (hLl : L.length ≤ 100000) (ht : t < 4294967296) :
    CallsV Tryz.prog 80 [.slice p L.length c, .int .u32 (t : Int)] w fun v w' => ∃ q k rows, v = .tuple #[.slice q (lyingB L t).length k, .int .i64 (usedB (lyingB L t) : Int)] ∧ Own w' q (lyingB L t).length k 56 1 rows ∧ PiecesAt w' (fun y => w.heap.size ≤ y ∧ y < w'.heap.size) (lyingB L t) rows ∧ (∀ y, OwnB q y → w.heap.size ≤ y) ∧ Ext No w w' := by
  refine calls_enter Tryz.func80 rfl rfl rfl rfl ?_
  have hX := Ext.refl No w
  have hsl := hs
  refine c_seq (c_region (wl_p I_ok rfl (wl_nil (f_then (c_seq (c_region (wl_p I_ok rfl (wl_nil (f_then (c_seq (c_region (wl_p I_ok rfl (wl_nil (f_then (c_block ?_)))))))))))))))
  refine c_loopK (α := List Bytes × Option Addr × Nat × List Value) [0, 1] rfl (fun z => [(6, .slice z.2.1 z.1.length z.2.2.1), (7, .int .i64 (usedB z.1 : Int))]) (fun z u => (usedB z.1 ≤ L.length ∧ z.1.length ≤ usedB z.1 ∧ (∀ b ∈ z.1, b.length ≤ 40000) ∧ lyingB L t = z.1 ++ lyGo t (L.length - z.1.length) (L.drop (usedB z.1)) z.1.length ∧ Own u z.2.1 z.1.length z.2.2.1 56 1 z.2.2.2 ∧ (∀ y, OwnB z.2.1 y → w.heap.size ≤ y) ∧ PiecesAt u (fun y => w.heap.size ≤ y ∧ y < u.heap.size) z.1 z.2.2.2) ∧ Ext No w u) (fun z u => L.length - usedB z.1) ([], none, 0, []) rfl ⟨⟨Nat.zero_le _, Nat.le_refl _, (fun b hb => by cases hb), rfl, Own.nil _ _ _, noOwnB, ⟨rfl, fun i b v h => by cases h⟩⟩, hX⟩ ?_
  rintro ⟨ps, q, cq, rows⟩ w1 ⟨⟨hus, hpl, hsh, hly, hrw, hqn, hps⟩, hX⟩
  try dsimp only
  dsimp only at hus hpl hsh hly hrw hqn hps
  have hsl := hs.extNo hX
  have hdl : (L.drop (usedB ps)).length = L.length - usedB ps := List.length_drop
  have hd64 : ∀ b ∈ L.drop (usedB ps), b.length = 64 := fun b hb => hL b (List.mem_of_mem_drop hb)
  rw [lyGo_step t _ _ _ hd64 (by rw [hdl]; omega)] at hly
  refine c_block (c_seq (c_region (wl_p I_ok rfl (wl (st_sl I_ok rfl (usedB ps) L.length c 64 rfl (.inr ⟨rfl, rfl⟩) (.inr ⟨rfl, rfl⟩) (.inl rfl) hus hc (Nat.le_refl _) ?_)))))
  dsimp only
  rw [← hdl]
  refine wl_p I_ok rfl ?_
  rw [wrap32 ps.length (by omega)]
  have hsd : Sl w1 (slBase p (usedB ps) c 64) (L.drop (usedB ps)).length 64 ((L.drop (usedB ps)).flatMap bytesU) := by
    have e := hsl.slice (usedB ps) L.length c hus hc (Nat.le_refl _)
    rw [flat_drop64 _ _ hL, List.take_of_length_le (by rw [hsl_len hd64, hdl]; exact Nat.le_refl _), ← hdl] at e
    exact e
  have hXl := hX.size
  refine wl (st_call Tryz.call98 rfl rfl rfl rfl rfl rfl (refLies_calls' w1 (c := c - usedB ps) hsd hd64 (by omega) ht (n := ps.length) (by omega)) fun v2 w2 hr2 => ?_)
  obtain ⟨qp, kp, rfl, hpn, hE2⟩ := hr2
  have hsl := hsl.extNo hE2
  have hps := PiecesAt.mono (H' := fun y => w.heap.size ≤ y ∧ y < w2.heap.size) (hps.ext hE2 fun _ _ _ => id) fun y hy => And.intro hy.1 (Nat.lt_of_lt_of_le hy.2 hE2.size)
  have hrw := hrw.ext hE2 fun _ _ => id
  have hX := hX.thenNo hE2
  refine wl_p I_ok rfl (wl_nil (f_then (c_seq (c_seq (c_region (wl_p I_ok rfl (wl_nil (f_then (c_cond rfl (fun hc => ?_) (fun hc => ?_))))))))))
  · have hlb : liesB (L.drop (usedB ps)) t ps.length = none := by
      cases hl : liesB (L.drop (usedB ps)) t ps.length with
      | none => rfl
      | some b => rw [hl] at hc; cases hc
    rw [hlb, List.append_nil] at hly
    refine c_seq (c_region (wl_p I_ok rfl (wl_nil (f_then (c_ret (f_thenR (f_blockR (f_thenR (f_blockR (f_ret [_, _] ⟨rfl, rfl, trivial⟩ ?_))))))))))
    rw [hly]
    exact ⟨q, cq, rows, rfl, hrw, hps, hqn, hX⟩
  · obtain ⟨b, hlb⟩ : ∃ b, liesB (L.drop (usedB ps)) t ps.length = some b := by
      cases hl : liesB (L.drop (usedB ps)) t ps.length with
      | none => rw [hl] at hc; cases hc
      | some b => exact ⟨b, rfl⟩
    rw [hlb] at hly hpn ⊢
    obtain ⟨hb40, hbs, _⟩ := liesB_some hd64 hlb
    have hbp := sectN_pos hb40
    obtain ⟨hpk, hps1, hps2⟩ := hpn b rfl
    have hpc : PieceAt w2 (fun y => w.heap.size ≤ y ∧ y < w2.heap.size) (.slice qp b.length kp) b := ⟨qp, kp, rfl, hpk, hps1, fun y off e => ⟨⟨by have := (hps2 y off e).1; omega, (hps2 y off e).2.lt⟩, (hps2 y off e).2⟩⟩
    dsimp only [Option.getD_some]
    have hps := hps.snoc hpc
    refine c_skip (f_then (c_seq (c_region (wl_p I_ok rfl ?_))))
    have hrwl := fun y (hy : OwnB q y) => hrw.lt hy
    refine wl (st_bs I_ok rfl 1 rfl rfl rfl (by decide) (by decide) (by simp [partsOk]) (l' := [.slice qp b.length kp]) rfl fun b27 w3 hn27 hb27 hE3 hs3 => ?_)
    have fr27 := Nat.le_trans hX.size hn27
    have hsl := hsl.extNo hE3
    have hps := PiecesAt.mono (H' := fun y => w.heap.size ≤ y ∧ y < w3.heap.size) (hps.ext hE3 fun _ _ _ => id) fun y hy => And.intro hy.1 (Nat.lt_of_lt_of_le hy.2 hE3.size)
    have hrw := hrw.ext hE3 fun _ _ => id
    have hX := hX.thenNo hE3
    have hXq := hX.size
    refine wl (st_app I_ok rfl 1 24 rfl rfl rfl (by decide) hrw (Src.slice (m := 1) ⟨rfl, .inr ⟨b27, 0, rfl, hb27.seg⟩⟩ OneC.h) (by dsimp only [maxLen]; omega) (by dsimp only; omega) fun p4 c4 w4 ho4 hE4 hB4 => ?_)
    have hX := hX.trans hE4 fun y hy e => by have := hqn y e; omega
    have hps := PiecesAt.mono (H' := fun y => w.heap.size ≤ y ∧ y < w4.heap.size) (hps.ext hE4 fun y hy ht h => by obtain ⟨l, hl⟩ := Own.ty hrw h; exact ht.ne hl (by decide) rfl) fun y hy => And.intro hy.1 (Nat.lt_of_lt_of_le hy.2 hE4.size)
    have hqn2 : ∀ y, OwnB p4 y → w.heap.size ≤ y := fun y hy => (hB4 y hy).elim (hqn y) fun e => by omega
    have hrw : Own w4 p4 (ps ++ [b]).length c4 56 1 (rows ++ [.slice qp b.length kp]) := by rw [List.length_append]; exact ho4
    dsimp only
    obtain ⟨pn, hpn0⟩ : ∃ pn, pn = p4 := ⟨_, rfl⟩
    obtain ⟨cn, hcn0⟩ : ∃ cn, cn = c4 := ⟨_, rfl⟩
    rw [← hpn0] at hrw hqn2 ⊢
    rw [← hcn0] at hrw ⊢
    rw [show ps.length + 1 = (ps ++ [b]).length from by rw [List.length_append]; rfl]
    refine wl_p I_ok rfl (wl_nil (f_then (c_region (wl_p I_ok rfl (wl (st_call Tryz.call68 rfl rfl rfl rfl rfl rfl (refSectors_calls w4 (b.length : Int)) fun v5 w5 hr5 => ?_))))))
    obtain ⟨rfl, hE5⟩ := hr5
    have hps := PiecesAt.mono (H' := fun y => w.heap.size ≤ y ∧ y < w5.heap.size) (hps.ext hE5 fun _ _ _ => id) fun y hy => And.intro hy.1 (Nat.lt_of_lt_of_le hy.2 hE5.size)
    have hrw := hrw.ext hE5 fun _ _ => id
    have hX := hX.thenNo hE5
    rw [sectZ_nat]
    refine wl_p I_ok rfl ?_
    rw [show IntKind.i64.wrap ((usedB ps : Int) + (sectN b.length : Int)) = (usedB (ps ++ [b]) : Int) from by rw [IntWalk.i64_in _ (by omega), usedB_snoc]; omega]
    refine wl_p I_ok rfl (wl_nil ?_)
    exact f_blockN (f_round (ps ++ [b], pn, cn, rows ++ [.slice qp b.length kp]) rfl ⟨⟨by dsimp only; rw [usedB_snoc]; omega, by dsimp only; rw [usedB_snoc, List.length_append]; simp only [List.length_cons, List.length_nil]; omega, fun x hx => (List.mem_append.1 hx).elim (hsh x) fun h => by rw [List.mem_singleton.1 h]; exact hb40, by dsimp only; rw [hly]; dsimp only; rw [usedB_snoc, List.length_append, List.drop_drop, List.append_assoc, Nat.sub_sub]; rfl, hrw, hqn2, hps⟩, hX⟩ (by dsimp only; rw [usedB_snoc]; omega))
def nwN (o : Option (Nat × Nat)) : Nat := match o with | none => 0 | some (_, n) => n
/-- of two heads the second one comes later -/
def nbGo (b0 b1 : Bytes) (S : Nat) : Nat → Option (Nat × Nat) → Option (Nat × Nat)
  | 0, o => newer 1 S b1 (newer 0 S b0 o)
  | 1, o => newer 1 S b1 o
  | _ + 2, o => o
theorem nbGo_step {b0 b1 : Bytes} {S i : Nat} (hi : i < 2) (o : Option (Nat × Nat)) : nbGo b0 b1 S i o = nbGo b0 b1 S (i + 1) (newer i S (if i = 1 then b1 else b0) o) := by
  rcases (show i = 0 ∨ i = 1 by omega) with rfl | rfl <;> rfl
theorem u32_of {n : Nat} (h : n < 4294967296) : IntKind.u32.wrap (n : Int) = (n : Int) := wrap32 n h
theorem mod2_of {t : Nat} (_ht : t < 4294967296) : IntKind.i64.wrap ((t : Int).tmod 2) = ((t % 2 : Nat) : Int) := by
  rw [show (t : Int).tmod 2 = ((t % 2 : Nat) : Int) from by rw [Int.tmod_eq_emod_of_nonneg (Int.natCast_nonneg _)]; omega]
  exact IntWalk.i64_in _ (by omega)
theorem sizeOf4_lt {b : Bytes} : sizeOf4 b < 4294967296 := by
  have h := num_lt ((b.drop 16).take 4)
  have h2 : ((b.drop 16).take 4).length ≤ 4 := List.length_take_le _ _
  have h3 : (256 : Nat) ^ ((b.drop 16).take 4).length ≤ 256 ^ 4 := Nat.pow_le_pow_right (by decide) h2
  unfold sizeOf4
  have : (256 : Nat) ^ 4 = 4294967296 := by decide
  omega
theorem refNewest_calls (w : World) {b0 b1 : Bytes} {S : Nat} (h0 : b0.length = 64) (h1 : b1.length = 64) (hS : S < 1000000) :
    CallsV Tryz.prog 79 [numB b0, numB b1, .int .i64 (S : Int)] w fun v w' => v = .tuple #[.int .u32 (nwT (newestB b0 b1 S) : Int), .int .i64 (nwN (newestB b0 b1 S) : Int), .bool (newestB b0 b1 S).isSome] ∧ Ext No w w' := by
  refine calls_enter Tryz.func79 rfl rfl rfl rfl ?_
  have hX := Ext.refl No w
  refine c_seq (c_region (wl (st_al I_ok rfl fun b3 w1 hn3 hb3 hE1 => ?_)))
  have fr3 := Nat.le_trans hX.size hn3
  have hX := hX.thenNo hE1
  have hb3 : Blk w1 b3 37 (bytesU b0) := hb3
  refine wl (st_al I_ok rfl fun b4 w2 hn4 hb4 hE2 => ?_)
  have ne3_4 : b3 ≠ b4 := Nat.ne_of_lt (Nat.lt_of_lt_of_le hb3.lt hn4)
  have fr4 := Nat.le_trans hX.size hn4
  have hb3 := hb3.extNo hE2
  have hX := hX.thenNo hE2
  have hb4 : Blk w2 b4 37 (bytesU b1) := hb4
  refine wl_p I_ok rfl (wl_nil (f_then (c_seq (c_region (wl_p I_ok rfl (wl_nil (f_then (c_seq (c_seq (c_region (wl_p I_ok rfl (wl_nil (f_then (c_block ?_))))))))))))))
  refine c_loopK (α := Nat × Option (Nat × Nat)) [2, 3, 4] rfl (fun z => [(9, .int .u32 (nwT z.2 : Int)), (10, .int .i64 (nwN z.2 : Int)), (11, .bool z.2.isSome), (12, .int .i64 (z.1 : Int))]) (fun z u => (z.1 ≤ 2 ∧ newestB b0 b1 S = nbGo b0 b1 S z.1 z.2) ∧ Blk u b3 37 (bytesU b0) ∧ Blk u b4 37 (bytesU b1) ∧ Ext No w u) (fun z u => 2 - z.1) (0, none) rfl ⟨⟨by decide, rfl⟩, hb3, hb4, hX⟩ ?_
  rintro ⟨i, o⟩ w3 ⟨⟨hi, hgo⟩, hb3, hb4, hX⟩
  try dsimp only
  dsimp only at hi hgo
  refine c_seq (c_seq (c_region (wl_p I_ok rfl (wl_nil (f_then (c_if rfl (fun hc => ?_) (fun hc => ?_)))))))
  · have hi2 : i < 2 := by omega
    rw [nbGo_step hi2] at hgo
    refine c_skip (f_then ?_)
    refine c_cutK (α := Option (Nat × Nat)) [2, 3, 4, 12] rfl (fun z => [(9, .int .u32 (nwT z : Int)), (10, .int .i64 (nwN z : Int)), (11, .bool z.isSome)]) (fun z u => (newestB b0 b1 S = nbGo b0 b1 S (i + 1) z) ∧ Blk u b3 37 (bytesU b0) ∧ Blk u b4 37 (bytesU b1) ∧ Ext No w u) ?_ ?_
    · refine c_block ?_
      refine c_seq (c_region (wl (st_ldB I_ok hb3 rfl (bytesU_64 h0) (wl (st_al I_ok rfl fun b13 w4 hn13 hb13 hE4 => ?_)))))
      have ne3_13 : b3 ≠ b13 := Nat.ne_of_lt (Nat.lt_of_lt_of_le hb3.lt hn13)
      have ne4_13 : b4 ≠ b13 := Nat.ne_of_lt (Nat.lt_of_lt_of_le hb4.lt hn13)
      have fr13 := Nat.le_trans hX.size hn13
      have hb3 := hb3.extNo hE4
      have hb4 := hb4.extNo hE4
      have hX := hX.thenNo hE4
      refine wl (st_stW (l' := bytesU b0) I_ok hb13 rfl rfl (bytesU_64 h0) (by rw [bytesU_64 h0]; rfl) OneC.h fun w5 hb13 hE5 hs5 => ?_)
      have hb3 := hb3.ext1 hE5 ne3_13
      have hb4 := hb4.ext1 hE5 ne4_13
      have hX := hX.thenNew hE5 fr13
      have hb13 : Blk w5 b13 37 (bytesU b0) := hb13
      refine wl_nil (f_then (c_cutK (α := Unit) [2, 3, 4, 9, 10, 11, 12, 13] rfl (fun z => []) (fun z u => Blk u b3 37 (bytesU b0) ∧ Blk u b4 37 (bytesU b1) ∧ Blk u b13 37 (bytesU (if i = 1 then b1 else b0)) ∧ Ext No w u) ?_ ?_))
      · refine c_seq ?_
        refine c_region (wl_p I_ok rfl (wl_nil (f_then (c_if rfl (fun hc => ?_) (fun hc => ?_)))))
        · refine c_region ?_
          refine wl (st_ldB I_ok hb4 rfl (bytesU_64 h1) (wl (st_stW (l' := bytesU b1) I_ok hb13 rfl rfl (bytesU_64 h1) (by rw [bytesU_64 h1, bytesU_64 h0]) OneC.h fun w6 hb13 hE6 hs6 => ?_)))
          have hb3 := hb3.ext1 hE6 ne3_13
          have hb4 := hb4.ext1 hE6 ne4_13
          have hX := hX.thenNew hE6 fr13
          have hb13 : Blk w6 b13 37 (bytesU (if i = 1 then b1 else b0)) := by (rw [if_pos (by omega)]; exact hb13)
          refine wl_nil ?_
          exact f_cut (()) rfl ⟨hb3, hb4, hb13, hX⟩
        · have hb13 : Blk w5 b13 37 (bytesU (if i = 1 then b1 else b0)) := by rw [if_neg (by omega)]; exact hb13
          refine c_skip ?_
          exact f_cut (()) rfl ⟨hb3, hb4, hb13, hX⟩
      rintro ⟨⟩ w7 ⟨hb3, hb4, hb13, hX⟩
      obtain ⟨B, hB⟩ : ∃ B, B = if i = 1 then b1 else b0 := ⟨_, rfl⟩
      have hB64 : B.length = 64 := by rw [hB]; split <;> assumption
      rw [← hB] at hb13 hgo
      obtain ⟨t, ht⟩ : ∃ t, t = turnOf B := ⟨_, rfl⟩
      obtain ⟨n, hn⟩ : ∃ n, n = sizeOf4 B := ⟨_, rfl⟩
      have htl : t < 4294967296 := by rw [ht]; exact turnOf_lt
      have hnl : n < 4294967296 := by rw [hn]; exact sizeOf4_lt
      refine c_seq (c_region (wl (st_sa I_ok rfl 12 16 64 1 rfl ⟨.inr ⟨rfl, rfl⟩, .inl rfl, .inl rfl, by decide, by decide, by decide⟩ ?_)))
      rw [slBase_eq (by decide)]
      obtain ⟨l4, hl4⟩ : ∃ l4, l4 = (B.drop 12).take 4 := ⟨_, rfl⟩
      have hll4 : l4.length = 4 := by rw [hl4, List.length_take, List.length_drop]; omega
      have hsl4 : SlB w7 (some ⟨b13, 0 + 12 * 1, none⟩) l4 := ⟨by rw [bytesU_len, Nat.mul_one], .inr ⟨b13, _, rfl, by
        have e := (hb13.seg.drop 12).take 4
        rw [bytesU_drop, bytesU_take, ← hl4] at e
        exact e⟩⟩
      rw [show Value.slice (some ⟨b13, 0 + 12 * 1, none⟩) (16 - 12) (64 - 12) = .slice (some ⟨b13, 0 + 12 * 1, none⟩) l4.length 52 from by rw [hll4]]
      refine wl (st_call Tryz.call97 rfl rfl rfl rfl rfl rfl ((number_calls w7 hsl4 (by rw [hll4]; decide)).same) fun v8 w8 hr8 => ?_)
      obtain ⟨rfl, hE8⟩ := hr8
      have hb3 := hb3.extNo hE8
      have hb4 := hb4.extNo hE8
      have hb13 := hb13.extNo hE8
      have hX := hX.thenNo hE8
      rw [show num l4 = t from by rw [hl4, ht]; rfl]
      refine wl_p I_ok rfl ?_
      rw [u32_of htl]
      refine wl_p I_ok rfl (wl_nil (f_then (c_seq (c_region (wl (st_sa I_ok rfl 16 20 64 1 rfl ⟨.inr ⟨rfl, rfl⟩, .inl rfl, .inl rfl, by decide, by decide, by decide⟩ ?_))))))
      rw [slBase_eq (by decide)]
      obtain ⟨l4, hl4⟩ : ∃ l4, l4 = (B.drop 16).take 4 := ⟨_, rfl⟩
      have hll4 : l4.length = 4 := by rw [hl4, List.length_take, List.length_drop]; omega
      have hsl4 : SlB w8 (some ⟨b13, 0 + 16 * 1, none⟩) l4 := ⟨by rw [bytesU_len, Nat.mul_one], .inr ⟨b13, _, rfl, by
        have e := (hb13.seg.drop 16).take 4
        rw [bytesU_drop, bytesU_take, ← hl4] at e
        exact e⟩⟩
      rw [show Value.slice (some ⟨b13, 0 + 16 * 1, none⟩) (20 - 16) (64 - 16) = .slice (some ⟨b13, 0 + 16 * 1, none⟩) l4.length 48 from by rw [hll4]]
      refine wl (st_call Tryz.call97 rfl rfl rfl rfl rfl rfl ((number_calls w8 hsl4 (by rw [hll4]; decide)).same) fun v9 w9 hr9 => ?_)
      obtain ⟨rfl, hE9⟩ := hr9
      have hb3 := hb3.extNo hE9
      have hb4 := hb4.extNo hE9
      have hb13 := hb13.extNo hE9
      have hX := hX.thenNo hE9
      rw [show num l4 = n from by rw [hl4, hn]; rfl]
      refine wl_p I_ok rfl ?_
      rw [IntWalk.i64_in (n : Int) (by omega)]
      refine wl_p I_ok rfl (wl_nil (f_then ?_))
      refine c_cutK (α := Bool) [2, 3, 4, 9, 10, 11, 12, 14, 15] rfl (fun z => [(55, .bool z)]) (fun z u => (z = decide (HeadOk i S B ∧ (o = none ∨ nwT o < t))) ∧ Blk u b3 37 (bytesU b0) ∧ Blk u b4 37 (bytesU b1) ∧ Ext No w u) ?_ ?_
      · refine c_draw rfl 26 [(0, true), (1, true), (2, true), (3, true), (4, true), (5, true), (6, true), (7, true), (8, false), (9, true), (10, true), (11, true), (12, true), (14, true), (13, false), (15, true), (16, true), (17, true), (18, true), (19, true), (20, true), (21, true), (22, true), (23, true), (24, true), (25, true)] [] (No) (by kernel_rfl) fun w10 hE10 hs10 => ?_
        have hd3 := hb3
        have hd4 := hb4
        have hd13 := hb13
        have hXd := hX
        have hb3 := hb3.extNo hE10
        have hb4 := hb4.extNo hE10
        have hb13 := hb13.extNo hE10
        have hX := hX.thenNo hE10
        have hC : Ext (No) _ w10 := hE10.no
        refine wd_k I_ok 3 rfl ?_
        rw [mod2_of htl]
        refine wd_k I_ok 3 rfl (wd_caseD 35 rfl (fun hg => ?_) (fun hg => ?_))
        · refine wd_k I_ok 2 rfl ?_
          refine wd_l rfl (st_call Tryz.call60 rfl rfl rfl rfl rfl rfl (refFits_calls w10 (n : Int) S hS) fun v11 w11 hr11 => ⟨(by obtain ⟨rfl, hE11⟩ := hr11; exact hC.thenNo hE11), ?_⟩)
          obtain ⟨rfl, hE11⟩ := hr11
          have hb3 := hb3.extNo hE11
          have hb4 := hb4.extNo hE11
          have hb13 := hb13.extNo hE11
          have hX := hX.thenNo hE11
          have hC := hC.thenNo hE11
          refine wd_k I_ok 2 rfl (wd_caseD 40 rfl (fun hg => ?_) (fun hg => ?_))
          · have hfit : FitsB n S := by have := hg.2; rwa [Int.toNat_natCast] at this
            refine wd_k I_ok 2 rfl (wd_ldN I_ok rfl rfl (fun w' hw' => (hd13.extNo hw').seg) (bytesU_64 hB64) ?_)
            refine wd_l rfl (st_call Tryz.call93 rfl rfl rfl rfl rfl rfl (refHead_calls w11 t n htl hnl) fun v12 w12 hr12 => ⟨(by obtain ⟨rfl, hE12⟩ := hr12; exact hC.thenNo hE12), ?_⟩)
            obtain ⟨rfl, hE12⟩ := hr12
            have hb3 := hb3.extNo hE12
            have hb4 := hb4.extNo hE12
            have hb13 := hb13.extNo hE12
            have hX := hX.thenNo hE12
            have hC := hC.thenNo hE12
            refine wd_eqA (xs := natsI (headB t n)) (ys := natsI B) I_ok rfl rfl (by kernel_rfl) (numB_eq _) (numB_eq _) (by rw [natsI_len, headB_len]) (by rw [natsI_len, hB64]) (wd_k I_ok 2 rfl (wd_caseD 47 rfl (fun hg => ?_) (fun hg => ?_)))
            · have hok : HeadOk i S B := ⟨by rw [← ht]; omega, by rw [← hn]; exact hfit, by rw [← ht, ← hn]; exact natsI_inj.1 hg⟩
              refine wd_k I_ok 3 rfl (wd_case 50 rfl (fun hg => ?_) (fun hg => ?_))
              · have hon : o = none := by cases o; rfl; cases hg
                refine wd_k I_ok 5 rfl (wd_sw (wb_nil ?_))
                exact f_cut (true) rfl ⟨by symm; rw [decide_eq_true_iff]; exact ⟨hok, .inl hon⟩, hb3, hb4, hX⟩
              · have hon : o ≠ none := fun e => by rw [e] at hg; cases hg
                refine wd_k I_ok 5 rfl (wd_sw (wb_nil ?_))
                exact f_cut (decide ((t : Int) > (nwT o : Int))) rfl ⟨by rw [decide_eq_decide]; exact ⟨fun h => ⟨hok, .inr (by omega)⟩, fun h => by have := h.2.resolve_left hon; omega⟩, hb3, hb4, hX⟩
            · have hno : ¬ HeadOk i S B := fun h => hg (natsI_inj.2 (by rw [ht, hn]; exact h.2.2))
              refine wd_k I_ok 8 rfl (wd_sw (wb_nil ?_))
              exact f_cut (false) rfl ⟨by symm; rw [decide_eq_false_iff_not]; exact fun h => hno h.1, hb3, hb4, hX⟩
          · have hno : ¬ HeadOk i S B := fun h => hg ⟨Int.natCast_nonneg _, by rw [Int.toNat_natCast, hn]; exact h.2.1⟩
            refine wd_k I_ok 15 rfl (wd_sw (wb_nil ?_))
            exact f_cut (false) rfl ⟨by symm; rw [decide_eq_false_iff_not]; exact fun h => hno h.1, hb3, hb4, hX⟩
        · have hno : ¬ HeadOk i S B := fun h => hg (by rw [ht, h.1])
          refine wd_k I_ok 20 rfl (wd_sw (wb_nil ?_))
          exact f_cut (false) rfl ⟨by symm; rw [decide_eq_false_iff_not]; exact fun h => hno h.1, hb3, hb4, hX⟩
      rintro z w13 ⟨rfl, hb3, hb4, hX⟩
      refine c_if rfl (fun hc => ?_) (fun hc => ?_)
      · have hnw : newer i S B o = some (t, n) := by
          rw [ht, hn]
          exact newer_yes hc.1 (hc.2.imp (fun e => by rw [e]; decide) fun e => by rw [← ht]; exact e)
        rw [hnw] at hgo
        refine c_seq (c_region (wl_p I_ok rfl (wl_nil (f_then (c_seq (c_region (wl_p I_ok rfl (wl_nil (f_then (c_region (wl_p I_ok rfl (wl_nil ?_))))))))))))
        exact f_blockN (f_cut (some (t, n)) rfl ⟨hgo, hb3, hb4, hX⟩)
      · have hnw : newer i S B o = o := by
          by_cases hk : HeadOk i S B
          · refine newer_old hk fun e => hc ⟨hk, e.imp (fun e => ?_) fun e => by rw [ht]; exact e⟩
            cases o with
            | none => rfl
            | some x => exact absurd rfl e
          · exact newer_no hk
        rw [hnw] at hgo
        refine c_skip ?_
        exact f_blockN (f_cut (o) rfl ⟨hgo, hb3, hb4, hX⟩)
    rintro o2 w14 ⟨hgo, hb3, hb4, hX⟩
    refine c_region (wl_p I_ok rfl ?_)
    rw [IntWalk.i64_in _ (by omega)]
    refine wl_nil ?_
    exact f_round (i + 1, o2) rfl ⟨⟨by dsimp only; omega, hgo⟩, hb3, hb4, hX⟩ (by first | omega | (dsimp only; omega))
  · have hi2 : i = 2 := by omega
    subst hi2
    rw [show nbGo b0 b1 S 2 o = o from rfl] at hgo
    rw [hgo]
    refine c_exit (f_thenE (f_thenE (f_blockE (f_then (c_seq (c_region (wl_p I_ok rfl (wl_nil (f_then (c_ret (f_ret [_, _, _] ⟨rfl, rfl, rfl, trivial⟩ ?_)))))))))))
    exact ⟨rfl, hX⟩
end Go.Proofs.YtlfdlodcjiaiiaaGreatDoor
namespace Go.Proofs.YtlfdlodcjiaiiaaGreatDoor
open Go.Vc
theorem newest_two {D : Dsk} {x0 x1 : Dsk × Bytes × Int} (h0 : x0 = D.read ((0 : Nat) : Int)) (h1 : x1 = x0.1.read ((1 : Nat) : Int)) :
    newestD D = if x0.2.2 ≠ 0 then (x0.1, x0.2.2, none) else if x1.2.2 ≠ 0 then (x1.1, x1.2.2, none) else (x1.1, nwE (newestB x0.2.1 x1.2.1 D.secs.length), newestB x0.2.1 x1.2.1 D.secs.length) := by
  subst h1
  subst h0
  rfl
theorem bookOpen_calls (w : World) {d m : Nat} {F : Nat → Prop} {D : Dsk} (h : At w d F D) (hok : D.Ok m) (hm : m + 10000 < 1000000000) :
    CallsV Tryz.prog 36 [.pointer (some ⟨d, 0, none⟩)] w fun v w' => ∃ (xo : Option Addr) (F' : Nat → Prop), v = .tuple #[.pointer xo, .int .i64 (openW D).2.1] ∧ At w' d F' (openW D).1 ∧ Ext F w w' ∧ (∀ y, F' y → F y ∨ w.heap.size ≤ y) ∧ ((openW D).2.1 = 0 → BookOf w w' d F' xo (Wl.opened (openW D))) := by
  refine calls_enter Tryz.func36 rfl rfl rfl rfl ?_
  have hX := Ext.refl F w
  have hFlt := h.lt
  have hA := h
  have hsz := hok.size
  obtain ⟨x0, hx0⟩ : ∃ x, x = D.read ((0 : Nat) : Int) := ⟨_, rfl⟩
  obtain ⟨x1, hx1⟩ : ∃ x, x = x0.1.read ((1 : Nat) : Int) := ⟨_, rfl⟩
  have hnw := newest_two hx0 hx1
  have hsp := newestD_spec hok
  have hok0 : x0.1.Ok (m + 1) := by rw [hx0]; exact hok.read _
  have hok1 : x1.1.Ok (m + 2) := by rw [hx1]; exact hok0.read _
  have h640 : x0.2.1.length = 64 := by rw [hx0]; exact read_64 hok _
  have h641 : x1.2.1.length = 64 := by rw [hx1]; exact read_64 hok0 _
  have hsec : x1.1.secs.length = D.secs.length := by rw [hx1, Dsk.read_secs, hx0, Dsk.read_secs]
  refine c_seq (c_region (wl_p I_ok rfl (wl_nil (f_then (c_seq (c_region (wl_p I_ok rfl (wl (st_call Tryz.call12 rfl rfl rfl rfl rfl rfl (dkRead w hA hok (by omega) ((0 : Nat) : Int)) fun v1 w1 hr1 => ?_)))))))))
  obtain ⟨rfl, hA, hE1⟩ := hr1
  have hX := hX.then hE1
  rw [← hx0] at hA ⊢
  refine wl_p I_ok rfl (wl (st_al I_ok rfl fun b4 w2 hn4 hb4 hE2 => ?_))
  have fr4 := Nat.le_trans hX.size hn4
  have hA := hA.extNo hE2
  have hX := hX.thenNo hE2
  have hF4 : ¬ F b4 := fun e => by have := hFlt _ e; omega
  refine wl (st_stW (l' := bytesU x0.2.1) I_ok hb4 rfl rfl (bytesU_64 h640) (by rw [bytesU_64 h640]; rfl) OneC.h fun w3 hb4 hE3 hs3 => ?_)
  have hA := hA.ext hE3 fun x hx e => by have e : x = b4 := e; subst e; exact hF4 hx
  have hX := hX.thenNew hE3 fr4
  have hb4 : Blk w3 b4 37 (bytesU x0.2.1) := hb4
  refine wl_p I_ok rfl (wl_nil (f_then (c_seq (c_seq (c_region (wl_p I_ok rfl (wl_nil (f_then (c_if rfl (fun hc => ?_) (fun hc => ?_))))))))))
  · rw [if_pos hc] at hnw
    have ho : openW D = (x0.1, x0.2.2, 0, 0, []) := by rw [openW_no (by rw [hnw]), hnw]
    rw [ho]
    refine c_seq (c_region (wl_p I_ok rfl (wl_nil (f_then (c_ret (f_thenR (f_ret [_, _] ⟨rfl, rfl, trivial⟩ ?_)))))))
    exact ⟨none, F, rfl, hA, hX, fun y hy => .inl hy, fun e => absurd e hc⟩
  · rw [if_neg hc] at hnw
    refine c_skip (f_then (c_seq (c_region (wl_p I_ok rfl (wl (st_call Tryz.call12 rfl rfl rfl rfl rfl rfl (dkRead w3 hA hok0 (by omega) ((1 : Nat) : Int)) fun v4 w4 hr4 => ?_))))))
    obtain ⟨rfl, hA, hE4⟩ := hr4
    have hb4 := hb4.ext hE4 hF4
    have hX := hX.then hE4
    rw [← hx1] at hA ⊢
    refine wl_p I_ok rfl (wl (st_al I_ok rfl fun b6 w5 hn6 hb6 hE5 => ?_))
    have ne4_6 : b4 ≠ b6 := Nat.ne_of_lt (Nat.lt_of_lt_of_le hb4.lt hn6)
    have fr6 := Nat.le_trans hX.size hn6
    have hb4 := hb4.extNo hE5
    have hA := hA.extNo hE5
    have hX := hX.thenNo hE5
    have hF6 : ¬ F b6 := fun e => by have := hFlt _ e; omega
    refine wl (st_stW (l' := bytesU x1.2.1) I_ok hb6 rfl rfl (bytesU_64 h641) (by rw [bytesU_64 h641]; rfl) OneC.h fun w6 hb6 hE6 hs6 => ?_)
    have hb4 := hb4.ext1 hE6 ne4_6
    have hA := hA.ext hE6 fun x hx e => by have e : x = b6 := e; subst e; exact hF6 hx
    have hX := hX.thenNew hE6 fr6
    have hb6 : Blk w6 b6 37 (bytesU x1.2.1) := hb6
    refine wl_p I_ok rfl (wl_nil (f_then (c_seq (c_seq (c_region (wl_p I_ok rfl (wl_nil (f_then (c_if rfl (fun hc => ?_) (fun hc => ?_))))))))))
    · rw [if_pos hc] at hnw
      have ho : openW D = (x1.1, x1.2.2, 0, 0, []) := by rw [openW_no (by rw [hnw]), hnw]
      rw [ho]
      refine c_seq (c_region (wl_p I_ok rfl (wl_nil (f_then (c_ret (f_thenR (f_ret [_, _] ⟨rfl, rfl, trivial⟩ ?_)))))))
      exact ⟨none, F, rfl, hA, hX, fun y hy => .inl hy, fun e => absurd e hc⟩
    · rw [if_neg hc] at hnw
      obtain ⟨o, ho⟩ : ∃ o, o = newestB x0.2.1 x1.2.1 D.secs.length := ⟨_, rfl⟩
      rw [← ho] at hnw
      refine c_skip (f_then (c_seq (c_draw rfl 12 [(0, true), (1, true), (2, true), (3, false), (4, false), (5, true), (6, true), (7, true), (8, true), (9, true), (10, true), (11, true)] [] (No) (by kernel_rfl) fun w7 hE7 hs7 => ?_)))
      have hd4 := hb4
      have hd6 := hb6
      have hAd := hA
      have hXd := hX
      have hb4 := hb4.extNo hE7
      have hb6 := hb6.extNo hE7
      have hA := hA.extNo hE7
      have hX := hX.thenNo hE7
      have hC : Ext (No) _ w7 := hE7.no
      refine wd_ldN I_ok rfl rfl (fun w' hw' => (hd4.extNo hw').seg) (bytesU_64 h640) ?_
      refine wd_ldN I_ok rfl rfl (fun w' hw' => (hd6.extNo hw').seg) (bytesU_64 h641) ?_
      refine wd_k I_ok 1 rfl (wd_l rfl (st_call Tryz.call61 rfl rfl rfl rfl rfl rfl ((dk_len w7 hA).same) fun v8 w8 hr8 => ⟨(by obtain ⟨rfl, hE8⟩ := hr8; exact hC.thenNo hE8), ?_⟩))
      obtain ⟨rfl, hE8⟩ := hr8
      have hb4 := hb4.extNo hE8
      have hb6 := hb6.extNo hE8
      have hA := hA.extNo hE8
      have hX := hX.thenNo hE8
      have hC := hC.thenNo hE8
      rw [hsec]
      refine wd_l rfl (st_call Tryz.call79 rfl rfl rfl rfl rfl rfl (refNewest_calls w8 h640 h641 (S := D.secs.length) (by omega)) fun v9 w9 hr9 => ⟨(by obtain ⟨rfl, hE9⟩ := hr9; exact hC.thenNo hE9), ?_⟩)
      obtain ⟨rfl, hE9⟩ := hr9
      have hb4 := hb4.extNo hE9
      have hb6 := hb6.extNo hE9
      have hA := hA.extNo hE9
      have hX := hX.thenNo hE9
      have hC := hC.thenNo hE9
      rw [← ho]
      refine wd_k I_ok 7 rfl (wd_sw (wb_nil (f_then (c_seq (c_seq (c_region (wl_p I_ok rfl (wl_nil (f_then (c_cond rfl (fun hc => ?_) (fun hc => ?_)))))))))))
      · have hon : o = none := by cases o; rfl; cases hc
        rw [hon] at hnw
        have ho : openW D = (x1.1, 140, 0, 0, []) := by rw [openW_no (by rw [hnw]), hnw]; rfl
        rw [ho]
        refine c_seq (c_region (wl_p I_ok rfl (wl_nil (f_then (c_ret (f_thenR (f_ret [_, _] ⟨rfl, rfl, trivial⟩ ?_)))))))
        exact ⟨none, F, rfl, hA, hX, fun y hy => .inl hy, fun e => absurd (show (140 : Int) = 0 from e) (by decide)⟩
      · obtain ⟨t, n, hsome⟩ : ∃ t n, o = some (t, n) := by
          cases o with
          | none => cases hc
          | some x => exact ⟨x.1, x.2, rfl⟩
        rw [hsome] at hnw ⊢
        obtain ⟨_, hcase⟩ := hsp
        rw [hnw] at hcase
        obtain ⟨t', n', e1, _, hfit, ht⟩ := hcase.resolve_left fun h => by cases h.1
        simp only [Option.some.injEq, Prod.mk.injEq] at e1
        obtain ⟨rfl, rfl⟩ := e1
        have ho : openW D = openAt x1.1 t n := by rw [openW_yes (t := t) (n := n) (by rw [hnw]), hnw]
        rw [ho]
        have hn4 := hfit.1
        have hn1 := hfit.2.1
        have har : areaB t n ≤ 1002 := by unfold areaB; split <;> omega
        dsimp only [nwT, nwN]
        refine c_skip (f_then (c_seq (c_region (wl_p I_ok rfl ?_))))
        refine wl (st_bd I_ok rfl ⟨⟨rfl, by decide⟩, ⟨rfl, by decide⟩, ⟨rfl, by decide⟩, trivial⟩ (l' := [.pointer (some ⟨d, 0, none⟩), .int .i64 (n : Int), .int .u32 (t : Int), .slice none 0 0, .int .i64 ((0 : Nat) : Int), .bool false]) rfl ?_)
        refine wl (st_al I_ok rfl fun b50 w10 hn50 hb50 hE10 => ?_)
        have ne4_50 : b4 ≠ b50 := Nat.ne_of_lt (Nat.lt_of_lt_of_le hb4.lt hn50)
        have ne6_50 : b6 ≠ b50 := Nat.ne_of_lt (Nat.lt_of_lt_of_le hb6.lt hn50)
        have fr50 := Nat.le_trans hX.size hn50
        have hb4 := hb4.extNo hE10
        have hb6 := hb6.extNo hE10
        have hA := hA.extNo hE10
        have hX := hX.thenNo hE10
        have hb50 : Blk w10 b50 112 ([.pointer (some ⟨d, 0, none⟩), .int .i64 (n : Int), .int .u32 (t : Int), .slice none 0 0, .int .i64 ((0 : Nat) : Int), .bool false]) := hb50
        have hF50 : ¬ F b50 := fun e => by have := hFlt _ e; omega
        have hX50 := hX.size
        refine wl_p I_ok rfl (wl_nil (f_then (c_seq (c_region (wl_p I_ok rfl (wl_nil (f_then (c_seq (c_seq (c_region (wl_p I_ok rfl (wl_nil (f_then (c_block ?_))))))))))))))
        refine c_loopK (α := Nat × Dsk × List Bytes × Option Addr × Nat) [0, 7, 8, 10, 51] rfl (fun z => [(11, .slice z.2.2.2.1 z.2.2.1.length z.2.2.2.2), (52, .int .i64 (z.1 : Int))]) (fun z u => (z.1 ≤ n ∧ At u d F z.2.1 ∧ z.2.1.Ok (m + 2 + z.1) ∧ z.2.2.1.length = z.1 ∧ (∀ b ∈ z.2.2.1, b.length = 64) ∧ readsD x1.1 (areaB t n) n = ((readsD z.2.1 ((areaB t n : Int) + (z.1 : Nat)) (n - z.1)).1, z.2.2.1 ++ (readsD z.2.1 ((areaB t n : Int) + (z.1 : Nat)) (n - z.1)).2.1, (readsD z.2.1 ((areaB t n : Int) + (z.1 : Nat)) (n - z.1)).2.2) ∧ Own u z.2.2.2.1 z.2.2.1.length z.2.2.2.2 37 64 (z.2.2.1.flatMap bytesU) ∧ (∀ y, OwnB z.2.2.2.1 y → w.heap.size ≤ y)) ∧ Blk u b50 112 ([.pointer (some ⟨d, 0, none⟩), .int .i64 (n : Int), .int .u32 (t : Int), .slice none 0 0, .int .i64 ((0 : Nat) : Int), .bool false]) ∧ Ext F w u) (fun z u => n - z.1) (0, x1.1, [], none, 0) rfl ⟨⟨Nat.zero_le _, hA, hok1, rfl, (fun b hb => by cases hb), by simp, Own.nil _ _ _, noOwnB⟩, hb50, hX⟩ ?_
        rintro ⟨i, Di, R, q, cq⟩ w11 ⟨⟨hi, hA, hok2, hRl, hR64, hrds, hrd, hqn⟩, hb50, hX⟩
        try dsimp only
        dsimp only at hi hA hok2 hRl hR64 hrds hrd hqn
        have hrl := fun y (hy : OwnB q y) => hrd.lt hy
        refine c_seq (c_region (wl_p I_ok rfl (wl_nil (f_then (c_seq (c_if rfl (fun hc => ?_) (fun hc => ?_)))))))
        · have hin : i < n := by omega
          rw [show n - i = (n - (i + 1)) + 1 from by omega, readsD_step] at hrds
          refine c_skip (f_then (c_seq (c_block (c_seq (c_region (wl_p I_ok rfl (wl_nil (f_then (c_seq (c_region (wl_p I_ok rfl (wl (st_call Tryz.call66 rfl rfl rfl rfl rfl rfl (refFrom_calls w11 t n ht (by omega)) fun v12 w12 hr12 => ?_)))))))))))))
          obtain ⟨rfl, hE12⟩ := hr12
          have hb50 := hb50.extNo hE12
          have hA := hA.extNo hE12
          have hrd := hrd.ext hE12 fun _ _ => id
          have hX := hX.thenNo hE12
          refine wl_p I_ok rfl ?_
          rw [IntWalk.i64_in _ (by omega)]
          refine wl (st_call Tryz.call12 rfl rfl rfl rfl rfl rfl (dkRead w12 hA hok2 (by omega) ((areaB t n : Int) + (i : Nat))) fun v13 w13 hr13 => ?_)
          obtain ⟨rfl, hA, hE13⟩ := hr13
          have hb50 := hb50.ext hE13 hF50
          have hX := hX.then hE13
          have hrd := hrd.ext hE13 fun y hy e => by have := hFlt y e; have := hqn y hy; omega
          obtain ⟨x, hx⟩ : ∃ x, x = Di.read ((areaB t n : Int) + (i : Nat)) := ⟨_, rfl⟩
          have hx64 := read_64 hok2 ((areaB t n : Int) + (i : Nat))
          have hxok := hok2.read ((areaB t n : Int) + (i : Nat))
          rw [← hx] at hrds hx64 hxok hA ⊢
          obtain ⟨D2, B, e2⟩ := x
          dsimp only at hrds hx64 hxok hA ⊢
          have hB64 := hx64
          refine wl_p I_ok rfl ?_
          have hrl := fun y (hy : OwnB q y) => hrd.lt hy
          refine wl (st_al I_ok rfl fun b13 w14 hn13 hb13 hE14 => ?_)
          have ne50_13 : b50 ≠ b13 := Nat.ne_of_lt (Nat.lt_of_lt_of_le hb50.lt hn13)
          have fr13 := Nat.le_trans hX.size hn13
          have hb50 := hb50.extNo hE14
          have hA := hA.extNo hE14
          have hrd := hrd.ext hE14 fun _ _ => id
          have hX := hX.thenNo hE14
          have hF13 : ¬ F b13 := fun e => by have := hFlt _ e; omega
          refine wl (st_stW (l' := bytesU B) I_ok hb13 rfl rfl (bytesU_64 hx64) (by rw [bytesU_64 hx64]; rfl) OneC.h fun w15 hb13 hE15 hs15 => ?_)
          have hb50 := hb50.ext1 hE15 ne50_13
          have hA := hA.ext hE15 fun x hx e => by have e : x = b13 := e; subst e; exact hF13 hx
          have hrd := hrd.ext hE15 fun y hy e => by have e : y = b13 := e; have := hrl y hy; omega
          have hX := hX.thenNew hE15 fr13
          refine wl_p I_ok rfl (wl_nil (f_then (c_seq (c_seq (c_region (wl_p I_ok rfl (wl_nil (f_then (c_if rfl (fun hc => ?_) (fun hc => ?_))))))))))
          · rw [if_pos hc] at hrds
            have hoe : openAt x1.1 t n = (D2, e2, 0, 0, []) := by
              unfold openAt
              dsimp only
              rw [hrds, if_pos hc]
            rw [hoe]
            refine c_seq (c_region (wl_p I_ok rfl (wl_nil (f_then (c_ret (f_thenR (f_blockR (f_thenR (f_thenR (f_blockR (f_thenR (f_ret [_, _] ⟨rfl, rfl, trivial⟩ ?_))))))))))))
            exact ⟨none, F, rfl, hA, hX, fun y hy => .inl hy, fun e => absurd e hc⟩
          · rw [if_neg hc] at hrds
            refine c_skip (f_then (c_region (wl_p I_ok rfl (wl (st_ldB I_ok hb13 rfl (bytesU_64 hx64) ?_)))))
            refine wl (st_bs I_ok rfl 64 rfl rfl rfl (by decide) (by decide) ⟨⟨by show (bytesU B).length = 64; exact bytesU_64 hx64, by decide⟩, trivial⟩ (l' := bytesU B) (put_all (by show (rep 1 (cellsOf ti37.zero)).length = (bytesU B).length; rw [bytesU_64 hx64]; rfl)) fun b70 w16 hn70 hb70 hE16 hs16 => ?_)
            have ne50_70 : b50 ≠ b70 := Nat.ne_of_lt (Nat.lt_of_lt_of_le hb50.lt hn70)
            have ne13_70 : b13 ≠ b70 := Nat.ne_of_lt (Nat.lt_of_lt_of_le hb13.lt hn70)
            have fr70 := Nat.le_trans hX.size hn70
            have hb50 := hb50.extNo hE16
            have hb13 := hb13.extNo hE16
            have hA := hA.extNo hE16
            have hrd := hrd.ext hE16 fun _ _ => id
            have hX := hX.thenNo hE16
            have hXq := hX.size
            refine wl (st_app I_ok rfl 64 64 rfl rfl rfl (by decide) hrd (Src.slice (m := 1) ⟨by rw [bytesU_64 hx64], .inr ⟨b70, 0, rfl, hb70.seg⟩⟩ one_bytes) (by dsimp only [maxLen]; omega) (by dsimp only; omega) fun p17 c17 w17 ho17 hE17 hB17 => ?_)
            have hX := hX.trans hE17 fun y hy e => by have := hqn y e; omega
            have hA := hA.ext hE17 fun y hy e => by have := hqn y e; have := hFlt y hy; omega
            have hb50 := hb50.ext hE17 fun e => (Own.ty hrd e).ne hb50 (by decide) rfl
            have hqn2 : ∀ y, OwnB p17 y → w.heap.size ≤ y := fun y hy => (hB17 y hy).elim (hqn y) fun e => by omega
            have hrd2 : Own w17 p17 (R ++ [B]).length c17 37 64 ((R ++ [B]).flatMap bytesU) := by
              rw [List.length_append, List.flatMap_append, List.flatMap_singleton]; exact ho17
            dsimp only
            rw [show R.length + 1 = (R ++ [B]).length from by rw [List.length_append]; rfl]
            refine wl_p I_ok rfl (wl_nil (f_blockN (f_then (c_region (wl_p I_ok rfl ?_)))))
            rw [IntWalk.i64_in _ (by omega)]
            refine wl_nil ?_
            exact f_round (i + 1, D2, R ++ [B], p17, c17) rfl ⟨⟨hin, hA, hxok, by simp [hRl], fun b hb => (List.mem_append.1 hb).elim (hR64 b) fun h => by rw [List.mem_singleton.1 h]; exact hx64, by rw [hrds]; dsimp only; rw [show (areaB t n : Int) + ((i + 1 : Nat) : Int) = (areaB t n : Int) + (i : Nat) + 1 from by omega, List.append_assoc]; rfl, hrd2, hqn2⟩, hb50, hX⟩ (by first | omega | (dsimp only; omega))
        · have hin : n = i := by omega
          subst hin
          rw [Nat.sub_self] at hrds
          have hrds : readsD x1.1 (areaB t n) n = (Di, R, 0) := by rw [hrds]; show (Di, R ++ [], (0 : Int)) = _; rw [List.append_nil]
          refine c_exit (f_thenE (f_thenE (f_blockE (f_then (c_seq (c_seq (c_region (wl_p I_ok rfl ?_))))))))
          have hX20 := hX.size
          refine wl (st_call Tryz.call80 rfl rfl rfl rfl rfl rfl (refLying_calls w11 (c := cq) (t := t) hrd.sl hR64 hrd.cap (by omega) ht) fun v18 w18 hr18 => ?_)
          obtain ⟨q2, k2, rows2, rfl, hrw, hps, hqn2, hE18⟩ := hr18
          have hb50 := hb50.extNo hE18
          have hA := hA.extNo hE18
          have hrd := hrd.ext hE18 fun _ _ => id
          have hX := hX.thenNo hE18
          obtain ⟨ps, hpsd⟩ : ∃ ps, ps = lyingB R t := ⟨_, rfl⟩
          have hfin := lyGo_fine t R.length R 0 hR64
          rw [show lyGo t R.length R 0 = ps from hpsd.symm] at hfin
          rw [← hpsd] at hrw hps ⊢
          have hb50o := hb50
          have hrdT := fun y (hy : OwnB q y) => hrd.lt hy
          have h20 := Nat.le_refl w18.heap.size
          refine wl_p I_ok rfl (wl (st_set I_ok hb50 rfl rfl (Nat.lt_of_lt_of_eq (by decide : 0 + 3 < 6) rfl) fun w19 hb50 hE19 hs19 => ?_))
          have hA := hA.ext hE19 fun x hx e => by have e : x = b50 := e; subst e; exact hF50 hx
          have hrd := hrd.extTy hE19 hb50o (by decide)
          have hrw := hrw.extTy hE19 hb50o (by decide)
          have hps := hps.ext hE19 fun y hy ht e => by have e : y = b50 := e; subst e; exact ht.ne hb50o (by decide) rfl
          have h20 := Nat.le_trans h20 hE19.size
          have hX := hX.thenNew hE19 fr50
          have hb50 : Blk w19 b50 112 ([.pointer (some ⟨d, 0, none⟩), .int .i64 (n : Int), .int .u32 (t : Int), .slice q2 ps.length k2, .int .i64 ((0 : Nat) : Int), .bool false]) := hb50
          refine wl_p I_ok rfl ?_
          have hb50o := hb50
          refine wl (st_set I_ok hb50 rfl rfl (Nat.lt_of_lt_of_eq (by decide : 0 + 4 < 6) rfl) fun w20 hb50 hE20 hs20 => ?_)
          have hA := hA.ext hE20 fun x hx e => by have e : x = b50 := e; subst e; exact hF50 hx
          have hrd := hrd.extTy hE20 hb50o (by decide)
          have hrw := hrw.extTy hE20 hb50o (by decide)
          have hps := hps.ext hE20 fun y hy ht e => by have e : y = b50 := e; subst e; exact ht.ne hb50o (by decide) rfl
          have h20 := Nat.le_trans h20 hE20.size
          have hX := hX.thenNew hE20 fr50
          have hb50 : Blk w20 b50 112 ([.pointer (some ⟨d, 0, none⟩), .int .i64 (n : Int), .int .u32 (t : Int), .slice q2 ps.length k2, .int .i64 (usedB ps : Int), .bool false]) := hb50
          refine wl_nil (f_then (c_seq (c_region (wl_p I_ok rfl (wl (st_ld I_ok rfl (hb50.cell rfl) (wl_p I_ok rfl (wl_nil (f_then (c_if rfl (fun hc => ?_) (fun hc => ?_)))))))))))
          · have hp0 : ps = [] := List.eq_nil_of_length_eq_zero (by omega)
            have hoe : openAt x1.1 t n = (Di, 140, 0, 0, []) := by
              unfold openAt
              dsimp only
              rw [hrds, if_neg (by simp), ← hpsd, if_pos hp0]
            rw [hoe]
            refine c_seq (c_region (wl_p I_ok rfl (wl_nil (f_then (c_ret (f_thenR (f_ret [_, _] ⟨rfl, rfl, trivial⟩ ?_)))))))
            exact ⟨none, F, rfl, hA, hX, fun y hy => .inl hy, fun e => absurd (show (140 : Int) = 0 from e) (by decide)⟩
          · have hp0 : ps ≠ [] := fun e => hc (by rw [e]; rfl)
            obtain ⟨at_, hat⟩ : ∃ at_ : Int, at_ = ((areaB t n + usedB ps : Nat) : Int) := ⟨_, rfl⟩
            obtain ⟨T, hT⟩ : ∃ T, T = R.drop (usedB ps) := ⟨_, rfl⟩
            obtain ⟨C, hCd⟩ : ∃ C, C = cleanD Di at_ T := ⟨_, rfl⟩
            have hoe : openAt x1.1 t n = (C.1, C.2, t, n, ps) := by
              unfold openAt
              dsimp only
              rw [hrds, if_neg (by simp), ← hpsd, if_neg hp0, hCd, hat, hT]
            rw [hoe]
            have hul := hfin.2
            have hTl : T.length = n - usedB ps := by rw [hT, List.length_drop, hRl]
            have hT64 : ∀ b ∈ T, b.length = 64 := fun b hb => hR64 b (by rw [hT] at hb; exact List.mem_of_mem_drop hb)
            refine c_skip (f_then (c_seq (c_region (wl_p I_ok rfl (wl (st_call Tryz.call77 rfl rfl rfl rfl rfl rfl (dk_pending w20 hA hok2 (by omega)) fun v21 w21 hr21 => ?_))))))
            obtain ⟨bp, rfl, _, _, hE21⟩ := hr21
            have hb50 := hb50.extNo hE21
            have hA := hA.extNo hE21
            have hrd := hrd.ext hE21 fun _ _ => id
            have hrw := hrw.ext hE21 fun _ _ => id
            have hps := hps.ext hE21 fun _ _ _ => id
            have h20 := Nat.le_trans h20 hE21.size
            have hX := hX.thenNo hE21
            refine wl_p I_ok rfl (wl_nil (f_then (c_seq (c_seq (c_region (wl_p I_ok rfl (wl (st_ld I_ok rfl (hb50.cell rfl) ?_))))))))
            refine wl (st_sl I_ok rfl (usedB ps) R.length cq 64 rfl (.inr ⟨rfl, rfl⟩) (.inr ⟨rfl, rfl⟩) (.inl rfl) hul (hrd.cap) (Nat.le_refl _) ?_)
            dsimp only
            rw [show R.length - usedB ps = T.length from by rw [hTl, hRl]]
            have hqR : ∀ y off, slBase q (usedB ps) cq 64 = some ⟨y, off, none⟩ → OwnB q y := fun y off e => by
              rcases hrd with ⟨h1, _⟩ | ⟨bq, lq, h1, _⟩
              · rw [h1] at e
                unfold slBase at e
                split at e <;> cases e
              · obtain ⟨off', e'⟩ := slBase_some e (fun x o sp e => by rw [h1] at e; cases e; rfl)
                rw [h1] at e'
                cases e'
                exact h1
            have hsR : Sl w21 (slBase q (usedB ps) cq 64) T.length 64 (T.flatMap bytesU) := by
              have e := hrd.sl.slice (usedB ps) R.length cq hul hrd.cap (Nat.le_refl _)
              rw [flat_drop64 _ _ hR64, ← hT, show R.length - usedB ps = T.length from by rw [hTl, hRl], List.take_of_length_le (Nat.le_of_eq (hsl_len hT64))] at e
              exact e
            obtain ⟨N, hN⟩ : ∃ N, N = w21.heap.size := ⟨_, rfl⟩
            have hNw : w.heap.size ≤ N := by rw [hN]; exact hX.size
            have hrwl := fun y (hy : OwnB q2 y) => hrw.lt hy
            have hrdl := fun y (hy : OwnB q y) => hrd.lt hy
            have hqR : ∀ y off, slBase q (usedB ps) cq 64 = some ⟨y, off, none⟩ → w.heap.size ≤ y ∧ y < N := fun y off e => ⟨hqn y (hqR y off e), by have := hrdl y (hqR y off e); omega⟩
            have l50 := hb50.lt
            have hbk : BookAt w21 b50 d (fun y => w.heap.size ≤ y ∧ y < N) ⟨Di, n, t, ps, usedB ps, false⟩ := ⟨⟨q2, k2, rows2, hb50, hrw, PiecesAt.mono hps fun y hy => ⟨by have := hy.1; omega, by have := hy.2; omega⟩, fun y hy => ⟨by have := hqn2 y hy; omega, by have := hrwl y hy; omega⟩⟩, ⟨by omega, by omega⟩, fun y hy => by have := hy.2; omega⟩
            obtain ⟨sR, hsRe⟩ : ∃ s, s = slBase q (usedB ps) cq 64 := ⟨_, rfl⟩
            rw [← hsRe] at hsR hqR ⊢
            refine wl_p I_ok rfl (wl_nil (f_then (c_block ?_)))
            refine c_loopK (α := Nat × Bool × (Nat → Prop) × Dsk) [0, 7, 8, 10, 100, 101] rfl (fun z => [(15, .bool z.2.1), (102, .int .i64 (z.1 : Int))]) (fun z u => (z.1 ≤ T.length ∧ At u d z.2.2.1 z.2.2.2 ∧ z.2.2.2.Ok (m + 2 + n + 2 * z.1) ∧ wipeD Di at_ T = wipeD z.2.2.2 (at_ + (z.1 : Nat)) (T.drop z.1) ∧ (z.2.1 = true ↔ Di.order = [] ∧ ∀ b ∈ T.take z.1, b = zeros) ∧ (∀ y, z.2.2.1 y → F y ∨ N ≤ y) ∧ BookAt u b50 d (fun y => w.heap.size ≤ y ∧ y < N) ⟨Di, n, t, ps, usedB ps, false⟩ ∧ Sl u sR T.length 64 (T.flatMap bytesU) ∧ N ≤ u.heap.size) ∧ Ext F w u) (fun z u => T.length - z.1) (0, decide ((Di.order.length : Int) = 0), F, Di) rfl ⟨⟨Nat.zero_le _, hA, hok2, by simp, by simp, fun y hy => .inl hy, hbk, hsR, by rw [hN]; exact Nat.le_refl _⟩, hX⟩ ?_
            rintro ⟨i, fl, G, Dz⟩ w22 ⟨⟨hi, hA, hok3, hwp, hfl, hG, hbk, hsR, hNu⟩, hX⟩
            try dsimp only
            dsimp only at hi hA hok3 hwp hfl hG
            have hGH : ∀ y, (w.heap.size ≤ y ∧ y < N) → ¬ G y := fun y hy e => (hG y e).elim (fun g => by have := hFlt y g; have := hy.1; omega) fun g => by have := hy.2; omega
            have hXz := hX.size
            have hT := Ext.refl G w22
            refine c_seq (c_region (wl_p I_ok rfl (wl_nil (f_then (c_seq (c_if rfl (fun hc => ?_) (fun hc => ?_)))))))
            · have hiR : i < T.length := by omega
              obtain ⟨pb, po, rfl, hsr⟩ := hsR.rowAll (fun r hr => bytesU_64 (hT64 r hr)) (by omega)
              have hpb := hqR pb po rfl
              have hGpb : ¬ G pb := hGH pb hpb
              have hi64 := hT64 _ (List.getElem_mem hiR)
              refine c_skip (f_then ?_)
              refine c_cutK (α := Bool × (Nat → Prop) × Dsk) [0, 7, 8, 10, 100, 101, 102] rfl (fun z => [(15, .bool z.1)]) (fun z u => (At u d z.2.1 z.2.2 ∧ z.2.2.Ok (m + 2 + n + 2 * (i + 1)) ∧ wipeD Di at_ T = wipeD z.2.2 (at_ + (i + 1 : Nat)) (T.drop (i + 1)) ∧ (z.1 = true ↔ Di.order = [] ∧ ∀ b ∈ T.take (i + 1), b = zeros) ∧ (∀ y, z.2.1 y → F y ∨ N ≤ y) ∧ BookAt u b50 d (fun y => w.heap.size ≤ y ∧ y < N) ⟨Di, n, t, ps, usedB ps, false⟩ ∧ Sl u (some ⟨pb, po, none⟩) T.length 64 (T.flatMap bytesU)) ∧ Ext G w22 u ∧ Ext F w u) ?_ ?_
              · refine c_block ?_
                refine c_seq (c_region (wl_p I_ok rfl (wl (st_ix I_ok rfl 64 rfl i rfl hiR (po + i * 64) rfl (wl (st_ldN I_ok rfl (hsr i hiR) (bytesU_64 hi64) ?_))))))
                have hAl := hA.lt
                refine wl (st_al I_ok rfl fun b17 w23 hn17 hb17 hE23 => ?_)
                have fr17 := Nat.le_trans hX.size hn17
                have frhT17 := Nat.le_trans hT.size hn17
                have hA := hA.extNo hE23
                have hbk := hbk.extNo hE23
                have hsR := hsR.extNo hE23
                have hT := hT.thenNo hE23
                have hX := hX.thenNo hE23
                refine wl_p I_ok rfl ?_
                have hG17 : ¬ G b17 := fun e => by have := hAl _ e; omega
                refine wl (st_stW (l' := bytesU T[i]) I_ok hb17 rfl rfl (bytesU_64 hi64) (by rw [bytesU_64 hi64]; rfl) OneC.h fun w24 hb17 hE24 hs24 => ?_)
                have hA := hA.ext hE24 fun x hx e => by have e : x = b17 := e; subst e; exact hG17 hx
                have hbk := hbk.ext hE24 fun y hy e => by have e : y = b17 := e; have := hy.2; omega
                have hsR := hsR.ext hE24 fun y off e h => by have h : y = b17 := h; have := hqR y off e; omega
                have hT := hT.thenNew hE24 frhT17
                have hX := hX.thenNew hE24 fr17
                refine wl_nil (f_then (c_seq (c_region (wl (st_ldB I_ok hb17 rfl (bytesU_64 hi64) (wl (st_bd I_ok rfl trivial (l' := bytesU zeros) (by rw [zeros_b]; rfl) ?_)))))))
                refine wl (st_eqA (xs := natsI T[i]) (ys := natsI zeros) I_ok rfl (by kernel_rfl) (numB_eq _) (numB_eq _) (by rw [natsI_len, hi64]) (by rw [natsI_len, zeros_length]) (wl_nil (f_then (c_if rfl (fun hc => ?_) (fun hc => ?_)))))
                · have hz : ¬ T[i] = zeros := fun e => hc (by rw [e])
                  rw [wipeD_step hiR hz] at hwp
                  refine c_seq (c_region (wl_p I_ok rfl (wl_nil (f_then (c_seq ?_)))))
                  refine c_draw rfl 14 [(0, true), (1, true), (2, true), (4, true), (5, true), (6, true), (7, true), (9, true), (11, true), (3, false), (8, true), (10, true), (12, false), (13, true)] [] (G) (by kernel_rfl) fun w25 hE25 hs25 => ?_
                  have hd17 := hb17
                  have hAd := hA
                  have hrdd := hrd
                  have hrwd := hrw
                  have hpsd := hps
                  have hbkd := hbk
                  have hsRd := hsR
                  have hXd := hX
                  have hb17 := hb17.extNo hE25
                  have hA := hA.extNo hE25
                  have hbk := hbk.extNo hE25
                  have hsR := hsR.extNo hE25
                  have hT := hT.thenNo hE25
                  have hX := hX.thenNo hE25
                  have hC : Ext (G) _ w25 := hE25.no
                  obtain ⟨⟨q3, c3, rows3, hbx, _, _, _⟩, h50H, _⟩ := hbkd
                  refine wd_k I_ok 6 rfl (wd_ld I_ok rfl rfl (fun w' hw' => ((hbx.ext hw' (hGH _ h50H)).cell rfl)) ?_)
                  refine wd_k I_ok 1 rfl (wd_bd I_ok rfl rfl trivial (l' := bytesU zeros) (by rw [zeros_b]; rfl) ?_)
                  refine wd_l rfl (st_call Tryz.call66 rfl rfl rfl rfl rfl rfl (refFrom_calls w25 t n ht (by omega)) fun v26 w26 hr26 => ⟨(by obtain ⟨rfl, hE26⟩ := hr26; exact hC.thenNo hE26), ?_⟩)
                  obtain ⟨rfl, hE26⟩ := hr26
                  have hb17 := hb17.extNo hE26
                  have hA := hA.extNo hE26
                  have hbk := hbk.extNo hE26
                  have hsR := hsR.extNo hE26
                  have hT := hT.thenNo hE26
                  have hX := hX.thenNo hE26
                  have hC := hC.thenNo hE26
                  refine wd_k I_ok 2 rfl ?_
                  rw [show IntKind.i64.wrap (IntKind.i64.wrap ((areaB t n : Int) + (usedB ps : Int)) + (i : Int)) = at_ + (i : Nat) from by rw [IntWalk.i64_in ((areaB t n : Int) + (usedB ps : Int)) (by omega), IntWalk.i64_in _ (by omega), hat]; omega]
                  have hXw := hX.size
                  have hTs := hT.size
                  refine wd_l rfl (st_call Tryz.call13 rfl rfl rfl rfl rfl rfl (dkWrite w26 hA hok3 (by omega) (at_ + (i : Nat)) zeros_length) fun v27 w27 hr27 => ⟨(by obtain ⟨rfl, G2, hA2, hE27, hGs⟩ := hr27; exact hC.then hE27), ?_⟩)
                  obtain ⟨rfl, G2, hA2, hE27, hGs⟩ := hr27
                  have hC := hC.then hE27
                  have hX := hX.trans hE27 fun y hy e => (hG y e).resolve_right (by omega)
                  have hT := hT.then hE27
                  have hbk := hbk.ext hE27 hGH
                  have hsR := hsR.ext hE27 fun b o e h => by cases e; exact hGpb h
                  have hG2 : ∀ y, G2 y → F y ∨ N ≤ y := fun y hy => (hGs y hy).elim (hG y) fun e => .inr (by omega)
                  refine wd_k I_ok 1 rfl (wd_sw (wb_nil (f_then (c_seq (c_region (wl_p I_ok rfl (wl_nil (f_then (c_if rfl (fun hc => ?_) (fun hc => ?_))))))))))
                  · rw [if_pos hc] at hwp
                    have hcl : C = Dz.write (at_ + (i : Nat)) zeros := by rw [hCd]; unfold cleanD; dsimp only; rw [hwp, if_pos hc]
                    rw [hcl]
                    refine c_seq (c_region (wl_p I_ok rfl (wl_nil (f_then (c_ret (f_blockR (f_thenR (f_thenR (f_blockR (f_thenR (f_ret [_, _] ⟨rfl, rfl, trivial⟩ ?_)))))))))))
                    exact ⟨none, G2, rfl, hA2, hX, fun y hy => (hG2 y hy).imp id fun e => by omega, fun e => absurd e hc⟩
                  · rw [if_neg hc] at hwp
                    refine c_skip ?_
                    exact f_blockN (f_cut (false, G2, (Dz.write (at_ + (i : Nat)) zeros).1) rfl ⟨⟨hA2, hok3.write _ zeros_length, hwp, ⟨fun h => (by cases h), fun h => absurd (((take_zero hiR).1 h.2).2) hz⟩, hG2, hbk, hsR⟩, hT, hX⟩)
                · have hz := natsI_inj.1 (Decidable.not_not.1 hc)
                  rw [wipeD_zero hiR hz] at hwp
                  refine c_skip ?_
                  exact f_blockN (f_cut (fl, G, Dz) rfl ⟨⟨hA, hok3.mono (by omega), hwp, hfl.trans (by rw [take_zero hiR]; exact ⟨fun h => ⟨h.1, h.2, hz⟩, fun h => ⟨h.1, h.2.1⟩⟩), hG, hbk, hsR⟩, hT, hX⟩)
              rintro ⟨fl2, G2, D2⟩ w28 ⟨⟨hA, hok4, hwp, hfl, hG2, hbk, hsR⟩, hT, hX⟩
              try dsimp only
              dsimp only at hA hok4 hwp hfl hG2
              refine c_region (wl_p I_ok rfl ?_)
              rw [IntWalk.i64_in _ (by omega)]
              refine wl_nil ?_
              exact f_round (i + 1, fl2, G2, D2) rfl ⟨⟨hiR, hA, hok4, hwp, hfl, hG2, hbk, hsR, by have := hT.size; omega⟩, hX⟩ (by first | omega | (dsimp only; omega))
            · have hiR : i = T.length := by omega
              subst hiR
              rw [List.drop_length] at hwp
              rw [List.take_length] at hfl
              have hcl : C = if fl = true then (Dz, 0) else Dz.sync := by
                rw [hCd]
                unfold cleanD
                dsimp only
                rw [hwp]
                show (if (0 : Int) ≠ 0 then _ else _) = _
                rw [if_neg (by decide)]
                by_cases hf : fl = true
                · rw [if_pos (hfl.1 hf), if_pos hf]; rfl
                · rw [if_neg (fun e => hf (hfl.2 e)), if_neg hf]; rfl
              rw [hcl]
              refine c_exit (f_thenE (f_thenE (f_blockE (f_then (c_seq (c_seq (c_region (wl_p I_ok rfl (wl_nil (f_then (c_cond rfl (fun hc => ?_) (fun hc => ?_))))))))))))
              · rw [if_pos hc]
                refine c_seq (c_region (wl_p I_ok rfl (wl_nil (f_then (c_ret (f_thenR (f_ret [_, _] ⟨rfl, rfl, trivial⟩ ?_)))))))
                exact ⟨_, G, rfl, hA, hX, fun y hy => (hG y hy).imp id fun e => by omega, fun _ => ⟨b50, _, rfl, hbk.data rfl rfl rfl rfl rfl, fun y hy => ⟨hy.1, hGH y hy⟩⟩⟩
              · rw [if_neg (by rw [hc]; decide)]
                refine c_skip (f_then (c_seq (c_region (wl_p I_ok rfl ?_))))
                have hXw := hX.size
                have hTs := hT.size
                refine wl (st_call Tryz.call14 rfl rfl rfl rfl rfl rfl (dkSync w22 hA hok3 (by omega)) fun v29 w29 hr29 => ?_)
                obtain ⟨rfl, G2, hA2, hE29, hGs⟩ := hr29
                have hX2 := hX.trans hE29 fun y hy e => (hG y e).resolve_right (by omega)
                have hbk := hbk.ext hE29 hGH
                refine wl_p I_ok rfl (wl_nil (f_then (c_ret (f_ret [_, _] ⟨rfl, rfl, trivial⟩ ?_))))
                exact ⟨_, G2, rfl, hA2, hX2, fun y hy => (hGs y hy).elim (fun e => (hG y e).imp id fun e => by omega) fun e => .inr (by omega), fun _ => ⟨b50, _, rfl, hbk.data rfl rfl rfl rfl rfl, fun y hy => ⟨hy.1, fun e => (hGs y e).elim (hGH y hy) fun g => by have := hy.2; omega⟩⟩⟩
end Go.Proofs.YtlfdlodcjiaiiaaGreatDoor
namespace Go.Proofs.YtlfdlodcjiaiiaaGreatDoor
open Go.Vc
theorem bookCheckpoint_calls (w : World) {x d m c : Nat} {H F K : Nat → Prop} {W : Wl} {p : Option Addr} {b : Bytes} (h : BookAt w x d H W) (hA : At w d F W.D) (hok : W.D.Ok m) (hm : m + 2000 < 1000000000) (hW : Wl.Ok W) (hs : SlB w p b) (hp : PieceAt w K (.slice p b.length c) b) (hK : ∀ y, K y → ¬ F y ∧ y < w.heap.size) (hHF : ∀ y, H y → ¬ F y) :
    CallsV Tryz.prog 29 [.pointer (some ⟨x, 0, none⟩), .slice p b.length c] w fun v w' => BookK w x d F H K (W.checkpoint b) v w' := by
  refine calls_enter Tryz.func29 rfl rfl rfl rfl ?_
  have hX := Ext.refl (fun y => F y ∨ H y) w
  have hsl := sectN_le b.length
  have hFlt := hA.lt
  obtain ⟨hz1, hz2⟩ := hW.size
  have hz3 := hW.few
  have hz4 := hW.room
  have hz5 := hW.turn
  have hbook := h
  obtain ⟨⟨q, cq, rows, hlb, hrw, hps, hqH⟩, hxH, hlt⟩ := id h
  have hFx := hHF x hxH
  have hat := hA
  have hsb := hs
  have hpc := hp
  refine c_seq (c_region (wl_p I_ok rfl (wl_nil (f_then (c_seq (c_region (wl_p I_ok rfl (wl (st_ld I_ok rfl (hlb.cell rfl) (wl_p I_ok rfl (wl_nil (f_then ?_))))))))))))
  refine c_cutK (α := Nat) [0, 1] rfl (fun z => [(5, .int .i64 (z : Int))]) (fun z u => u = w ∧ (z : Int) = if W.turn = 4294967295 then 0 else (W.size : Int)) ?_ ?_
  · refine c_seq ?_
    refine c_region (wl_p I_ok rfl (wl (st_ld I_ok rfl (hlb.cell rfl) (wl_p I_ok rfl (wl_nil (f_then (c_if rfl (fun hc => ?_) (fun hc => ?_))))))))
    · have htu : W.turn = 4294967295 := by omega
      refine c_region (wl_p I_ok rfl (wl_nil ?_))
      exact f_cut (0) rfl ⟨rfl, by rw [if_pos htu]; rfl⟩
    · have htu : W.turn ≠ 4294967295 := by omega
      refine c_skip ?_
      exact f_cut (W.size) rfl ⟨rfl, by rw [if_neg htu]⟩
  rintro room w1 ⟨hu, hroom⟩
  have hu := hu.symm
  subst hu
  refine c_seq (c_seq (c_region (wl_p I_ok rfl (wl (st_call Tryz.call64 rfl rfl rfl rfl rfl rfl (bookRefuses_calls w hbook (p := p) (c := c) (b := b) (room : Int)) fun v2 w2 hr2 => ?_)))))
  obtain ⟨rfl, hE2⟩ := hr2
  have hlb := hlb.extNo hE2
  have hpc := hpc.ext hE2 fun _ _ _ => id
  have hsb := hsb.extNo hE2
  have hat := hat.extNo hE2
  have hbook := hbook.extNo hE2
  have hX := hX.thenNo hE2
  rw [hroom]
  refine wl_p I_ok rfl (wl_nil (f_then (c_seq (c_region (wl_p I_ok rfl (wl_nil (f_then (c_if rfl (fun hc => ?_) (fun hc => ?_)))))))))
  · refine c_seq ?_
    refine c_region (wl_p I_ok rfl (wl_nil (f_then (c_ret (f_thenR (f_ret1 rfl rfl ?_))))))
    rw [ckp_no hc]
    exact ⟨rfl, F, H, hat, hbook, fun y => .inl, fun y hy => .inl (.inl hy), hHF, hX⟩
  · have hre : W.refuses b (if W.turn = 4294967295 then 0 else (W.size : Int)) = 0 := Decidable.not_not.1 hc
    obtain ⟨hb40, hbr⟩ := refuses_zero hre
    have hsp := sectN_pos hb40
    have htn : W.turn ≠ 4294967295 := fun e => by rw [if_pos e] at hbr; omega
    rw [if_neg htn] at hbr
    refine c_skip (f_then (c_seq (c_region (wl_p I_ok rfl (wl (st_ld I_ok rfl (hlb.cell rfl) (wl_p I_ok rfl ?_)))))))
    rw [show IntKind.u32.wrap ((W.turn : Int) + 1) = ((W.turn + 1 : Nat) : Int) from wrap32 (W.turn + 1) (by omega)]
    refine wl_p I_ok rfl ?_
    have hX1 := hX.size
    refine wl (st_call Tryz.call63 rfl rfl rfl rfl rfl rfl (bookBegin_calls w2 (t := W.turn + 1) hbook hat hok (by omega) (by omega) (by omega) hsb hb40 hFx) fun v3 w3 hr3 => ?_)
    obtain ⟨rfl, F2, hat2, hE3, hFs⟩ := hr3
    obtain ⟨y, hy⟩ : ∃ y, y = beginD W.D (W.turn + 1) W.size b := ⟨_, rfl⟩
    rw [← hy] at hat2 ⊢
    have hX := hX.then (hE3.mono fun z _ e => .inl e)
    have hlb := hlb.ext hE3 hFx
    have hpc := hpc.ext hE3 fun z hz _ => (hK z hz).1
    have hbook := hbook.ext hE3 hHF
    obtain ⟨⟨q, cq, rows, hlb, hrw, hps, hqH⟩, _, hltb⟩ := id hbook
    have hxw : x < w3.heap.size := hlb.lt
    have hHF2 : ∀ z, H z → ¬ F2 z := fun z hz e => (hFs z e).elim (hHF z hz) fun e => by have := hlt z hz; omega
    have hKF2 : ∀ z, K z → ¬ F2 z := fun z hz e => (hFs z e).elim (hK z hz).1 fun e => by have := (hK z hz).2; omega
    have hFs := grow_sub (fun z => .inl) hX1 hFs
    obtain ⟨N, hN⟩ : ∃ N, N = w3.heap.size := ⟨_, rfl⟩
    have hNw : w.heap.size ≤ N := by rw [hN]; exact hX.size
    have hF2lt : ∀ z, F2 z → z < N := by rw [hN]; exact hat2.lt
    refine wl_p I_ok rfl (wl_nil (f_then ?_))
    refine c_cutK (α := Wl × (Nat → Prop)) [7] rfl (fun z => []) (fun z u => (BookAt u x d z.2 z.1 ∧ At u d F2 z.1.D ∧ (∀ y, z.2 y → (H y ∨ K y) ∨ w.heap.size ≤ y) ∧ (∀ y, z.2 y → ¬ F2 y) ∧ W.checkpoint b = (z.1, y.2)) ∧ Ext (fun y => F y ∨ H y) w u) ?_ ?_
    · refine c_seq ?_
      refine c_region (wl_p I_ok rfl ?_)
      have hlb0 := hlb
      refine wl (st_set I_ok hlb rfl rfl (Nat.lt_of_lt_of_eq (by decide : 0 + 5 < 6) rfl) fun w4 hlb hE4 hs4 => ?_)
      have hX := hX.then (hE4.mono fun z _ e => .inr (by have e : z = x := e; rw [e]; exact hxH))
      have hat2 := hat2.ext hE4 fun z hz e => by have e : z = x := e; subst e; exact hHF2 z hxH hz
      have hpc := hpc.ext hE4 fun z _ ht e => by have e : z = x := e; subst e; exact ht.ne hlb0 (by decide) rfl
      have hrw2 := hrw.extTy hE4 hlb0 (by decide)
      have hps2 := hps.ext hE4 fun z _ ht e => by have e : z = x := e; subst e; exact ht.ne hlb0 (by decide) rfl
      refine wl_nil (f_then (c_seq (c_region (wl_p I_ok rfl (wl (st_ld I_ok rfl (hlb.cell rfl) (wl_p I_ok rfl (wl_nil (f_then (c_cond rfl (fun hc => ?_) (fun hc => ?_)))))))))))
      · have hy0 : y.2 = 0 := by simpa using hc
        rw [decide_eq_false (fun e => e hy0)] at hlb
        have hNx : x < N := by omega
        refine c_drawX rfl 22 22 [] (One x) (by kernel_rfl) fun w5 hE5 hs5 => ?_
        have hlbd := hlb
        have hpcd := hpc
        have hsbd := hsb
        have hatd := hat
        have hbookd := hbook
        have hat2d := hat2
        have hXd := hX
        have hlb := hlb.extNo hE5
        have hpc := hpc.ext hE5 fun _ _ _ => id
        have hat2 := hat2.extNo hE5
        have hX := hX.thenNo hE5
        have hC : Ext (One x) _ w5 := hE5.no
        refine wx_plan [(0, true), (1, true), (2, true), (3, true), (4, true), (5, true), (8, true), (10, true), (11, true)] 13 rfl (by kernel_rfl) (wd_k I_ok 9 rfl (wd_tail rfl ?_))
        refine wx_alt [6, 9, 12] rfl (by kernel_rfl) ⟨⟨_, rfl, ?_⟩, ⟨_, rfl, ?_⟩, ⟨_, rfl, ?_⟩, trivial⟩
        · refine st_ld I_ok rfl (hlb.cell rfl) ⟨hC, ?_⟩
          refine wx_plan [(7, true)] 11 rfl (by kernel_rfl) (wd_k I_ok 1 rfl (wd_tail rfl (wx_alt [9, 12] rfl (by kernel_rfl) ⟨⟨_, rfl, ?_⟩, ⟨_, rfl, ?_⟩, trivial⟩)))
          · refine st_bs I_ok rfl 1 rfl rfl rfl (by decide) (by decide) (by simp [partsOk]) (l' := [.slice p b.length c]) rfl fun b51 w6 hn51 hb51 hE6 hs6 => ⟨hC.thenNo hE6, ?_⟩
            have fr51 := Nat.le_trans hX.size hn51
            have frhC51 := Nat.le_trans hC.size hn51
            have hlb := hlb.extNo hE6
            have hpc := hpc.ext hE6 fun _ _ _ => id
            have hat2 := hat2.extNo hE6
            have hX := hX.thenNo hE6
            have hC := hC.thenNo hE6
            refine wx_plan [(12, false), (13, true), (14, true), (15, false), (16, true), (17, true), (18, false), (19, true), (20, true), (21, false)] 0 rfl (by kernel_rfl) ?_
            refine wd_l rfl (st_call Tryz.call68 rfl rfl rfl rfl rfl rfl (refSectors_calls w6 (b.length : Int)) fun v7 w7 hr7 => ⟨(by obtain ⟨rfl, hE7⟩ := hr7; exact hC.thenNo hE7), ?_⟩)
            obtain ⟨rfl, hE7⟩ := hr7
            have hb51 := hb51.extNo hE7
            have hlb := hlb.extNo hE7
            have hpc := hpc.ext hE7 fun _ _ _ => id
            have hat2 := hat2.extNo hE7
            have hX := hX.thenNo hE7
            have hC := hC.thenNo hE7
            rw [sectZ_nat]
            refine wd_k I_ok 2 rfl ?_
            rw [show IntKind.u32.wrap ((W.turn : Int) + 1) = ((W.turn + 1 : Nat) : Int) from wrap32 (W.turn + 1) (by omega)]
            have hlb0 := hlb
            refine wd_l rfl (st_set I_ok hlb rfl rfl (Nat.lt_of_lt_of_eq (by decide : 0 + 2 < 6) rfl) fun w8 hlb hE8 hs8 => ⟨hC.then hE8, ?_⟩)
            have hb51 := hb51.ext hE8 fun e => by have e : b51 = x := e; omega
            have hC := hC.then hE8
            have hX := hX.then (hE8.mono fun z _ e => .inr (by have e : z = x := e; rw [e]; exact hxH))
            have hat2 := hat2.ext hE8 fun z hz e => by have e : z = x := e; subst e; exact hHF2 z hxH hz
            have hpc := hpc.ext hE8 fun z _ ht e => by have e : z = x := e; subst e; exact ht.ne hlb0 (by decide) rfl
            refine wd_k I_ok 2 rfl ?_
            have hlb0 := hlb
            refine wd_l rfl (st_set I_ok hlb rfl rfl (Nat.lt_of_lt_of_eq (by decide : 0 + 3 < 6) rfl) fun w9 hlb hE9 hs9 => ⟨hC.then hE9, ?_⟩)
            have hb51 := hb51.ext hE9 fun e => by have e : b51 = x := e; omega
            have hC := hC.then hE9
            have hX := hX.then (hE9.mono fun z _ e => .inr (by have e : z = x := e; rw [e]; exact hxH))
            have hat2 := hat2.ext hE9 fun z hz e => by have e : z = x := e; subst e; exact hHF2 z hxH hz
            have hpc := hpc.ext hE9 fun z _ ht e => by have e : z = x := e; subst e; exact ht.ne hlb0 (by decide) rfl
            refine wd_k I_ok 2 rfl ?_
            have hlb0 := hlb
            refine wd_l rfl (st_set I_ok hlb rfl rfl (Nat.lt_of_lt_of_eq (by decide : 0 + 4 < 6) rfl) fun w10 hlb hE10 hs10 => ⟨hC.then hE10, ?_⟩)
            have hb51 := hb51.ext hE10 fun e => by have e : b51 = x := e; omega
            have hC := hC.then hE10
            have hX := hX.then (hE10.mono fun z _ e => .inr (by have e : z = x := e; rw [e]; exact hxH))
            have hat2 := hat2.ext hE10 fun z hz e => by have e : z = x := e; subst e; exact hHF2 z hxH hz
            have hpc := hpc.ext hE10 fun z _ ht e => by have e : z = x := e; subst e; exact ht.ne hlb0 (by decide) rfl
            have hxw9 := hX.size
            refine wd_sw (wb_nil ?_)
            exact f_cut ({ W with D := y.1, broken := false, turn := W.turn + 1, pieces := [b], used := sectN b.length }, fun z => z = x ∨ z = b51 ∨ K z) rfl ⟨⟨⟨⟨some ⟨b51, 0, none⟩, 1, _, hlb, Own.blk (n := 1) (c := 1) hb51 1 rfl (Nat.le_refl _) (by decide), PiecesAt.snoc (ps := []) (rows := []) ⟨rfl, fun i b v h => by cases h⟩ (PieceAt.mono hpc fun z hz => .inr (.inr hz)), fun z hz => by cases hz; exact .inr (.inl rfl)⟩, .inl rfl, fun z hz => by rcases hz with rfl | rfl | hz; exact hlb.lt; exact hb51.lt; exact Nat.lt_of_lt_of_le (hK z hz).2 hxw9⟩, hat2, fun z hz => by rcases hz with rfl | rfl | hz; exact .inl (.inl hxH); exact .inr fr51; exact .inl (.inr hz), fun z hz e => by rcases hz with rfl | rfl | hz; exact hHF2 _ hxH e; have := hF2lt _ e; omega; exact hKF2 z hz e, by rw [hy0]; exact ckp_ok hre hy hy0⟩, hX⟩
          · refine st_call Tryz.call68 rfl rfl rfl rfl rfl rfl (refSectors_calls w5 (b.length : Int)) fun v11 w11 hr11 => ⟨(by obtain ⟨rfl, hE11⟩ := hr11; exact hC.thenNo hE11), ?_⟩
            obtain ⟨rfl, hE11⟩ := hr11
            have hlb := hlb.extNo hE11
            have hpc := hpc.ext hE11 fun _ _ _ => id
            have hat2 := hat2.extNo hE11
            have hX := hX.thenNo hE11
            have hC := hC.thenNo hE11
            rw [sectZ_nat]
            refine wx_plan [(13, true), (14, true)] 8 rfl (by kernel_rfl) (wd_k I_ok 2 rfl (wd_tail rfl (wx_alt [9, 15] rfl (by kernel_rfl) ⟨⟨_, rfl, ?_⟩, ⟨_, rfl, ?_⟩, trivial⟩)))
            · refine st_bs I_ok rfl 1 rfl rfl rfl (by decide) (by decide) (by simp [partsOk]) (l' := [.slice p b.length c]) rfl fun b51 w12 hn51 hb51 hE12 hs12 => ⟨hC.thenNo hE12, ?_⟩
              have fr51 := Nat.le_trans hX.size hn51
              have frhC51 := Nat.le_trans hC.size hn51
              have hlb := hlb.extNo hE12
              have hpc := hpc.ext hE12 fun _ _ _ => id
              have hat2 := hat2.extNo hE12
              have hX := hX.thenNo hE12
              have hC := hC.thenNo hE12
              refine wx_plan [(15, false), (16, true), (17, true), (18, false), (19, true), (20, true), (21, false)] 0 rfl (by kernel_rfl) ?_
              rw [show IntKind.u32.wrap ((W.turn : Int) + 1) = ((W.turn + 1 : Nat) : Int) from wrap32 (W.turn + 1) (by omega)]
              have hlb0 := hlb
              refine wd_l rfl (st_set I_ok hlb rfl rfl (Nat.lt_of_lt_of_eq (by decide : 0 + 2 < 6) rfl) fun w13 hlb hE13 hs13 => ⟨hC.then hE13, ?_⟩)
              have hb51 := hb51.ext hE13 fun e => by have e : b51 = x := e; omega
              have hC := hC.then hE13
              have hX := hX.then (hE13.mono fun z _ e => .inr (by have e : z = x := e; rw [e]; exact hxH))
              have hat2 := hat2.ext hE13 fun z hz e => by have e : z = x := e; subst e; exact hHF2 z hxH hz
              have hpc := hpc.ext hE13 fun z _ ht e => by have e : z = x := e; subst e; exact ht.ne hlb0 (by decide) rfl
              refine wd_k I_ok 2 rfl ?_
              have hlb0 := hlb
              refine wd_l rfl (st_set I_ok hlb rfl rfl (Nat.lt_of_lt_of_eq (by decide : 0 + 3 < 6) rfl) fun w14 hlb hE14 hs14 => ⟨hC.then hE14, ?_⟩)
              have hb51 := hb51.ext hE14 fun e => by have e : b51 = x := e; omega
              have hC := hC.then hE14
              have hX := hX.then (hE14.mono fun z _ e => .inr (by have e : z = x := e; rw [e]; exact hxH))
              have hat2 := hat2.ext hE14 fun z hz e => by have e : z = x := e; subst e; exact hHF2 z hxH hz
              have hpc := hpc.ext hE14 fun z _ ht e => by have e : z = x := e; subst e; exact ht.ne hlb0 (by decide) rfl
              refine wd_k I_ok 2 rfl ?_
              have hlb0 := hlb
              refine wd_l rfl (st_set I_ok hlb rfl rfl (Nat.lt_of_lt_of_eq (by decide : 0 + 4 < 6) rfl) fun w15 hlb hE15 hs15 => ⟨hC.then hE15, ?_⟩)
              have hb51 := hb51.ext hE15 fun e => by have e : b51 = x := e; omega
              have hC := hC.then hE15
              have hX := hX.then (hE15.mono fun z _ e => .inr (by have e : z = x := e; rw [e]; exact hxH))
              have hat2 := hat2.ext hE15 fun z hz e => by have e : z = x := e; subst e; exact hHF2 z hxH hz
              have hpc := hpc.ext hE15 fun z _ ht e => by have e : z = x := e; subst e; exact ht.ne hlb0 (by decide) rfl
              have hxw9 := hX.size
              refine wd_sw (wb_nil ?_)
              exact f_cut ({ W with D := y.1, broken := false, turn := W.turn + 1, pieces := [b], used := sectN b.length }, fun z => z = x ∨ z = b51 ∨ K z) rfl ⟨⟨⟨⟨some ⟨b51, 0, none⟩, 1, _, hlb, Own.blk (n := 1) (c := 1) hb51 1 rfl (Nat.le_refl _) (by decide), PiecesAt.snoc (ps := []) (rows := []) ⟨rfl, fun i b v h => by cases h⟩ (PieceAt.mono hpc fun z hz => .inr (.inr hz)), fun z hz => by cases hz; exact .inr (.inl rfl)⟩, .inl rfl, fun z hz => by rcases hz with rfl | rfl | hz; exact hlb.lt; exact hb51.lt; exact Nat.lt_of_lt_of_le (hK z hz).2 hxw9⟩, hat2, fun z hz => by rcases hz with rfl | rfl | hz; exact .inl (.inl hxH); exact .inr fr51; exact .inl (.inr hz), fun z hz e => by rcases hz with rfl | rfl | hz; exact hHF2 _ hxH e; have := hF2lt _ e; omega; exact hKF2 z hz e, by rw [hy0]; exact ckp_ok hre hy hy0⟩, hX⟩
            · rw [show IntKind.u32.wrap ((W.turn : Int) + 1) = ((W.turn + 1 : Nat) : Int) from wrap32 (W.turn + 1) (by omega)]
              have hlb0 := hlb
              refine st_set I_ok hlb rfl rfl (Nat.lt_of_lt_of_eq (by decide : 0 + 2 < 6) rfl) fun w16 hlb hE16 hs16 => ⟨hC.then hE16, ?_⟩
              have hC := hC.then hE16
              have hX := hX.then (hE16.mono fun z _ e => .inr (by have e : z = x := e; rw [e]; exact hxH))
              have hat2 := hat2.ext hE16 fun z hz e => by have e : z = x := e; subst e; exact hHF2 z hxH hz
              have hpc := hpc.ext hE16 fun z _ ht e => by have e : z = x := e; subst e; exact ht.ne hlb0 (by decide) rfl
              refine wx_plan [(9, false), (16, true), (17, true), (18, false), (19, true), (20, true), (21, false)] 0 rfl (by kernel_rfl) ?_
              refine wd_l rfl (st_bs I_ok rfl 1 rfl rfl rfl (by decide) (by decide) (by simp [partsOk]) (l' := [.slice p b.length c]) rfl fun b51 w17 hn51 hb51 hE17 hs17 => ⟨hC.thenNo hE17, ?_⟩)
              have fr51 := Nat.le_trans hX.size hn51
              have frhC51 := Nat.le_trans hC.size hn51
              have hlb := hlb.extNo hE17
              have hpc := hpc.ext hE17 fun _ _ _ => id
              have hat2 := hat2.extNo hE17
              have hX := hX.thenNo hE17
              have hC := hC.thenNo hE17
              refine wd_k I_ok 2 rfl ?_
              have hlb0 := hlb
              refine wd_l rfl (st_set I_ok hlb rfl rfl (Nat.lt_of_lt_of_eq (by decide : 0 + 3 < 6) rfl) fun w18 hlb hE18 hs18 => ⟨hC.then hE18, ?_⟩)
              have hb51 := hb51.ext hE18 fun e => by have e : b51 = x := e; omega
              have hC := hC.then hE18
              have hX := hX.then (hE18.mono fun z _ e => .inr (by have e : z = x := e; rw [e]; exact hxH))
              have hat2 := hat2.ext hE18 fun z hz e => by have e : z = x := e; subst e; exact hHF2 z hxH hz
              have hpc := hpc.ext hE18 fun z _ ht e => by have e : z = x := e; subst e; exact ht.ne hlb0 (by decide) rfl
              refine wd_k I_ok 2 rfl ?_
              have hlb0 := hlb
              refine wd_l rfl (st_set I_ok hlb rfl rfl (Nat.lt_of_lt_of_eq (by decide : 0 + 4 < 6) rfl) fun w19 hlb hE19 hs19 => ⟨hC.then hE19, ?_⟩)
              have hb51 := hb51.ext hE19 fun e => by have e : b51 = x := e; omega
              have hC := hC.then hE19
              have hX := hX.then (hE19.mono fun z _ e => .inr (by have e : z = x := e; rw [e]; exact hxH))
              have hat2 := hat2.ext hE19 fun z hz e => by have e : z = x := e; subst e; exact hHF2 z hxH hz
              have hpc := hpc.ext hE19 fun z _ ht e => by have e : z = x := e; subst e; exact ht.ne hlb0 (by decide) rfl
              have hxw9 := hX.size
              refine wd_sw (wb_nil ?_)
              exact f_cut ({ W with D := y.1, broken := false, turn := W.turn + 1, pieces := [b], used := sectN b.length }, fun z => z = x ∨ z = b51 ∨ K z) rfl ⟨⟨⟨⟨some ⟨b51, 0, none⟩, 1, _, hlb, Own.blk (n := 1) (c := 1) hb51 1 rfl (Nat.le_refl _) (by decide), PiecesAt.snoc (ps := []) (rows := []) ⟨rfl, fun i b v h => by cases h⟩ (PieceAt.mono hpc fun z hz => .inr (.inr hz)), fun z hz => by cases hz; exact .inr (.inl rfl)⟩, .inl rfl, fun z hz => by rcases hz with rfl | rfl | hz; exact hlb.lt; exact hb51.lt; exact Nat.lt_of_lt_of_le (hK z hz).2 hxw9⟩, hat2, fun z hz => by rcases hz with rfl | rfl | hz; exact .inl (.inl hxH); exact .inr fr51; exact .inl (.inr hz), fun z hz e => by rcases hz with rfl | rfl | hz; exact hHF2 _ hxH e; have := hF2lt _ e; omega; exact hKF2 z hz e, by rw [hy0]; exact ckp_ok hre hy hy0⟩, hX⟩
        · refine st_bs I_ok rfl 1 rfl rfl rfl (by decide) (by decide) (by simp [partsOk]) (l' := [.slice p b.length c]) rfl fun b51 w20 hn51 hb51 hE20 hs20 => ⟨hC.thenNo hE20, ?_⟩
          have fr51 := Nat.le_trans hX.size hn51
          have frhC51 := Nat.le_trans hC.size hn51
          have hlb := hlb.extNo hE20
          have hpc := hpc.ext hE20 fun _ _ _ => id
          have hat2 := hat2.extNo hE20
          have hX := hX.thenNo hE20
          have hC := hC.thenNo hE20
          refine wx_plan [] 12 rfl (by kernel_rfl) (wd_tail rfl (wx_alt [6, 12] rfl (by kernel_rfl) ⟨⟨_, rfl, ?_⟩, ⟨_, rfl, ?_⟩, trivial⟩))
          · refine st_ld I_ok rfl (hlb.cell rfl) ⟨hC, ?_⟩
            refine wx_plan [(7, true), (12, false), (13, true), (14, true), (15, false), (16, true), (17, true), (18, false), (19, true), (20, true), (21, false)] 0 rfl (by kernel_rfl) (wd_k I_ok 1 rfl ?_)
            refine wd_l rfl (st_call Tryz.call68 rfl rfl rfl rfl rfl rfl (refSectors_calls w20 (b.length : Int)) fun v21 w21 hr21 => ⟨(by obtain ⟨rfl, hE21⟩ := hr21; exact hC.thenNo hE21), ?_⟩)
            obtain ⟨rfl, hE21⟩ := hr21
            have hb51 := hb51.extNo hE21
            have hlb := hlb.extNo hE21
            have hpc := hpc.ext hE21 fun _ _ _ => id
            have hat2 := hat2.extNo hE21
            have hX := hX.thenNo hE21
            have hC := hC.thenNo hE21
            rw [sectZ_nat]
            refine wd_k I_ok 2 rfl ?_
            rw [show IntKind.u32.wrap ((W.turn : Int) + 1) = ((W.turn + 1 : Nat) : Int) from wrap32 (W.turn + 1) (by omega)]
            have hlb0 := hlb
            refine wd_l rfl (st_set I_ok hlb rfl rfl (Nat.lt_of_lt_of_eq (by decide : 0 + 2 < 6) rfl) fun w22 hlb hE22 hs22 => ⟨hC.then hE22, ?_⟩)
            have hb51 := hb51.ext hE22 fun e => by have e : b51 = x := e; omega
            have hC := hC.then hE22
            have hX := hX.then (hE22.mono fun z _ e => .inr (by have e : z = x := e; rw [e]; exact hxH))
            have hat2 := hat2.ext hE22 fun z hz e => by have e : z = x := e; subst e; exact hHF2 z hxH hz
            have hpc := hpc.ext hE22 fun z _ ht e => by have e : z = x := e; subst e; exact ht.ne hlb0 (by decide) rfl
            refine wd_k I_ok 2 rfl ?_
            have hlb0 := hlb
            refine wd_l rfl (st_set I_ok hlb rfl rfl (Nat.lt_of_lt_of_eq (by decide : 0 + 3 < 6) rfl) fun w23 hlb hE23 hs23 => ⟨hC.then hE23, ?_⟩)
            have hb51 := hb51.ext hE23 fun e => by have e : b51 = x := e; omega
            have hC := hC.then hE23
            have hX := hX.then (hE23.mono fun z _ e => .inr (by have e : z = x := e; rw [e]; exact hxH))
            have hat2 := hat2.ext hE23 fun z hz e => by have e : z = x := e; subst e; exact hHF2 z hxH hz
            have hpc := hpc.ext hE23 fun z _ ht e => by have e : z = x := e; subst e; exact ht.ne hlb0 (by decide) rfl
            refine wd_k I_ok 2 rfl ?_
            have hlb0 := hlb
            refine wd_l rfl (st_set I_ok hlb rfl rfl (Nat.lt_of_lt_of_eq (by decide : 0 + 4 < 6) rfl) fun w24 hlb hE24 hs24 => ⟨hC.then hE24, ?_⟩)
            have hb51 := hb51.ext hE24 fun e => by have e : b51 = x := e; omega
            have hC := hC.then hE24
            have hX := hX.then (hE24.mono fun z _ e => .inr (by have e : z = x := e; rw [e]; exact hxH))
            have hat2 := hat2.ext hE24 fun z hz e => by have e : z = x := e; subst e; exact hHF2 z hxH hz
            have hpc := hpc.ext hE24 fun z _ ht e => by have e : z = x := e; subst e; exact ht.ne hlb0 (by decide) rfl
            have hxw9 := hX.size
            refine wd_sw (wb_nil ?_)
            exact f_cut ({ W with D := y.1, broken := false, turn := W.turn + 1, pieces := [b], used := sectN b.length }, fun z => z = x ∨ z = b51 ∨ K z) rfl ⟨⟨⟨⟨some ⟨b51, 0, none⟩, 1, _, hlb, Own.blk (n := 1) (c := 1) hb51 1 rfl (Nat.le_refl _) (by decide), PiecesAt.snoc (ps := []) (rows := []) ⟨rfl, fun i b v h => by cases h⟩ (PieceAt.mono hpc fun z hz => .inr (.inr hz)), fun z hz => by cases hz; exact .inr (.inl rfl)⟩, .inl rfl, fun z hz => by rcases hz with rfl | rfl | hz; exact hlb.lt; exact hb51.lt; exact Nat.lt_of_lt_of_le (hK z hz).2 hxw9⟩, hat2, fun z hz => by rcases hz with rfl | rfl | hz; exact .inl (.inl hxH); exact .inr fr51; exact .inl (.inr hz), fun z hz e => by rcases hz with rfl | rfl | hz; exact hHF2 _ hxH e; have := hF2lt _ e; omega; exact hKF2 z hz e, by rw [hy0]; exact ckp_ok hre hy hy0⟩, hX⟩
          · refine st_call Tryz.call68 rfl rfl rfl rfl rfl rfl (refSectors_calls w20 (b.length : Int)) fun v25 w25 hr25 => ⟨(by obtain ⟨rfl, hE25⟩ := hr25; exact hC.thenNo hE25), ?_⟩
            obtain ⟨rfl, hE25⟩ := hr25
            have hb51 := hb51.extNo hE25
            have hlb := hlb.extNo hE25
            have hpc := hpc.ext hE25 fun _ _ _ => id
            have hat2 := hat2.extNo hE25
            have hX := hX.thenNo hE25
            have hC := hC.thenNo hE25
            rw [sectZ_nat]
            refine wx_plan [(6, false), (7, true), (13, true), (14, true), (15, false), (16, true), (17, true), (18, false), (19, true), (20, true), (21, false)] 0 rfl (by kernel_rfl) (wd_l rfl (st_ld I_ok rfl (hlb.cell rfl) ⟨hC, ?_⟩))
            refine wd_k I_ok 3 rfl ?_
            rw [show IntKind.u32.wrap ((W.turn : Int) + 1) = ((W.turn + 1 : Nat) : Int) from wrap32 (W.turn + 1) (by omega)]
            have hlb0 := hlb
            refine wd_l rfl (st_set I_ok hlb rfl rfl (Nat.lt_of_lt_of_eq (by decide : 0 + 2 < 6) rfl) fun w26 hlb hE26 hs26 => ⟨hC.then hE26, ?_⟩)
            have hb51 := hb51.ext hE26 fun e => by have e : b51 = x := e; omega
            have hC := hC.then hE26
            have hX := hX.then (hE26.mono fun z _ e => .inr (by have e : z = x := e; rw [e]; exact hxH))
            have hat2 := hat2.ext hE26 fun z hz e => by have e : z = x := e; subst e; exact hHF2 z hxH hz
            have hpc := hpc.ext hE26 fun z _ ht e => by have e : z = x := e; subst e; exact ht.ne hlb0 (by decide) rfl
            refine wd_k I_ok 2 rfl ?_
            have hlb0 := hlb
            refine wd_l rfl (st_set I_ok hlb rfl rfl (Nat.lt_of_lt_of_eq (by decide : 0 + 3 < 6) rfl) fun w27 hlb hE27 hs27 => ⟨hC.then hE27, ?_⟩)
            have hb51 := hb51.ext hE27 fun e => by have e : b51 = x := e; omega
            have hC := hC.then hE27
            have hX := hX.then (hE27.mono fun z _ e => .inr (by have e : z = x := e; rw [e]; exact hxH))
            have hat2 := hat2.ext hE27 fun z hz e => by have e : z = x := e; subst e; exact hHF2 z hxH hz
            have hpc := hpc.ext hE27 fun z _ ht e => by have e : z = x := e; subst e; exact ht.ne hlb0 (by decide) rfl
            refine wd_k I_ok 2 rfl ?_
            have hlb0 := hlb
            refine wd_l rfl (st_set I_ok hlb rfl rfl (Nat.lt_of_lt_of_eq (by decide : 0 + 4 < 6) rfl) fun w28 hlb hE28 hs28 => ⟨hC.then hE28, ?_⟩)
            have hb51 := hb51.ext hE28 fun e => by have e : b51 = x := e; omega
            have hC := hC.then hE28
            have hX := hX.then (hE28.mono fun z _ e => .inr (by have e : z = x := e; rw [e]; exact hxH))
            have hat2 := hat2.ext hE28 fun z hz e => by have e : z = x := e; subst e; exact hHF2 z hxH hz
            have hpc := hpc.ext hE28 fun z _ ht e => by have e : z = x := e; subst e; exact ht.ne hlb0 (by decide) rfl
            have hxw9 := hX.size
            refine wd_sw (wb_nil ?_)
            exact f_cut ({ W with D := y.1, broken := false, turn := W.turn + 1, pieces := [b], used := sectN b.length }, fun z => z = x ∨ z = b51 ∨ K z) rfl ⟨⟨⟨⟨some ⟨b51, 0, none⟩, 1, _, hlb, Own.blk (n := 1) (c := 1) hb51 1 rfl (Nat.le_refl _) (by decide), PiecesAt.snoc (ps := []) (rows := []) ⟨rfl, fun i b v h => by cases h⟩ (PieceAt.mono hpc fun z hz => .inr (.inr hz)), fun z hz => by cases hz; exact .inr (.inl rfl)⟩, .inl rfl, fun z hz => by rcases hz with rfl | rfl | hz; exact hlb.lt; exact hb51.lt; exact Nat.lt_of_lt_of_le (hK z hz).2 hxw9⟩, hat2, fun z hz => by rcases hz with rfl | rfl | hz; exact .inl (.inl hxH); exact .inr fr51; exact .inl (.inr hz), fun z hz e => by rcases hz with rfl | rfl | hz; exact hHF2 _ hxH e; have := hF2lt _ e; omega; exact hKF2 z hz e, by rw [hy0]; exact ckp_ok hre hy hy0⟩, hX⟩
        · refine st_call Tryz.call68 rfl rfl rfl rfl rfl rfl (refSectors_calls w5 (b.length : Int)) fun v29 w29 hr29 => ⟨(by obtain ⟨rfl, hE29⟩ := hr29; exact hC.thenNo hE29), ?_⟩
          obtain ⟨rfl, hE29⟩ := hr29
          have hlb := hlb.extNo hE29
          have hpc := hpc.ext hE29 fun _ _ _ => id
          have hat2 := hat2.extNo hE29
          have hX := hX.thenNo hE29
          have hC := hC.thenNo hE29
          rw [sectZ_nat]
          refine wx_plan [] 12 rfl (by kernel_rfl) (wd_tail rfl (wx_alt [6, 9] rfl (by kernel_rfl) ⟨⟨_, rfl, ?_⟩, ⟨_, rfl, ?_⟩, trivial⟩))
          · refine st_ld I_ok rfl (hlb.cell rfl) ⟨hC, ?_⟩
            refine wx_plan [(7, true), (13, true), (14, true)] 8 rfl (by kernel_rfl) (wd_k I_ok 3 rfl (wd_tail rfl (wx_alt [9, 15] rfl (by kernel_rfl) ⟨⟨_, rfl, ?_⟩, ⟨_, rfl, ?_⟩, trivial⟩)))
            · refine st_bs I_ok rfl 1 rfl rfl rfl (by decide) (by decide) (by simp [partsOk]) (l' := [.slice p b.length c]) rfl fun b51 w30 hn51 hb51 hE30 hs30 => ⟨hC.thenNo hE30, ?_⟩
              have fr51 := Nat.le_trans hX.size hn51
              have frhC51 := Nat.le_trans hC.size hn51
              have hlb := hlb.extNo hE30
              have hpc := hpc.ext hE30 fun _ _ _ => id
              have hat2 := hat2.extNo hE30
              have hX := hX.thenNo hE30
              have hC := hC.thenNo hE30
              refine wx_plan [(15, false), (16, true), (17, true), (18, false), (19, true), (20, true), (21, false)] 0 rfl (by kernel_rfl) ?_
              rw [show IntKind.u32.wrap ((W.turn : Int) + 1) = ((W.turn + 1 : Nat) : Int) from wrap32 (W.turn + 1) (by omega)]
              have hlb0 := hlb
              refine wd_l rfl (st_set I_ok hlb rfl rfl (Nat.lt_of_lt_of_eq (by decide : 0 + 2 < 6) rfl) fun w31 hlb hE31 hs31 => ⟨hC.then hE31, ?_⟩)
              have hb51 := hb51.ext hE31 fun e => by have e : b51 = x := e; omega
              have hC := hC.then hE31
              have hX := hX.then (hE31.mono fun z _ e => .inr (by have e : z = x := e; rw [e]; exact hxH))
              have hat2 := hat2.ext hE31 fun z hz e => by have e : z = x := e; subst e; exact hHF2 z hxH hz
              have hpc := hpc.ext hE31 fun z _ ht e => by have e : z = x := e; subst e; exact ht.ne hlb0 (by decide) rfl
              refine wd_k I_ok 2 rfl ?_
              have hlb0 := hlb
              refine wd_l rfl (st_set I_ok hlb rfl rfl (Nat.lt_of_lt_of_eq (by decide : 0 + 3 < 6) rfl) fun w32 hlb hE32 hs32 => ⟨hC.then hE32, ?_⟩)
              have hb51 := hb51.ext hE32 fun e => by have e : b51 = x := e; omega
              have hC := hC.then hE32
              have hX := hX.then (hE32.mono fun z _ e => .inr (by have e : z = x := e; rw [e]; exact hxH))
              have hat2 := hat2.ext hE32 fun z hz e => by have e : z = x := e; subst e; exact hHF2 z hxH hz
              have hpc := hpc.ext hE32 fun z _ ht e => by have e : z = x := e; subst e; exact ht.ne hlb0 (by decide) rfl
              refine wd_k I_ok 2 rfl ?_
              have hlb0 := hlb
              refine wd_l rfl (st_set I_ok hlb rfl rfl (Nat.lt_of_lt_of_eq (by decide : 0 + 4 < 6) rfl) fun w33 hlb hE33 hs33 => ⟨hC.then hE33, ?_⟩)
              have hb51 := hb51.ext hE33 fun e => by have e : b51 = x := e; omega
              have hC := hC.then hE33
              have hX := hX.then (hE33.mono fun z _ e => .inr (by have e : z = x := e; rw [e]; exact hxH))
              have hat2 := hat2.ext hE33 fun z hz e => by have e : z = x := e; subst e; exact hHF2 z hxH hz
              have hpc := hpc.ext hE33 fun z _ ht e => by have e : z = x := e; subst e; exact ht.ne hlb0 (by decide) rfl
              have hxw9 := hX.size
              refine wd_sw (wb_nil ?_)
              exact f_cut ({ W with D := y.1, broken := false, turn := W.turn + 1, pieces := [b], used := sectN b.length }, fun z => z = x ∨ z = b51 ∨ K z) rfl ⟨⟨⟨⟨some ⟨b51, 0, none⟩, 1, _, hlb, Own.blk (n := 1) (c := 1) hb51 1 rfl (Nat.le_refl _) (by decide), PiecesAt.snoc (ps := []) (rows := []) ⟨rfl, fun i b v h => by cases h⟩ (PieceAt.mono hpc fun z hz => .inr (.inr hz)), fun z hz => by cases hz; exact .inr (.inl rfl)⟩, .inl rfl, fun z hz => by rcases hz with rfl | rfl | hz; exact hlb.lt; exact hb51.lt; exact Nat.lt_of_lt_of_le (hK z hz).2 hxw9⟩, hat2, fun z hz => by rcases hz with rfl | rfl | hz; exact .inl (.inl hxH); exact .inr fr51; exact .inl (.inr hz), fun z hz e => by rcases hz with rfl | rfl | hz; exact hHF2 _ hxH e; have := hF2lt _ e; omega; exact hKF2 z hz e, by rw [hy0]; exact ckp_ok hre hy hy0⟩, hX⟩
            · rw [show IntKind.u32.wrap ((W.turn : Int) + 1) = ((W.turn + 1 : Nat) : Int) from wrap32 (W.turn + 1) (by omega)]
              have hlb0 := hlb
              refine st_set I_ok hlb rfl rfl (Nat.lt_of_lt_of_eq (by decide : 0 + 2 < 6) rfl) fun w34 hlb hE34 hs34 => ⟨hC.then hE34, ?_⟩
              have hC := hC.then hE34
              have hX := hX.then (hE34.mono fun z _ e => .inr (by have e : z = x := e; rw [e]; exact hxH))
              have hat2 := hat2.ext hE34 fun z hz e => by have e : z = x := e; subst e; exact hHF2 z hxH hz
              have hpc := hpc.ext hE34 fun z _ ht e => by have e : z = x := e; subst e; exact ht.ne hlb0 (by decide) rfl
              refine wx_plan [(9, false), (16, true), (17, true), (18, false), (19, true), (20, true), (21, false)] 0 rfl (by kernel_rfl) ?_
              refine wd_l rfl (st_bs I_ok rfl 1 rfl rfl rfl (by decide) (by decide) (by simp [partsOk]) (l' := [.slice p b.length c]) rfl fun b51 w35 hn51 hb51 hE35 hs35 => ⟨hC.thenNo hE35, ?_⟩)
              have fr51 := Nat.le_trans hX.size hn51
              have frhC51 := Nat.le_trans hC.size hn51
              have hlb := hlb.extNo hE35
              have hpc := hpc.ext hE35 fun _ _ _ => id
              have hat2 := hat2.extNo hE35
              have hX := hX.thenNo hE35
              have hC := hC.thenNo hE35
              refine wd_k I_ok 2 rfl ?_
              have hlb0 := hlb
              refine wd_l rfl (st_set I_ok hlb rfl rfl (Nat.lt_of_lt_of_eq (by decide : 0 + 3 < 6) rfl) fun w36 hlb hE36 hs36 => ⟨hC.then hE36, ?_⟩)
              have hb51 := hb51.ext hE36 fun e => by have e : b51 = x := e; omega
              have hC := hC.then hE36
              have hX := hX.then (hE36.mono fun z _ e => .inr (by have e : z = x := e; rw [e]; exact hxH))
              have hat2 := hat2.ext hE36 fun z hz e => by have e : z = x := e; subst e; exact hHF2 z hxH hz
              have hpc := hpc.ext hE36 fun z _ ht e => by have e : z = x := e; subst e; exact ht.ne hlb0 (by decide) rfl
              refine wd_k I_ok 2 rfl ?_
              have hlb0 := hlb
              refine wd_l rfl (st_set I_ok hlb rfl rfl (Nat.lt_of_lt_of_eq (by decide : 0 + 4 < 6) rfl) fun w37 hlb hE37 hs37 => ⟨hC.then hE37, ?_⟩)
              have hb51 := hb51.ext hE37 fun e => by have e : b51 = x := e; omega
              have hC := hC.then hE37
              have hX := hX.then (hE37.mono fun z _ e => .inr (by have e : z = x := e; rw [e]; exact hxH))
              have hat2 := hat2.ext hE37 fun z hz e => by have e : z = x := e; subst e; exact hHF2 z hxH hz
              have hpc := hpc.ext hE37 fun z _ ht e => by have e : z = x := e; subst e; exact ht.ne hlb0 (by decide) rfl
              have hxw9 := hX.size
              refine wd_sw (wb_nil ?_)
              exact f_cut ({ W with D := y.1, broken := false, turn := W.turn + 1, pieces := [b], used := sectN b.length }, fun z => z = x ∨ z = b51 ∨ K z) rfl ⟨⟨⟨⟨some ⟨b51, 0, none⟩, 1, _, hlb, Own.blk (n := 1) (c := 1) hb51 1 rfl (Nat.le_refl _) (by decide), PiecesAt.snoc (ps := []) (rows := []) ⟨rfl, fun i b v h => by cases h⟩ (PieceAt.mono hpc fun z hz => .inr (.inr hz)), fun z hz => by cases hz; exact .inr (.inl rfl)⟩, .inl rfl, fun z hz => by rcases hz with rfl | rfl | hz; exact hlb.lt; exact hb51.lt; exact Nat.lt_of_lt_of_le (hK z hz).2 hxw9⟩, hat2, fun z hz => by rcases hz with rfl | rfl | hz; exact .inl (.inl hxH); exact .inr fr51; exact .inl (.inr hz), fun z hz e => by rcases hz with rfl | rfl | hz; exact hHF2 _ hxH e; have := hF2lt _ e; omega; exact hKF2 z hz e, by rw [hy0]; exact ckp_ok hre hy hy0⟩, hX⟩
          · refine st_bs I_ok rfl 1 rfl rfl rfl (by decide) (by decide) (by simp [partsOk]) (l' := [.slice p b.length c]) rfl fun b51 w38 hn51 hb51 hE38 hs38 => ⟨hC.thenNo hE38, ?_⟩
            have fr51 := Nat.le_trans hX.size hn51
            have frhC51 := Nat.le_trans hC.size hn51
            have hlb := hlb.extNo hE38
            have hpc := hpc.ext hE38 fun _ _ _ => id
            have hat2 := hat2.extNo hE38
            have hX := hX.thenNo hE38
            have hC := hC.thenNo hE38
            refine wx_plan [(6, false), (7, true), (13, true), (14, true), (15, false), (16, true), (17, true), (18, false), (19, true), (20, true), (21, false)] 0 rfl (by kernel_rfl) (wd_l rfl (st_ld I_ok rfl (hlb.cell rfl) ⟨hC, ?_⟩))
            refine wd_k I_ok 3 rfl ?_
            rw [show IntKind.u32.wrap ((W.turn : Int) + 1) = ((W.turn + 1 : Nat) : Int) from wrap32 (W.turn + 1) (by omega)]
            have hlb0 := hlb
            refine wd_l rfl (st_set I_ok hlb rfl rfl (Nat.lt_of_lt_of_eq (by decide : 0 + 2 < 6) rfl) fun w39 hlb hE39 hs39 => ⟨hC.then hE39, ?_⟩)
            have hb51 := hb51.ext hE39 fun e => by have e : b51 = x := e; omega
            have hC := hC.then hE39
            have hX := hX.then (hE39.mono fun z _ e => .inr (by have e : z = x := e; rw [e]; exact hxH))
            have hat2 := hat2.ext hE39 fun z hz e => by have e : z = x := e; subst e; exact hHF2 z hxH hz
            have hpc := hpc.ext hE39 fun z _ ht e => by have e : z = x := e; subst e; exact ht.ne hlb0 (by decide) rfl
            refine wd_k I_ok 2 rfl ?_
            have hlb0 := hlb
            refine wd_l rfl (st_set I_ok hlb rfl rfl (Nat.lt_of_lt_of_eq (by decide : 0 + 3 < 6) rfl) fun w40 hlb hE40 hs40 => ⟨hC.then hE40, ?_⟩)
            have hb51 := hb51.ext hE40 fun e => by have e : b51 = x := e; omega
            have hC := hC.then hE40
            have hX := hX.then (hE40.mono fun z _ e => .inr (by have e : z = x := e; rw [e]; exact hxH))
            have hat2 := hat2.ext hE40 fun z hz e => by have e : z = x := e; subst e; exact hHF2 z hxH hz
            have hpc := hpc.ext hE40 fun z _ ht e => by have e : z = x := e; subst e; exact ht.ne hlb0 (by decide) rfl
            refine wd_k I_ok 2 rfl ?_
            have hlb0 := hlb
            refine wd_l rfl (st_set I_ok hlb rfl rfl (Nat.lt_of_lt_of_eq (by decide : 0 + 4 < 6) rfl) fun w41 hlb hE41 hs41 => ⟨hC.then hE41, ?_⟩)
            have hb51 := hb51.ext hE41 fun e => by have e : b51 = x := e; omega
            have hC := hC.then hE41
            have hX := hX.then (hE41.mono fun z _ e => .inr (by have e : z = x := e; rw [e]; exact hxH))
            have hat2 := hat2.ext hE41 fun z hz e => by have e : z = x := e; subst e; exact hHF2 z hxH hz
            have hpc := hpc.ext hE41 fun z _ ht e => by have e : z = x := e; subst e; exact ht.ne hlb0 (by decide) rfl
            have hxw9 := hX.size
            refine wd_sw (wb_nil ?_)
            exact f_cut ({ W with D := y.1, broken := false, turn := W.turn + 1, pieces := [b], used := sectN b.length }, fun z => z = x ∨ z = b51 ∨ K z) rfl ⟨⟨⟨⟨some ⟨b51, 0, none⟩, 1, _, hlb, Own.blk (n := 1) (c := 1) hb51 1 rfl (Nat.le_refl _) (by decide), PiecesAt.snoc (ps := []) (rows := []) ⟨rfl, fun i b v h => by cases h⟩ (PieceAt.mono hpc fun z hz => .inr (.inr hz)), fun z hz => by cases hz; exact .inr (.inl rfl)⟩, .inl rfl, fun z hz => by rcases hz with rfl | rfl | hz; exact hlb.lt; exact hb51.lt; exact Nat.lt_of_lt_of_le (hK z hz).2 hxw9⟩, hat2, fun z hz => by rcases hz with rfl | rfl | hz; exact .inl (.inl hxH); exact .inr fr51; exact .inl (.inr hz), fun z hz e => by rcases hz with rfl | rfl | hz; exact hHF2 _ hxH e; have := hF2lt _ e; omega; exact hKF2 z hz e, by rw [hy0]; exact ckp_ok hre hy hy0⟩, hX⟩
      · have hy0 : y.2 ≠ 0 := by simpa using hc
        rw [decide_eq_true hy0] at hlb
        refine c_skip ?_
        exact f_cut ({ W with D := y.1, broken := true }, H) rfl ⟨⟨⟨⟨q, cq, rows, hlb, hrw2, hps2, hqH⟩, hxH, fun z hz => Nat.lt_of_lt_of_le (hlt z hz) hX.size⟩, hat2, fun z hz => .inl (.inl hz), hHF2, ckp_bad hre hy hy0⟩, hX⟩
    rintro ⟨V, G⟩ w42 ⟨⟨hlog3, hat3, hGs, hGF, hap⟩, hX⟩
    refine c_seq (c_region (wl_p I_ok rfl (wl_nil (f_then (c_ret (f_ret1 rfl rfl ?_))))))
    rw [hap]
    exact ⟨rfl, F2, G, hat3, hlog3, hFs, hGs, hGF, hX⟩
end Go.Proofs.YtlfdlodcjiaiiaaGreatDoor
namespace Go.Vc
section
variable {P : Program} {I : Info} {f : Fs} {ops : Array Oper} {o : Oper} {env : Env} {w : World}
def eqPE (n : Nat) (ops : Array Oper) (env : Env) (o : Oper) : Option (Nat × Bool × Addr × Addr × Nat) :=
  match pre n ops env o with
  | false => none
  | true => match o.dst with
    | some d => match o.op with
      | .binOp op t x y _ => match evO env x with
        | some (.pointer (some a)) => match evO env y with
          | some (.pointer (some b)) => match op with
            | .eql => some (t, true, a, b, d)
            | .neq => some (t, false, a, b, d)
            | _ => none
          | _ => none
        | _ => none
      | _ => none
    | none => none
theorem run_eqP (hI : I.Ok P) {t e : Nat} {x y : TI} (hx : lkT I t = some x) (hd : x.desc = .pointer e) (hy : lkT I e = some y) (hs : y.size ≠ 0) (a : Addr) : (Op.equal t (.pointer (some a)) (.pointer (some a))).run P w = .ok true w := by
  have e1 : Op.equal t (.pointer (some a)) (.pointer (some a)) = Op.equalIn (9999 + 1) t (.pointer (some a)) (.pointer (some a)) := rfl
  rw [e1]
  have hu := (hI.get hx).under w
  rw [hd] at hu
  have hz := (hI.get hy).sizeOf w
  unfold Op.equalIn
  rw [run_under_bind hu]
  simp only [Sem.run_bind, hz, Result.andThen_ok]
  rw [if_pos hs]
  exact run_sameAddr_same w a
theorem ov_eqP (hI : I.Ok P) {nn t e d : Nat} {q : Bool} {a b : Addr} (h : eqPE nn ops env o = some (t, q, a, b, d)) {x y : TI} (hx : lkT I t = some x) (hd : x.desc = .pointer e) (hy : lkT I e = some y) (hs : y.size ≠ 0) (hab : a = b) :
    pre nn ops env o = true ∧ o.dst = some d ∧ Ov P o env w (.bool q) w := by
  subst hab
  unfold eqPE at h
  split at h
  · cases h
  · rename_i hpr
    split at h
    · rename_i d' hd'
      split at h
      · rename_i op t' x' y' u ho
        split at h
        · rename_i xa hxa
          split at h
          · rename_i ya hya
            split at h
            all_goals first
              | (cases h; done)
              | (simp only [Option.some.injEq, Prod.mk.injEq] at h
                 obtain ⟨rfl, rfl, rfl, rfl, rfl⟩ := h
                 refine ⟨hpr, hd', fun ρ hρ => ?_⟩
                 have hr := run_eqP (w := w) hI hx hd hy hs ya
                 have hg : (eqGuard BinOp.eql t' x' y' (.pointer (some ya)) (.pointer (some ya))).run P w = .ok () w := by unfold eqGuard; rfl
                 have hg2 : (eqGuard BinOp.neq t' x' y' (.pointer (some ya)) (.pointer (some ya))).run P w = .ok () w := by unfold eqGuard; rfl
                 simp only [execOp, ho, hρ _ _ hxa, hρ _ _ hya, Sem.run_bind, hg, hg2, Result.andThen_ok, binOp, hr, Sem.run_pure]
                 try simp
                 done)
          · cases h
        · cases h
      · cases h
    · cases h
theorem st_eqP {K : Env → World → Prop} (hI : I.Ok P) {t e d : Nat} {q : Bool} {a b : Addr} (h : eqPE f.n ops env o = some (t, q, a, b, d)) {x y : TI} (hx : lkT I t = some x) (hd : x.desc = .pointer e) (hy : lkT I e = some y) (hs : y.size ≠ 0) (hab : a = b)
    (k : K ((d, .bool q) :: env) w) : St P f ops o env w K := by
  obtain ⟨h1, h2, h3⟩ := ov_eqP (w := w) hI h hx hd hy hs hab
  obtain ⟨h4, h5⟩ := pre_eq h1
  exact st_v h4 h5 h3 (by rw [h2]; exact k)
end
theorem wd_eqP {P : Program} {I : Info} {f : Fs} {ops : Array Oper} {o : Oper} {env : Env} {w : World} (hI : I.Ok P) {K : Act → World → Prop} {r : Dr} {i : Nat} {pl : List (Nat × Bool)} {dn : List Nat} (ho : ops[i]? = some o) {t e d : Nat} {q : Bool} {a b : Addr} (h : eqPE f.n ops env o = some (t, q, a, b, d)) {x y : TI} (hx : lkT I t = some x) (hd : x.desc = .pointer e) (hy : lkT I e = some y) (hs : y.size ≠ 0) (hab : a = b)
    (k : WD P f ops K r pl (i :: dn) ((d, .bool q) :: env) w) : WD P f ops K r ((i, true) :: pl) dn env w := by
  obtain ⟨h1, h2, _⟩ := ov_eqP (w := w) hI h hx hd hy hs hab
  exact wd_q ho h1 h2 (fun w' _ => (ov_eqP (w := w') hI h hx hd hy hs hab).2.2) k

section
variable {P : Program} {I : Info} {f : Fs} {ops : Array Oper} {o : Oper} {env : Env} {w : World}
structure ClArgs where
  p : Option Addr
  n : Nat
  g : TI
def clE (I : Info) (n : Nat) (ops : Array Oper) (env : Env) (o : Oper) : Option ClArgs :=
  match pre n ops env o with
  | false => none
  | true => match o.dst with
    | none => match o.op with
      | .call { callee := .builtin .clear, args := xs, argTypes := ts } => match xs.toList with
        | [s] => match ts.toList with
          | [t] => match lkT I t with
            | some y => match y.desc with
              | .slice e => match lkT I e with
                | some g => match evO env s with
                  | some (.slice p m _) => some ⟨p, m, g⟩
                  | _ => none
                | none => none
              | _ => none
            | none => none
          | _ => none
        | _ => none
      | _ => none
    | some _ => none
/-- clear, of a slice -/
theorem st_cl {K : Env → World → Prop} (hI : I.Ok P) {s : ClArgs} (h : clE I f.n ops env o = some s) {zs : List Value} (hz : cellsOf s.g.zero = zs) (hzl : 0 < zs.length) (h1 : ∀ v ∈ zs, v.oneCell' = true)
    (k0 : s.n = 0 → K env w)
    (k : 0 < s.n → ∃ b off T l, s.p = some ⟨b, off, none⟩ ∧ Blk w b T l ∧ off + s.n * zs.length ≤ l.length ∧ ∀ w', Blk w' b T (put l off (rep s.n zs)) → Ext (One b) w w' → w'.heap.size = w.heap.size → K env w') : St P f ops o env w K := by
  subst hz
  unfold clE at h
  split at h
  · cases h
  · rename_i hp
    obtain ⟨e1, e2⟩ := pre_eq hp
    split at h
    · rename_i hd
      split at h
      · rename_i xs' ts ho
        split at h
        · rename_i sx hxs
          have hx1 : xs' = #[sx] := by apply Array.ext'; simpa using hxs
          subst hx1
          split at h
          · rename_i t hts
            have ht1 : ts = #[t] := by apply Array.ext'; simpa using hts
            subst ht1
            split at h
            · rename_i y hy
              split at h
              · rename_i e he
                split at h
                · rename_i g hg
                  split at h
                  · rename_i p n c hs
                    cases h
                    simp only at *
                    have hu := (hI.get hy).under w
                    rw [he] at hu
                    have hzv := (hI.get hg).zeroValue w
                    have em : Array.map (fun x => x) #[sx] = #[sx] := by simp
                    rcases Nat.eq_zero_or_pos n with h0 | h0
                    · subst h0
                      refine st_v e1 e2 (v := .tuple #[]) (w' := w) (fun ρ hρ => ?_) (by rw [hd]; exact k0 rfl)
                      have em : Array.map ρ #[sx] = #[.slice p 0 c] := by simp [hρ _ _ hs]
                      have hrun : (Builtin.clear_ #[t] o.type #[.slice p 0 c]).run P w = .ok (.tuple #[]) w := by
                        unfold Builtin.clear_
                        simp only [List.getElem?_toArray, List.getElem?_cons_zero]
                        rw [run_under_bind hu]
                        cases p <;> simp
                      simp only [execOp, ho, resolve, Sem.run_bind, Sem.run_pure, Result.andThen_ok, invoke, builtin, em, hrun]
                    · obtain ⟨b, off, T, l, rfl, hblk, hroom, kk⟩ := k h0
                      have hrl : (rep n (cellsOf g.zero)).length = n * (cellsOf g.zero).length := rep_length _ _
                      obtain ⟨w', hr, hb', hE, hs'⟩ := run_storeCells_blk (P := P) (rep n (cellsOf g.zero)) w l off 0 hblk (by rw [hrl]; omega) (fun v hv => by
                        unfold rep at hv
                        obtain ⟨r, hr, hv⟩ := List.mem_flatten.1 hv
                        rw [(List.mem_replicate.1 hr).2] at hv
                        exact h1 v hv)
                      refine st_v e1 e2 (v := .tuple #[]) (w' := w') (fun ρ hρ => ?_) (by rw [hd]; exact kk w' hb' hE hs')
                      have em : Array.map ρ #[sx] = #[.slice (some ⟨b, off, none⟩) n c] := by simp [hρ _ _ hs]
                      have hzc : (Builtin.zeroCells g.zero.cells n).toList = rep n (cellsOf g.zero) := by
                        rw [show g.zero.cells = (cellsOf g.zero).toArray from by rw [← cellsOf_eq], zeroCells_rep _ _ hzl]
                      have hrun : (Builtin.clear_ #[t] o.type #[.slice (some ⟨b, off, none⟩) n c]).run P w = .ok (.tuple #[]) w' := by
                        unfold Builtin.clear_
                        simp only [List.getElem?_toArray, List.getElem?_cons_zero]
                        rw [run_under_bind hu]
                        obtain ⟨m, rfl⟩ : ∃ m, n = m + 1 := ⟨n - 1, by omega⟩
                        simp only [Sem.run_bind, hzv, Result.andThen_ok, hzc, hr, Sem.run_pure]
                      simp only [execOp, ho, resolve, Sem.run_bind, Sem.run_pure, Result.andThen_ok, invoke, builtin, em, hrun]
                  · cases h
                · cases h
              · cases h
            · cases h
          · cases h
        · cases h
      · cases h
    · cases h
/-- clear, of a slice that is one's own: what stands in it is of no interest -/
theorem st_clO {K : Env → World → Prop} (hI : I.Ok P) {s : ClArgs} (h : clE I f.n ops env o = some s) {zs : List Value} (hz : cellsOf s.g.zero = zs) (hzl : 0 < zs.length) (h1 : ∀ v ∈ zs, v.oneCell' = true) {c T : Nat} {xs : List Value} (ho : Own w s.p s.n c T zs.length xs)
    (k : ∀ w', Ext (OwnB s.p) w w' → w'.heap.size = w.heap.size → K env w') : St P f ops o env w K := by
  refine st_cl hI h hz hzl h1 (fun _ => k w (Ext.refl _ _) rfl) fun hn => ?_
  rcases ho with ⟨_, h0, _⟩ | ⟨b, l, hp, hb, hl, hnc, hc, hx⟩
  · omega
  · refine ⟨b, 0, T, l, hp, hb, ?_, fun w' hb' hE hs => k w' (hE.mono fun y _ e => ?_) hs⟩
    · rw [hl, Nat.zero_add]; exact Nat.mul_le_mul_right _ hnc
    · have e : y = b := e
      rw [hp, e]
end
end Go.Vc
