/-
  Walks and laws towards: UploadPutsSaid , walked
-/
import Derived.DeepKeys3
import Derived.MapKept
import Derived.MapFrom
import Derived.TacticsIn
import Derived.RangeFuncSeq
import Derived.RangeFuncLeaves
import Derived.Test.YtpcdihkcenfgkaaGreatLpB
namespace Go.Proofs.YtpcdihkcenfgkaaGreat
open Go.Vc
theorem flatten_take {l : List (List UInt8)} {i : Nat} (h : i < l.length) : (l.take (i + 1)).flatten = (l.take i).flatten ++ l[i] := by
 rw [List.take_succ_eq_append_getElem h, List.flatten_append]
 simp
theorem flatten_in {l : List (List UInt8)} (h : ∀ r ∈ l, IdIn r) (i : Nat) : (l.take i).flatten.length = (l.take i).length * 32 := flatten_len fun x hx => h x (List.mem_of_mem_take hx)
theorem ids_calls (w : World) {b : Nat} {p : Option Addr} {l : List UInt8} (h : Wr w b p l) {q : Option Addr} {d : Nat} {m : List (List UInt8)} (hq : Sl w q m.length 32 (m.flatMap bytesU)) (hm : ∀ r ∈ m, IdIn r) (hl : l.length < 900000000) (hml : m.length < 1000000)
  (hsep : ∀ x off, q = some ⟨x, off, none⟩ → m ≠ [] → ¬ WrF b p x) :
  CallsV Tryz.prog 112 [.pointer (some ⟨b, 0, none⟩), .slice q m.length d] w fun v w' => v = .tuple #[] ∧ ∃ p', Wr w' b p' (l ++ m.flatten) ∧ (∀ x, OwnB p' x → OwnB p x ∨ w.heap.size ≤ x) ∧ Ext (WrF b p) w w' := by
 refine calls_enter Tryz.func112 rfl rfl rfl rfl ?_
 have hX := Ext.refl (WrF b p) w
 refine c_seq (c_region (wl_p I_ok rfl (wl_nil (f_then (c_block ?_)))))
 refine c_loopK (α := Nat × Option Addr) [0, 6, 7] rfl (fun z => [(8, .int .i64 (z.1 : Int))]) (fun z u => (z.1 ≤ m.length ∧ Wr u b z.2 (l ++ (m.take z.1).flatten) ∧ (∀ x, OwnB z.2 x → OwnB p x ∨ w.heap.size ≤ x)) ∧ Ext (WrF b p) w u) (fun z u => m.length - z.1) (0, p) rfl ⟨⟨Nat.zero_le _, by simpa using h, fun _ h => .inl h⟩, hX⟩ ?_
 rintro ⟨i, pp⟩ w1 ⟨⟨hi, hW, hpn⟩, hX⟩
 try dsimp only
 dsimp only at hi hW hpn
 obtain ⟨k, hwb, hwo⟩ := hW
 refine c_seq (c_region (wl_p I_ok rfl (wl_nil (f_then (c_seq (c_if rfl (fun hc => ?_) (fun hc => ?_)))))))
 ·have hi : i < m.length := by omega
  have hne : m ≠ [] := fun e => by rw [e] at hi; exact absurd hi (Nat.not_lt_zero _)
  obtain ⟨qb, qoff, rfl, hsq⟩ := hq.rowAll (fun r hr => (hm r hr).len) (by omega)
  have hqs := hsep qb qoff rfl hne
  have ha1 := hm _ (List.getElem_mem hi)
  have hfl := flatten_in hm i
  rw [List.length_take, Nat.min_eq_left (by omega)] at hfl
  refine c_skip (f_then (c_seq (c_block (c_seq (c_region (wl (st_ix I_ok rfl 32 rfl i rfl (by omega) (qoff + i * 32) rfl (wl (st_ldN I_ok rfl ((hsq i hi).ext hX hqs) ha1.len (wl (st_al I_ok rfl fun b5 w2 hn5 hb5 hE2 => ?_)))))))))))
  have fr5 := Nat.le_trans hX.size hn5
  have hwb := hwb.extNo hE2
  have hwo := hwo.ext hE2 fun _ _ => id
  have hX := hX.thenNo hE2
  have hb5o := hb5
  refine wl (st_stW (l' := bytesU m[i]) I_ok hb5 rfl rfl ha1.len (ha1.len) OneC.h fun w3 hb5 hE3 hs3 => ?_)
  have hwb := hwb.ext1 hE3 (hwb.ne hb5o (by decide))
  have hwo := hwo.extTy hE3 hb5o (by decide)
  have hX := hX.thenNew hE3 fr5
  refine wl_nil (f_then (c_draw rfl 9 [(0, true), (1, true), (2, true), (3, true), (4, true), (5, true), (6, false), (7, true), (8, true)] [9] (OwnB pp) (by kernel_rfl) fun w4 hE4 hs4 => ?_))
  have hwbd := hwb
  have hwod := hwo
  have hb5 := hb5.extNo hE4
  have hwb := hwb.extNo hE4
  have hwo := hwo.ext hE4 fun _ _ => id
  have hX := hX.thenNo hE4
  have hC : Ext (OwnB pp) _ w4 := hE4.no
  refine wd_k I_ok 4 rfl (wd_ld I_ok rfl rfl (fun w' hw' => ((hwbd.ext (show Ext (OwnB pp) _ w' from hw') fun hx => hwod.neTy hx hwbd (by decide) rfl).cell rfl)) ?_)
  refine wd_sa I_ok rfl rfl 0 32 32 1 rfl ⟨.inr ⟨rfl, rfl⟩, .inr ⟨rfl, rfl⟩, .inr ⟨rfl, rfl⟩, by decide, by decide, by decide⟩ ?_
  rw [slBase_zero, Nat.sub_zero]
  have hX0 := hX
  refine wd_l rfl (st_app I_ok rfl 1 1 rfl rfl rfl (by decide) hwo (Src.slice (m := 32) ⟨ha1.len, .inr ⟨b5, 0, rfl, hb5.seg⟩⟩ OneC.h) (by dsimp only [maxLen]; rw [List.length_append]; omega) (by dsimp only; rw [List.length_append]; omega) fun p5 c5 w5 ho5 hE5 hB5 => ⟨hC.then hE5, ?_⟩)
  dsimp only at ho5 hE5 hB5 ⊢
  have hX := hX.trans hE5 fun y hy hF => (hpn y hF).elim .inr fun h => absurd hy (by omega)
  have hwb := hwb.extOwn hwo hE5 (show (5 : Nat) ≠ 167 from by decide)
  have hn2 : ∀ x, OwnB p5 x → OwnB p x ∨ w.heap.size ≤ x := fun x hx => (hB5 x hx).elim (fun h => hpn x h) fun h => .inr (Nat.le_trans hX0.size h)
  have e3 : (l ++ (m.take i).flatten).length + 32 = (l ++ (m.take (i + 1)).flatten).length := by rw [flatten_take hi, List.length_append, List.length_append, List.length_append, ha1]; omega
  obtain ⟨q2, k2, e1, e2, ho2⟩ : ∃ q2 k2, q2 = p5 ∧ k2 = c5 ∧ Own w5 q2 (l ++ (m.take (i + 1)).flatten).length k2 5 1 (bytesU (l ++ (m.take (i + 1)).flatten)) := ⟨_, _, rfl, rfl, by
   rw [← e3, flatten_take hi, ← List.append_assoc, bytesU_append]
   exact ho5⟩
  rw [← e1] at hn2
  rw [← e1, ← e2, e3]
  refine wd_k I_ok 2 rfl (wd_sw (wb rfl (st_st I_ok hwb rfl rfl rfl fun w6 hwb2 hE6 hs6 => ?_)))
  have ho3 := ho2.extTy hE6 hwb (by decide)
  have hX := hX.trans hE6 fun y hy hF => .inl hF
  refine wb_nil (f_blockN (f_then (c_region (wl_p I_ok rfl ?_))))
  rw [IntWalk.i64_in _ (by omega)]
  refine wl_nil ?_
  exact f_round (i + 1, q2) rfl ⟨⟨hi, ⟨k2, hwb2, ho3⟩, hn2⟩, hX⟩ (by first | omega | (dsimp only; omega))
 ·have h0 : i = m.length := by omega
  subst h0
  rw [List.take_length] at hwb hwo
  refine c_exit (f_thenE (f_thenE (f_blockE (f_end0 rfl ?_))))
  exact ⟨rfl, _, ⟨_, hwb, hwo⟩, hpn, hX⟩
end Go.Proofs.YtpcdihkcenfgkaaGreat
namespace Go.Proofs.YtpcdihkcenfgkaaGreat
open Go.Vc
theorem strB_len (n : Nat) (s : Str) : (strB n s).length = n + s.length := by simp [strB, be_len]
theorem wrap_byteI {x : Int} (h : 0 ≤ x) : IntKind.u8.wrap x = ((UInt8.ofNat x.toNat).toNat : Int) := by
 have := wrap_byte x.toNat
 rw [Int.toNat_of_nonneg h] at this
 exact this
theorem flat_take {α β : Type} {f : α → List β} {l : List α} {i : Nat} (h : i < l.length) : (l.take (i + 1)).flatMap f = (l.take i).flatMap f ++ f l[i] := by
 rw [List.take_succ_eq_append_getElem h, List.flatMap_append]
 simp
theorem rises_at {l : List Str} (h : Rises l) {s : Str} (hs : s ∈ l) : s.length ≤ 48 := by
 obtain ⟨i, hi, rfl⟩ := List.mem_iff_getElem.1 hs
 exact (h.2 i hi).1.2.2
theorem leaved_at {l : List LeafD} (h : Leaved l) : l.length ≤ 32 ∧ ∀ r ∈ l, r.path.length ≤ 48 :=
 ⟨by have := h.1.1; rwa [List.length_map] at this, fun r hr => rises_at h.1 (List.mem_map.2 ⟨r, hr, rfl⟩)⟩
theorem edit_at {l : List ChgD} (h : EditOk l) : l.length ≤ 32 ∧ ∀ r ∈ l, r.path.length ≤ 48 ∧ r.text.length ≤ 256 :=
 ⟨by have := h.2.1; rwa [List.length_map] at this, fun r hr => ⟨rises_at h.2 (List.mem_map.2 ⟨r, hr, rfl⟩), Nat.not_lt.1 fun ht => h.1 ⟨r, hr, .inl ht⟩⟩⟩
theorem styled_at {o : ObjD} (h : Styled o) : o.parents.length ≤ 2 ∧ 0 ≤ o.style := by
 obtain ⟨_, _, h | h | h⟩ := h
 ·exact ⟨by omega, by omega⟩
 ·exact ⟨by omega, by omega⟩
 ·exact ⟨by omega, by omega⟩
theorem kind_at {o : ObjD} (h : FieldsOk o) : 0 ≤ o.kind := by
 rcases h with h | h | h <;> omega
theorem leafB_le {r : LeafD} (h : r.path.length ≤ 48) (hi : r.id.length = 32) : (leafB r).length ≤ 100 := by
 rw [leafB, List.length_append, strB_len]; omega
theorem chgB_le {r : ChgD} (h : r.path.length ≤ 48 ∧ r.text.length ≤ 256) : (chgB r).length ≤ 400 := by
 rw [chgB, List.length_append, List.length_append, strB_len, strB_len]; simp; omega
theorem flat_ne {m : List (List UInt8)} (h : ∀ r ∈ m, IdIn r) (hm : m ≠ []) : m.flatMap bytesU ≠ [] := fun e => by
 have h1 : (m.flatMap bytesU).length = m.length * 32 := flat_len fun r hr => (h r hr).len
 rw [e] at h1
 have : 0 < m.length := List.length_pos_iff.2 hm
 simp at h1
 omega
theorem one_id {r : List UInt8} (h : IdIn r) : putAll (rep 1 (bytesU idZ)) [(0 * (0 + 32), 0 + 32, .agg (bytesU r).toArray)] = bytesU r := by
 simp only [putAll, cellsOf_agg]
 rw [Nat.zero_mul, put_whole (by rw [rep_length, bytesU_len, bytesU_len, h]; rfl)]
theorem laid_calls (w : World) {x : ObjD} {a : ObjP} (hx : ObjIn x) (hxl : ObjL w x a) (hf : FieldsOk x) :
  CallsV Tryz.prog 86 [.agg (objC x a).toArray] w fun v w' => ∃ q k, v = .slice q (laidB x).length k ∧ Own w' q (laidB x).length k 5 1 (bytesU (laidB x)) ∧ (∀ b, OwnB q b → w.heap.size ≤ b) ∧ Ext No w w' := by
 have hk0 := kind_at hf
 refine calls_enter Tryz.func86 rfl rfl rfl rfl ?_
 have hX := Ext.refl No w
 refine c_seq (c_region (wl (st_al I_ok rfl fun b1 w1 hn1 hb1 hE1 => ?_)))
 have fr1 := Nat.le_trans hX.size hn1
 have hX := hX.thenNo hE1
 have hb1 : Blk w1 b1 48 (objC x a) := hb1
 refine wl_p I_ok rfl (wl_nil (f_then (c_seq (c_region (wl_p I_ok rfl (wl (st_ld I_ok rfl (hb1.seg.obj hx).kind (wl_p I_ok rfl ?_))))))))
 rw [wrap_byteI hk0]
 refine wl (st_bs I_ok rfl 1 rfl rfl rfl (by decide) (by decide) (by simp [partsOk]) (l' := bytesU [UInt8.ofNat x.kind.toNat]) rfl fun b12 w2 hn12 hb12 hE2 hs2 => ?_)
 have fr12 := Nat.le_trans hX.size hn12
 have hb1 := hb1.extNo hE2
 have hX := hX.thenNo hE2
 have fr12 := hn12
 refine wl (st_bd I_ok rfl ⟨⟨rfl, by decide⟩, trivial⟩ (l' := [.slice (some ⟨b12, 0, none⟩) 1 1]) rfl (wl (st_al I_ok rfl fun b14 w3 hn14 hb14 hE3 => ?_)))
 have fr14 := Nat.le_trans hX.size hn14
 have hb1 := hb1.extNo hE3
 have hb12 := hb12.extNo hE3
 have hX := hX.thenNo hE3
 have hb14 : Blk w3 b14 167 ([.slice (some ⟨b12, 0, none⟩) (be 1 x.kind.toNat).length 1]) := hb14
 have hwb := hb14
 have hX12 := hX.size
 have hwo : Own w3 (some ⟨b12, 0, none⟩) (be 1 x.kind.toNat).length 1 5 1 (bytesU (be 1 x.kind.toNat)) := Own.blk (n := 1) (c := 1) hb12 1 rfl (Nat.le_refl _) (by decide)
 have hpn : ∀ y, OwnB (some ⟨b12, 0, none⟩) y → w.heap.size ≤ y := fun y hy => by have e : b12 = y := congrArg Addr.block (Option.some.inj hy); omega
 obtain ⟨p, hp⟩ : ∃ p : Option Addr, p = some ⟨b12, 0, none⟩ := ⟨_, rfl⟩
 rw [← hp] at hwb hwo hpn
 refine wl_p I_ok rfl (wl_nil (f_then (c_cutK (α := Option Addr) [3] rfl (fun z => []) (fun z u => (Wr u b14 z (laidB x) ∧ ∀ y, OwnB z y → w.heap.size ≤ y) ∧ Ext No w u) ?_ ?_)))
 ·refine c_seq ?_
  refine c_region (wl_p I_ok rfl (wl (st_ld I_ok rfl (hb1.seg.obj hx).kind (wl_nil (f_then (c_block (c_seq (c_region (wl_p I_ok rfl (wl_nil (f_then (c_if rfl (fun hc => ?_) (fun hc => ?_)))))))))))))
  ·have h1 : x.kind = 1 := hc
   have hB := (fields1 h1).1 hf
   have hBl := hB.1
   refine c_region (wl_p I_ok rfl (wl (st_ld I_ok rfl (hb1.seg.obj hx).text ?_)))
   have hXo := hX
   refine wl (st_call Tryz.call110 rfl rfl rfl rfl rfl rfl (text_calls w3 ⟨_, hwb, hwo⟩ x.text (by simp only [be_len]; omega) (by omega)) fun v4 w4 hr4 => ?_)
   obtain ⟨rfl, p, hW2, hn2, hE4⟩ := hr4
   have hb1 := hb1.keepW ⟨_, hwb, hwo⟩ hE4 (by decide) (by decide)
   have hX := Ext.thenW hX hE4 fr14 hpn
   have hpn := newW hXo hpn hn2
   obtain ⟨k4, hwb, hwo⟩ := hW2
   refine wl_nil ?_
   exact f_blockN (f_cut (p) rfl ⟨⟨by rw [laidB, if_pos h1]; exact ⟨_, hwb, hwo⟩, hpn⟩, hX⟩)
  ·have h1 : ¬ x.kind = 1 := hc
   refine c_seq (c_region (wl_p I_ok rfl (wl_nil (f_then (c_if rfl (fun hc => ?_) (fun hc => ?_))))))
   ·have h2 : x.kind = 2 := hc
    have hB := (fields2 h2).1 hf
    obtain ⟨hl32, hp48⟩ := leaved_at hB.1
    refine c_seq (c_draw rfl 13 [(0, true), (1, true), (2, true), (3, true), (4, true), (5, true), (6, true), (7, true), (8, true), (9, false), (10, false), (11, true), (12, true)] [13] (OwnB p) (by kernel_rfl) fun w5 hE5 hs5 => ?_)
    have hd1 := hb1
    have hwbd := hwb
    have hwod := hwo
    have hb1 := hb1.extNo hE5
    have hwb := hwb.extNo hE5
    have hwo := hwo.ext hE5 fun _ _ => id
    have hX := hX.thenNo hE5
    have hC : Ext (OwnB p) _ w5 := hE5.no
    refine wd_k I_ok 4 rfl (wd_ld I_ok rfl rfl (fun w' hw' => ((hwbd.ext (show Ext (OwnB p) _ w' from hw') fun hx' => hwod.neTy hx' hwbd (by decide) rfl).cell rfl)) ?_)
    refine wd_k I_ok 1 rfl (wd_ld I_ok rfl rfl (fun w' hw' => ((hd1.ext (show Ext (OwnB p) _ w' from hw') fun hx' => hwod.neTy hx' hd1 (by decide) rfl).seg.obj hx).leaves) ?_)
    refine wd_k I_ok 2 rfl ?_
    rw [wrap_byte]
    refine wd_l rfl (st_bs I_ok rfl 1 rfl rfl rfl (by decide) (by decide) (by simp [partsOk]) (l' := bytesU [UInt8.ofNat x.leaves.length]) rfl fun b34 w6 hn34 hb34 hE6 hs6 => ⟨hC.thenNo hE6, ?_⟩)
    have fr34 := Nat.le_trans hX.size hn34
    have hb1 := hb1.extNo hE6
    have hwb := hwb.extNo hE6
    have hwo := hwo.ext hE6 fun _ _ => id
    have hX := hX.thenNo hE6
    have hC := hC.thenNo hE6
    have hX0 := hX
    refine wd_l rfl (st_app I_ok rfl 1 1 rfl rfl rfl (by decide) hwo (Src.slice (m := 1) ⟨rfl, .inr ⟨b34, 0, rfl, hb34.seg⟩⟩ OneC.h) (by dsimp only [maxLen]; simp only [be_len]; omega) (by dsimp only; simp only [be_len]; omega) fun p7 c7 w7 ho7 hE7 hB7 => ⟨hC.then hE7, ?_⟩)
    dsimp only at ho7 hE7 hB7 ⊢
    have hb1 := hb1.extOwn hwo hE7 (show (5 : Nat) ≠ 48 from by decide)
    have hX := hX.trans hE7 fun y hy hF => by have := hpn y hF; omega
    have hwb := hwb.extOwn hwo hE7 (show (5 : Nat) ≠ 167 from by decide)
    have hn2 := newW hX0 hpn hB7
    have e3 : (be 1 x.kind.toNat).length + 1 = (be 1 x.kind.toNat ++ be 1 x.leaves.length).length := by simp only [List.length_append, be_len]
    obtain ⟨p, k, e1, e2, hwo2⟩ : ∃ p k, p = p7 ∧ k = c7 ∧ Own w7 p (be 1 x.kind.toNat ++ be 1 x.leaves.length).length k 5 1 (bytesU (be 1 x.kind.toNat ++ be 1 x.leaves.length)) := ⟨_, _, rfl, rfl, by
     rw [← e3, bytesU_append (be 1 x.kind.toNat)]
     exact ho7⟩
    rw [← e1] at hn2
    have hpn := hn2
    rw [← e1, ← e2, e3]
    refine wd_k I_ok 2 rfl (wd_sw (wb rfl (st_st I_ok hwb rfl rfl rfl fun w8 hwb2 hE8 hs8 => ?_)))
    have hwo := hwo2.extTy hE8 hwb (by decide)
    have hb1 := hb1.ext1 hE8 (hb1.ne hwb (by decide))
    have hX := hX.trans hE8 fun y hy hF => by have hF : y = b14 := hF; omega
    have hwb := hwb2
    refine wb_nil (f_then (c_seq (c_region (wl_p I_ok rfl (wl (st_ld I_ok rfl (hb1.seg.obj hx).leaves (wl_p I_ok rfl (wl_nil (f_then (c_block ?_))))))))))
    refine c_loopK (α := Nat × Option Addr) [3, 39, 40] rfl (fun z => [(41, .int .i64 (z.1 : Int))]) (fun z u => (z.1 ≤ x.leaves.length ∧ Wr u b14 z.2 (be 1 x.kind.toNat ++ be 1 x.leaves.length ++ (x.leaves.take z.1).flatMap leafB) ∧ ∀ y, OwnB z.2 y → w.heap.size ≤ y) ∧ Ext No w u) (fun z u => x.leaves.length - z.1) (0, p) rfl ⟨⟨Nat.zero_le _, ⟨_, by simpa using hwb, by simpa using hwo⟩, hpn⟩, hX⟩ ?_
    rintro ⟨i, p⟩ w9 ⟨⟨hi, ⟨k, hwb, hwo⟩, hpn⟩, hX⟩
    try dsimp only
    dsimp only at hi hwb hwo hpn
    refine c_seq (c_region (wl_p I_ok rfl (wl_nil (f_then (c_seq (c_if rfl (fun hc => ?_) (fun hc => ?_)))))))
    ·have hi : i < x.leaves.length := by omega
     obtain ⟨qb, qoff, hp, hsq⟩ := hxl.leaves.rowAll (fun r hr => LeafD.len (hx.leaves r hr).2) (by omega)
     rw [hp]
     have ha1 := hx.leaves _ (List.getElem_mem hi)
     have ha2 := hp48 _ (List.getElem_mem hi)
     have hfl : ((x.leaves.take i).flatMap leafB).length ≤ (x.leaves.take i).length * 100 := flat_le fun r hr => leafB_le (hp48 r (List.mem_of_mem_take hr)) (hx.leaves r (List.mem_of_mem_take hr)).2
     rw [List.length_take, Nat.min_eq_left (by omega)] at hfl
     refine c_skip (f_then (c_seq (c_block (c_seq (c_region (wl (st_ix I_ok rfl 33 rfl i rfl (by omega) (qoff + i * 33) rfl (wl (st_ldN I_ok rfl ((hsq i hi).extNo hX) (LeafD.len ha1.2) (wl (st_al I_ok rfl fun b5 w10 hn5 hb5 hE10 => ?_)))))))))))
     have fr5 := Nat.le_trans hX.size hn5
     have hwb := hwb.extNo hE10
     have hwo := hwo.ext hE10 fun _ _ => id
     have hX := hX.thenNo hE10
     have hb5o := hb5
     refine wl (st_stW (l' := (x.leaves[i]).cells) I_ok hb5 rfl rfl (LeafD.len ha1.2) (LeafD.len ha1.2) OneC.h fun w11 hb5 hE11 hs11 => ?_)
     have hwb := hwb.ext1 hE11 (hwb.ne hb5o (by decide))
     have hwo := hwo.extTy hE11 hb5o (by decide)
     have hX := hX.thenNew hE11 fr5
     refine wl_nil (f_then (c_seq (c_region (wl_p I_ok rfl (wl (st_ldb I_ok hb5 rfl rfl ?_))))))
     have hXo := hX
     refine wl (st_call Tryz.call111 rfl rfl rfl rfl rfl rfl (small_calls w11 ⟨_, hwb, hwo⟩ (x.leaves[i]).path (by simp only [List.length_append, be_len]; omega)) fun v12 w12 hr12 => ?_)
     obtain ⟨rfl, p, hW2, hn2, hE12⟩ := hr12
     have hb5 := hb5.keepW ⟨_, hwb, hwo⟩ hE12 (by decide) (by decide)
     have hX := Ext.thenW hX hE12 fr14 hpn
     have hpn := newW hXo hpn hn2
     obtain ⟨k12, hwb, hwo⟩ := hW2
     refine wl_nil (f_then (c_region (wl_p I_ok rfl (wl (st_ldN I_ok rfl (by have := hb5.seg.drop 1; exact this) (IdIn.len ha1.2) ?_)))))
     have ha5 : IdIn (x.leaves[i]).id := ha1.2
     refine wl (st_bs I_ok rfl 32 rfl idZ_c.symm (by rw [bytesU_len]; rfl) (by decide) (by decide) ⟨⟨by rw [cellsOf_agg]; exact (IdIn.len ha1.2), by decide⟩, trivial⟩ (l' := bytesU (x.leaves[i]).id) (one_id ha1.2) fun b52 w13 hn52 hb52 hE13 hs13 => ?_)
     have fr52 := Nat.le_trans hX.size hn52
     have hb5 := hb5.extNo hE13
     have hwb := hwb.extNo hE13
     have hwo := hwo.ext hE13 fun _ _ => id
     have hX := hX.thenNo hE13
     have hXo := hX
     refine wl (st_call Tryz.call112 rfl rfl rfl rfl rfl rfl (ids_calls w13 ⟨_, hwb, hwo⟩ (q := some ⟨b52, 0, none⟩) (m := [(x.leaves[i]).id]) ⟨by simp only [List.flatMap_cons, List.flatMap_nil, List.append_nil]; exact ha5.len, .inr ⟨b52, 0, rfl, by simpa using hb52.seg⟩⟩ (fun r hr => by rw [List.mem_singleton.1 hr]; exact ha5) (by simp only [List.length_append, be_len, strB_len]; omega) (by simp only [List.length_cons, List.length_nil]; omega) (fun y off e _ hF => by cases e; exact hF.elim (fun e => hwb.ne hb52 (by decide) e.symm) fun h => hwo.neTy h hb52 (by decide) rfl)) fun v14 w14 hr14 => ?_)
     obtain ⟨rfl, p, hW2, hn2, hE14⟩ := hr14
     have hb5 := hb5.keepW ⟨_, hwb, hwo⟩ hE14 (by decide) (by decide)
     have hb52 := hb52.keepW ⟨_, hwb, hwo⟩ hE14 (by decide) (by decide)
     have hX := Ext.thenW hX hE14 fr14 hpn
     have hpn := newW hXo hpn hn2
     obtain ⟨k14, hwb, hwo⟩ := hW2
     refine wl_nil (f_blockN (f_then (c_region (wl_p I_ok rfl ?_))))
     rw [IntWalk.i64_in _ (by omega)]
     refine wl_nil ?_
     exact f_round (i + 1, p) rfl ⟨⟨hi, by have e : be 1 x.kind.toNat ++ be 1 x.leaves.length ++ (x.leaves.take (i + 1)).flatMap leafB = be 1 x.kind.toNat ++ be 1 x.leaves.length ++ (x.leaves.take i).flatMap leafB ++ strB 1 (x.leaves[i]).path ++ [(x.leaves[i]).id].flatten := (by rw [flat_take hi, leafB]; simp); rw [e]; exact ⟨_, hwb, hwo⟩, hpn⟩, hX⟩ (by first | omega | (dsimp only; omega))
    ·have h0 : i = x.leaves.length := by omega
     subst h0
     rw [List.take_length] at hwb hwo
     refine c_exit ?_
     exact f_thenE (f_thenE (f_blockE (f_blockN (f_cut (p) rfl ⟨⟨by have e : laidB x = be 1 x.kind.toNat ++ be 1 x.leaves.length ++ x.leaves.flatMap leafB := (by rw [laidB, if_neg h1, if_pos h2, treeB, List.append_assoc]); rw [e]; exact ⟨_, hwb, hwo⟩, hpn⟩, hX⟩))))
   ·have h2 : ¬ x.kind = 2 := hc
    refine c_seq (c_region (wl_p I_ok rfl (wl_nil (f_then (c_if rfl (fun hc => ?_) (fun hc => ?_))))))
    ·have h3 : x.kind = 3 := hc
     have hB := (fields3 h3).1 hf
     obtain ⟨hl32, hp48⟩ := edit_at hB.2.2.2.1
     obtain ⟨hpl, hst⟩ := styled_at hB.2.2.2.2
     have hnl := hB.2.2.1
     have htr := hx.tree
     have hba := hx.base
     have hpf := flatten_len (n := 32) hx.parents
     refine c_seq (c_draw rfl 12 [(0, true), (1, true), (2, true), (3, true), (4, true), (5, true), (6, true), (7, true), (8, false), (9, false), (10, true), (11, true)] [12] (OwnB p) (by kernel_rfl) fun w15 hE15 hs15 => ?_)
     have hd1 := hb1
     have hwbd := hwb
     have hwod := hwo
     have hb1 := hb1.extNo hE15
     have hwb := hwb.extNo hE15
     have hwo := hwo.ext hE15 fun _ _ => id
     have hX := hX.thenNo hE15
     have hC : Ext (OwnB p) _ w15 := hE15.no
     refine wd_k I_ok 4 rfl (wd_ld I_ok rfl rfl (fun w' hw' => ((hwbd.ext (show Ext (OwnB p) _ w' from hw') fun hx' => hwod.neTy hx' hwbd (by decide) rfl).cell rfl)) ?_)
     refine wd_k I_ok 1 rfl (wd_ld I_ok rfl rfl (fun w' hw' => ((hd1.ext (show Ext (OwnB p) _ w' from hw') fun hx' => hwod.neTy hx' hd1 (by decide) rfl).seg.obj hx).style) ?_)
     refine wd_k I_ok 1 rfl ?_
     rw [wrap_byteI hst]
     refine wd_l rfl (st_bs I_ok rfl 1 rfl rfl rfl (by decide) (by decide) (by simp [partsOk]) (l' := bytesU [UInt8.ofNat x.style.toNat]) rfl fun b65 w16 hn65 hb65 hE16 hs16 => ⟨hC.thenNo hE16, ?_⟩)
     have fr65 := Nat.le_trans hX.size hn65
     have hb1 := hb1.extNo hE16
     have hwb := hwb.extNo hE16
     have hwo := hwo.ext hE16 fun _ _ => id
     have hX := hX.thenNo hE16
     have hC := hC.thenNo hE16
     have hX0 := hX
     refine wd_l rfl (st_app I_ok rfl 1 1 rfl rfl rfl (by decide) hwo (Src.slice (m := 1) ⟨rfl, .inr ⟨b65, 0, rfl, hb65.seg⟩⟩ OneC.h) (by dsimp only [maxLen]; simp only [be_len]; omega) (by dsimp only; simp only [be_len]; omega) fun p17 c17 w17 ho17 hE17 hB17 => ⟨hC.then hE17, ?_⟩)
     dsimp only at ho17 hE17 hB17 ⊢
     have hb1 := hb1.extOwn hwo hE17 (show (5 : Nat) ≠ 48 from by decide)
     have hX := hX.trans hE17 fun y hy hF => by have := hpn y hF; omega
     have hwb := hwb.extOwn hwo hE17 (show (5 : Nat) ≠ 167 from by decide)
     have hn2 := newW hX0 hpn hB17
     have e3 : (be 1 x.kind.toNat).length + 1 = (be 1 x.kind.toNat ++ be 1 x.style.toNat).length := by simp only [List.length_append, be_len]
     obtain ⟨p, k, e1, e2, hwo2⟩ : ∃ p k, p = p17 ∧ k = c17 ∧ Own w17 p (be 1 x.kind.toNat ++ be 1 x.style.toNat).length k 5 1 (bytesU (be 1 x.kind.toNat ++ be 1 x.style.toNat)) := ⟨_, _, rfl, rfl, by
      rw [← e3, bytesU_append (be 1 x.kind.toNat)]
      exact ho17⟩
     rw [← e1] at hn2
     have hpn := hn2
     rw [← e1, ← e2, e3]
     refine wd_k I_ok 2 rfl (wd_sw (wb rfl (st_st I_ok hwb rfl rfl rfl fun w18 hwb2 hE18 hs18 => ?_)))
     have hwo := hwo2.extTy hE18 hwb (by decide)
     have hb1 := hb1.ext1 hE18 (hb1.ne hwb (by decide))
     have hX := hX.trans hE18 fun y hy hF => by have hF : y = b14 := hF; omega
     have hwb := hwb2
     refine wb_nil (f_then (c_seq (c_region (wl_p I_ok rfl (wl (st_ldN I_ok rfl (hb1.seg.obj hx).tree (IdIn.len hx.tree) ?_))))))
     have ha5 : IdIn x.tree := hx.tree
     refine wl (st_bs I_ok rfl 32 rfl idZ_c.symm (by rw [bytesU_len]; rfl) (by decide) (by decide) ⟨⟨by rw [cellsOf_agg]; exact (IdIn.len hx.tree), by decide⟩, trivial⟩ (l' := bytesU x.tree) (one_id hx.tree) fun b72 w19 hn72 hb72 hE19 hs19 => ?_)
     have fr72 := Nat.le_trans hX.size hn72
     have hb1 := hb1.extNo hE19
     have hwb := hwb.extNo hE19
     have hwo := hwo.ext hE19 fun _ _ => id
     have hX := hX.thenNo hE19
     have hXo := hX
     refine wl (st_call Tryz.call112 rfl rfl rfl rfl rfl rfl (ids_calls w19 ⟨_, hwb, hwo⟩ (q := some ⟨b72, 0, none⟩) (m := [x.tree]) ⟨by simp only [List.flatMap_cons, List.flatMap_nil, List.append_nil]; exact ha5.len, .inr ⟨b72, 0, rfl, by simpa using hb72.seg⟩⟩ (fun r hr => by rw [List.mem_singleton.1 hr]; exact ha5) (by simp only [List.length_append, be_len]; omega) (by simp only [List.length_cons, List.length_nil]; omega) (fun y off e _ hF => by cases e; exact hF.elim (fun e => hwb.ne hb72 (by decide) e.symm) fun h => hwo.neTy h hb72 (by decide) rfl)) fun v20 w20 hr20 => ?_)
     obtain ⟨rfl, p, hW2, hn2, hE20⟩ := hr20
     have hb1 := hb1.keepW ⟨_, hwb, hwo⟩ hE20 (by decide) (by decide)
     have hb72 := hb72.keepW ⟨_, hwb, hwo⟩ hE20 (by decide) (by decide)
     have hX := Ext.thenW hX hE20 fr14 hpn
     have hpn := newW hXo hpn hn2
     obtain ⟨k20, hwb, hwo⟩ := hW2
     refine wl_nil (f_then (c_seq ?_))
     refine c_draw rfl 13 [(0, true), (1, true), (2, true), (3, true), (4, true), (5, true), (6, true), (7, true), (8, true), (9, false), (10, false), (11, true), (12, true)] [13] (OwnB p) (by kernel_rfl) fun w21 hE21 hs21 => ?_
     have hd1 := hb1
     have hwbd := hwb
     have hwod := hwo
     have hb1 := hb1.extNo hE21
     have hwb := hwb.extNo hE21
     have hwo := hwo.ext hE21 fun _ _ => id
     have hX := hX.thenNo hE21
     have hC : Ext (OwnB p) _ w21 := hE21.no
     refine wd_k I_ok 4 rfl (wd_ld I_ok rfl rfl (fun w' hw' => ((hwbd.ext (show Ext (OwnB p) _ w' from hw') fun hx' => hwod.neTy hx' hwbd (by decide) rfl).cell rfl)) ?_)
     refine wd_k I_ok 1 rfl (wd_ld I_ok rfl rfl (fun w' hw' => ((hd1.ext (show Ext (OwnB p) _ w' from hw') fun hx' => hwod.neTy hx' hd1 (by decide) rfl).seg.obj hx).parents) ?_)
     refine wd_k I_ok 2 rfl ?_
     rw [wrap_byte]
     refine wd_l rfl (st_bs I_ok rfl 1 rfl rfl rfl (by decide) (by decide) (by simp [partsOk]) (l' := bytesU [UInt8.ofNat x.parents.length]) rfl fun b83 w22 hn83 hb83 hE22 hs22 => ⟨hC.thenNo hE22, ?_⟩)
     have fr83 := Nat.le_trans hX.size hn83
     have hb1 := hb1.extNo hE22
     have hwb := hwb.extNo hE22
     have hwo := hwo.ext hE22 fun _ _ => id
     have hX := hX.thenNo hE22
     have hC := hC.thenNo hE22
     have hX0 := hX
     refine wd_l rfl (st_app I_ok rfl 1 1 rfl rfl rfl (by decide) hwo (Src.slice (m := 1) ⟨rfl, .inr ⟨b83, 0, rfl, hb83.seg⟩⟩ OneC.h) (by dsimp only [maxLen]; simp only [List.length_append, be_len, List.length_nil, List.flatten_cons, List.flatten_nil]; omega) (by dsimp only; simp only [List.length_append, be_len, List.length_nil, List.flatten_cons, List.flatten_nil]; omega) fun p23 c23 w23 ho23 hE23 hB23 => ⟨hC.then hE23, ?_⟩)
     dsimp only at ho23 hE23 hB23 ⊢
     have hb1 := hb1.extOwn hwo hE23 (show (5 : Nat) ≠ 48 from by decide)
     have hX := hX.trans hE23 fun y hy hF => by have := hpn y hF; omega
     have hwb := hwb.extOwn hwo hE23 (show (5 : Nat) ≠ 167 from by decide)
     have hn2 := newW hX0 hpn hB23
     have e3 : (be 1 x.kind.toNat ++ be 1 x.style.toNat ++ [x.tree].flatten).length + 1 = (be 1 x.kind.toNat ++ be 1 x.style.toNat ++ [x.tree].flatten ++ be 1 x.parents.length).length := by simp only [List.length_append, be_len]
     obtain ⟨p, k, e1, e2, hwo2⟩ : ∃ p k, p = p23 ∧ k = c23 ∧ Own w23 p (be 1 x.kind.toNat ++ be 1 x.style.toNat ++ [x.tree].flatten ++ be 1 x.parents.length).length k 5 1 (bytesU (be 1 x.kind.toNat ++ be 1 x.style.toNat ++ [x.tree].flatten ++ be 1 x.parents.length)) := ⟨_, _, rfl, rfl, by
      rw [← e3, bytesU_append (be 1 x.kind.toNat ++ be 1 x.style.toNat ++ [x.tree].flatten)]
      exact ho23⟩
     rw [← e1] at hn2
     have hpn := hn2
     rw [← e1, ← e2, e3]
     refine wd_k I_ok 2 rfl (wd_sw (wb rfl (st_st I_ok hwb rfl rfl rfl fun w24 hwb2 hE24 hs24 => ?_)))
     have hwo := hwo2.extTy hE24 hwb (by decide)
     have hb1 := hb1.ext1 hE24 (hb1.ne hwb (by decide))
     have hX := hX.trans hE24 fun y hy hF => by have hF : y = b14 := hF; omega
     have hwb := hwb2
     refine wb_nil (f_then (c_seq (c_region (wl_p I_ok rfl (wl (st_ld I_ok rfl (hb1.seg.obj hx).parents ?_))))))
     have hXo := hX
     refine wl (st_call Tryz.call112 rfl rfl rfl rfl rfl rfl (ids_calls w24 ⟨_, hwb, hwo⟩ (hxl.parents.extNo hX) hx.parents (by simp only [List.length_append, be_len, List.length_nil, List.flatten_cons, List.flatten_nil]; omega) (by omega) (fun y off e hne hF => by have hlt := hxl.parents.lt e (flat_ne hx.parents hne); exact hF.elim (fun e => by omega) fun h => by have := hpn y h; omega)) fun v25 w25 hr25 => ?_)
     obtain ⟨rfl, p, hW2, hn2, hE25⟩ := hr25
     have hb1 := hb1.keepW ⟨_, hwb, hwo⟩ hE25 (by decide) (by decide)
     have hX := Ext.thenW hX hE25 fr14 hpn
     have hpn := newW hXo hpn hn2
     obtain ⟨k25, hwb, hwo⟩ := hW2
     refine wl_nil (f_then (c_seq (c_region (wl_p I_ok rfl (wl (st_ldN I_ok rfl (hb1.seg.obj hx).base (IdIn.len hx.base) ?_))))))
     have ha5 : IdIn x.base := hx.base
     refine wl (st_bs I_ok rfl 32 rfl idZ_c.symm (by rw [bytesU_len]; rfl) (by decide) (by decide) ⟨⟨by rw [cellsOf_agg]; exact (IdIn.len hx.base), by decide⟩, trivial⟩ (l' := bytesU x.base) (one_id hx.base) fun b94 w26 hn94 hb94 hE26 hs26 => ?_)
     have fr94 := Nat.le_trans hX.size hn94
     have hb1 := hb1.extNo hE26
     have hwb := hwb.extNo hE26
     have hwo := hwo.ext hE26 fun _ _ => id
     have hX := hX.thenNo hE26
     have hXo := hX
     refine wl (st_call Tryz.call112 rfl rfl rfl rfl rfl rfl (ids_calls w26 ⟨_, hwb, hwo⟩ (q := some ⟨b94, 0, none⟩) (m := [x.base]) ⟨by simp only [List.flatMap_cons, List.flatMap_nil, List.append_nil]; exact ha5.len, .inr ⟨b94, 0, rfl, by simpa using hb94.seg⟩⟩ (fun r hr => by rw [List.mem_singleton.1 hr]; exact ha5) (by simp only [List.length_append, be_len, List.length_nil, List.flatten_cons, List.flatten_nil]; omega) (by simp only [List.length_cons, List.length_nil]; omega) (fun y off e _ hF => by cases e; exact hF.elim (fun e => hwb.ne hb94 (by decide) e.symm) fun h => hwo.neTy h hb94 (by decide) rfl)) fun v27 w27 hr27 => ?_)
     obtain ⟨rfl, p, hW2, hn2, hE27⟩ := hr27
     have hb1 := hb1.keepW ⟨_, hwb, hwo⟩ hE27 (by decide) (by decide)
     have hb94 := hb94.keepW ⟨_, hwb, hwo⟩ hE27 (by decide) (by decide)
     have hX := Ext.thenW hX hE27 fr14 hpn
     have hpn := newW hXo hpn hn2
     obtain ⟨k27, hwb, hwo⟩ := hW2
     refine wl_nil (f_then (c_seq ?_))
     refine c_draw rfl 14 [(0, true), (1, true), (2, true), (3, true), (4, true), (5, true), (6, true), (7, true), (8, true), (9, true), (10, false), (11, false), (12, true), (13, true)] [14] (OwnB p) (by kernel_rfl) fun w28 hE28 hs28 => ?_
     have hd1 := hb1
     have hwbd := hwb
     have hwod := hwo
     have hb1 := hb1.extNo hE28
     have hwb := hwb.extNo hE28
     have hwo := hwo.ext hE28 fun _ _ => id
     have hX := hX.thenNo hE28
     have hC : Ext (OwnB p) _ w28 := hE28.no
     refine wd_k I_ok 4 rfl (wd_ld I_ok rfl rfl (fun w' hw' => ((hwbd.ext (show Ext (OwnB p) _ w' from hw') fun hx' => hwod.neTy hx' hwbd (by decide) rfl).cell rfl)) ?_)
     refine wd_k I_ok 2 rfl (wd_ld I_ok rfl rfl (fun w' hw' => ((hd1.ext (show Ext (OwnB p) _ w' from hw') fun hx' => hwod.neTy hx' hd1 (by decide) rfl).seg.obj hx).rows) ?_)
     refine wd_k I_ok 2 rfl ?_
     rw [wrap_byte]
     refine wd_l rfl (st_bs I_ok rfl 1 rfl rfl rfl (by decide) (by decide) (by simp [partsOk]) (l' := bytesU [UInt8.ofNat x.rows.length]) rfl fun b106 w29 hn106 hb106 hE29 hs29 => ⟨hC.thenNo hE29, ?_⟩)
     have fr106 := Nat.le_trans hX.size hn106
     have hb1 := hb1.extNo hE29
     have hwb := hwb.extNo hE29
     have hwo := hwo.ext hE29 fun _ _ => id
     have hX := hX.thenNo hE29
     have hC := hC.thenNo hE29
     have hX0 := hX
     refine wd_l rfl (st_app I_ok rfl 1 1 rfl rfl rfl (by decide) hwo (Src.slice (m := 1) ⟨rfl, .inr ⟨b106, 0, rfl, hb106.seg⟩⟩ OneC.h) (by dsimp only [maxLen]; simp only [List.length_append, be_len, List.length_nil, List.flatten_cons, List.flatten_nil]; omega) (by dsimp only; simp only [List.length_append, be_len, List.length_nil, List.flatten_cons, List.flatten_nil]; omega) fun p30 c30 w30 ho30 hE30 hB30 => ⟨hC.then hE30, ?_⟩)
     have hC := hC.then hE30
     dsimp only at ho30 hE30 hB30 ⊢
     have hb1 := hb1.extOwn hwo hE30 (show (5 : Nat) ≠ 48 from by decide)
     have hX := hX.trans hE30 fun y hy hF => by have := hpn y hF; omega
     have hwb := hwb.extOwn hwo hE30 (show (5 : Nat) ≠ 167 from by decide)
     have hn2 := newW hX0 hpn hB30
     have e3 : (be 1 x.kind.toNat ++ be 1 x.style.toNat ++ [x.tree].flatten ++ be 1 x.parents.length ++ x.parents.flatten ++ [x.base].flatten).length + 1 = (be 1 x.kind.toNat ++ be 1 x.style.toNat ++ [x.tree].flatten ++ be 1 x.parents.length ++ x.parents.flatten ++ [x.base].flatten ++ be 1 x.rows.length).length := by simp only [List.length_append, be_len]
     obtain ⟨p, k, e1, e2, hwo2⟩ : ∃ p k, p = p30 ∧ k = c30 ∧ Own w30 p (be 1 x.kind.toNat ++ be 1 x.style.toNat ++ [x.tree].flatten ++ be 1 x.parents.length ++ x.parents.flatten ++ [x.base].flatten ++ be 1 x.rows.length).length k 5 1 (bytesU (be 1 x.kind.toNat ++ be 1 x.style.toNat ++ [x.tree].flatten ++ be 1 x.parents.length ++ x.parents.flatten ++ [x.base].flatten ++ be 1 x.rows.length)) := ⟨_, _, rfl, rfl, by
      rw [← e3, bytesU_append (be 1 x.kind.toNat ++ be 1 x.style.toNat ++ [x.tree].flatten ++ be 1 x.parents.length ++ x.parents.flatten ++ [x.base].flatten)]
      exact ho30⟩
     rw [← e1] at hn2
     have hpn := hn2
     rw [← e1, ← e2, e3]
     refine wd_k I_ok 2 rfl (wd_sw (wb rfl (st_st I_ok hwb rfl rfl rfl fun w31 hwb2 hE31 hs31 => ?_)))
     have hwo := hwo2.extTy hE31 hwb (by decide)
     have hb1 := hb1.ext1 hE31 (hb1.ne hwb (by decide))
     have hX := hX.trans hE31 fun y hy hF => by have hF : y = b14 := hF; omega
     have hwb := hwb2
     refine wb_nil (f_then (c_seq (c_seq (c_region (wl_p I_ok rfl (wl (st_ld I_ok rfl (hb1.seg.obj hx).rows (wl_p I_ok rfl (wl_nil (f_then (c_block ?_)))))))))))
     refine c_loopK (α := Nat × Option Addr) [1, 3, 112, 113] rfl (fun z => [(114, .int .i64 (z.1 : Int))]) (fun z u => (z.1 ≤ x.rows.length ∧ Wr u b14 z.2 (be 1 x.kind.toNat ++ be 1 x.style.toNat ++ [x.tree].flatten ++ be 1 x.parents.length ++ x.parents.flatten ++ [x.base].flatten ++ be 1 x.rows.length ++ (x.rows.take z.1).flatMap chgB) ∧ ∀ y, OwnB z.2 y → w.heap.size ≤ y) ∧ Blk u b1 48 (objC x a) ∧ Ext No w u) (fun z u => x.rows.length - z.1) (0, p) rfl ⟨⟨Nat.zero_le _, ⟨_, by simpa using hwb, by simpa using hwo⟩, hpn⟩, hb1, hX⟩ ?_
     rintro ⟨i, p⟩ w32 ⟨⟨hi, ⟨k, hwb, hwo⟩, hpn⟩, hb1, hX⟩
     try dsimp only
     dsimp only at hi hwb hwo hpn
     refine c_seq (c_region (wl_p I_ok rfl (wl_nil (f_then (c_seq (c_if rfl (fun hc => ?_) (fun hc => ?_)))))))
     ·have hi : i < x.rows.length := by omega
      obtain ⟨qb, qoff, hp, hsq⟩ := hxl.rows.rowAll (fun r _ => r.len) (by omega)
      rw [hp]
      have ha2 := hp48 _ (List.getElem_mem hi)
      have hfl : ((x.rows.take i).flatMap chgB).length ≤ (x.rows.take i).length * 400 := flat_le fun r hr => chgB_le (hp48 r (List.mem_of_mem_take hr))
      rw [List.length_take, Nat.min_eq_left (by omega)] at hfl
      refine c_skip (f_then (c_seq (c_block (c_seq (c_region (wl (st_ix I_ok rfl 3 rfl i rfl (by omega) (qoff + i * 3) rfl (wl (st_ldN I_ok rfl ((hsq i hi).extNo hX) rfl (wl (st_al I_ok rfl fun b7 w33 hn7 hb7 hE33 => ?_)))))))))))
      have ne1_7 : b1 ≠ b7 := Nat.ne_of_lt (Nat.lt_of_lt_of_le hb1.lt hn7)
      have fr7 := Nat.le_trans hX.size hn7
      have hb1 := hb1.extNo hE33
      have hwb := hwb.extNo hE33
      have hwo := hwo.ext hE33 fun _ _ => id
      have hX := hX.thenNo hE33
      have hb7o := hb7
      refine wl (st_stW (l' := (x.rows[i]).cells) I_ok hb7 rfl rfl rfl rfl OneC.h fun w34 hb7 hE34 hs34 => ?_)
      have hb1 := hb1.ext1 hE34 ne1_7
      have hwb := hwb.ext1 hE34 (hwb.ne hb7o (by decide))
      have hwo := hwo.extTy hE34 hb7o (by decide)
      have hX := hX.thenNew hE34 fr7
      refine wl_nil (f_then (c_seq (c_region (wl_p I_ok rfl (wl (st_ldb I_ok hb7 rfl rfl ?_))))))
      have hXo := hX
      refine wl (st_call Tryz.call111 rfl rfl rfl rfl rfl rfl (small_calls w34 ⟨_, hwb, hwo⟩ (x.rows[i]).path (by simp only [List.length_append, be_len, List.length_nil, List.flatten_cons, List.flatten_nil]; omega)) fun v35 w35 hr35 => ?_)
      obtain ⟨rfl, p, hW2, hn2, hE35⟩ := hr35
      have hb1 := hb1.keepW ⟨_, hwb, hwo⟩ hE35 (by decide) (by decide)
      have hb7 := hb7.keepW ⟨_, hwb, hwo⟩ hE35 (by decide) (by decide)
      have hX := Ext.thenW hX hE35 fr14 hpn
      have hpn := newW hXo hpn hn2
      obtain ⟨k35, hwb, hwo⟩ := hW2
      refine wl_nil (f_then (c_seq (c_region (wl_p I_ok rfl (wl_nil (f_then ?_))))))
      refine c_cutK (α := UInt8) [1, 3, 7, 112, 113, 114] rfl (fun z => [(8, .int .u8 (z.toNat : Int))]) (fun z u => (z = isB (x.rows[i]).is ∧ Wr u b14 p (be 1 x.kind.toNat ++ be 1 x.style.toNat ++ [x.tree].flatten ++ be 1 x.parents.length ++ x.parents.flatten ++ [x.base].flatten ++ be 1 x.rows.length ++ (x.rows.take i).flatMap chgB ++ strB 1 (x.rows[i]).path)) ∧ Blk u b1 48 (objC x a) ∧ Blk u b7 102 ((x.rows[i]).cells) ∧ Ext No w u) ?_ ?_
      ·refine c_seq ?_
       refine c_region (wl_p I_ok rfl (wl (st_ldb I_ok hb7 rfl rfl (wl_nil (f_then (c_cond rfl (fun hc => ?_) (fun hc => ?_)))))))
       ·have his : isB (x.rows[i]).is = 1 := by rw [isB, hc]; rfl
        refine c_region (wl_p I_ok rfl (wl_nil ?_))
        exact f_cut (1) rfl ⟨⟨his.symm, ⟨_, hwb, hwo⟩⟩, hb1, hb7, hX⟩
       ·have his : isB (x.rows[i]).is = 0 := by rw [isB, hc]; rfl
        refine c_skip ?_
        exact f_cut (0) rfl ⟨⟨his.symm, ⟨_, hwb, hwo⟩⟩, hb1, hb7, hX⟩
      rintro z w36 ⟨⟨rfl, ⟨k, hwb, hwo⟩⟩, hb1, hb7, hX⟩
      refine c_seq (c_region (wl_p I_ok rfl (wl (st_ld I_ok rfl (hwb.cell rfl) (wl_p I_ok rfl ?_)))))
      refine wl (st_bs I_ok rfl 1 rfl rfl rfl (by decide) (by decide) (by simp [partsOk]) (l' := bytesU [isB (x.rows[i]).is]) rfl fun b130 w37 hn130 hb130 hE37 hs37 => ?_)
      have fr130 := Nat.le_trans hX.size hn130
      have hb1 := hb1.extNo hE37
      have hb7 := hb7.extNo hE37
      have hwb := hwb.extNo hE37
      have hwo := hwo.ext hE37 fun _ _ => id
      have hX := hX.thenNo hE37
      have hX0 := hX
      refine wl (st_app I_ok rfl 1 1 rfl rfl rfl (by decide) hwo (Src.slice (m := 1) ⟨rfl, .inr ⟨b130, 0, rfl, hb130.seg⟩⟩ OneC.h) (by dsimp only [maxLen]; simp only [List.length_append, be_len, strB_len, List.length_nil, List.flatten_cons, List.flatten_nil]; omega) (by dsimp only; simp only [List.length_append, be_len, strB_len, List.length_nil, List.flatten_cons, List.flatten_nil]; omega) fun p38 c38 w38 ho38 hE38 hB38 => ?_)
      dsimp only at ho38 hE38 hB38 ⊢
      have hb1 := hb1.extOwn hwo hE38 (show (5 : Nat) ≠ 48 from by decide)
      have hb7 := hb7.extOwn hwo hE38 (show (5 : Nat) ≠ 102 from by decide)
      have hX := hX.trans hE38 fun y hy hF => by have := hpn y hF; omega
      have hwb := hwb.extOwn hwo hE38 (show (5 : Nat) ≠ 167 from by decide)
      have hn2 := newW hX0 hpn hB38
      have e3 : (be 1 x.kind.toNat ++ be 1 x.style.toNat ++ [x.tree].flatten ++ be 1 x.parents.length ++ x.parents.flatten ++ [x.base].flatten ++ be 1 x.rows.length ++ (x.rows.take i).flatMap chgB ++ strB 1 (x.rows[i]).path).length + 1 = (be 1 x.kind.toNat ++ be 1 x.style.toNat ++ [x.tree].flatten ++ be 1 x.parents.length ++ x.parents.flatten ++ [x.base].flatten ++ be 1 x.rows.length ++ (x.rows.take i).flatMap chgB ++ strB 1 (x.rows[i]).path ++ [isB (x.rows[i]).is]).length := by simp only [List.length_append, be_len, List.length_cons, List.length_nil]
      obtain ⟨p, k, e1, e2, hwo2⟩ : ∃ p k, p = p38 ∧ k = c38 ∧ Own w38 p (be 1 x.kind.toNat ++ be 1 x.style.toNat ++ [x.tree].flatten ++ be 1 x.parents.length ++ x.parents.flatten ++ [x.base].flatten ++ be 1 x.rows.length ++ (x.rows.take i).flatMap chgB ++ strB 1 (x.rows[i]).path ++ [isB (x.rows[i]).is]).length k 5 1 (bytesU (be 1 x.kind.toNat ++ be 1 x.style.toNat ++ [x.tree].flatten ++ be 1 x.parents.length ++ x.parents.flatten ++ [x.base].flatten ++ be 1 x.rows.length ++ (x.rows.take i).flatMap chgB ++ strB 1 (x.rows[i]).path ++ [isB (x.rows[i]).is])) := ⟨_, _, rfl, rfl, by
       rw [← e3, bytesU_append (be 1 x.kind.toNat ++ be 1 x.style.toNat ++ [x.tree].flatten ++ be 1 x.parents.length ++ x.parents.flatten ++ [x.base].flatten ++ be 1 x.rows.length ++ (x.rows.take i).flatMap chgB ++ strB 1 (x.rows[i]).path)]
       exact ho38⟩
      rw [← e1] at hn2
      have hpn := hn2
      rw [← e1, ← e2, e3]
      refine wl_p I_ok rfl (wl (st_st I_ok hwb rfl rfl rfl fun w39 hwb2 hE39 hs39 => ?_))
      have hwo := hwo2.extTy hE39 hwb (by decide)
      have hb1 := hb1.ext1 hE39 (hb1.ne hwb (by decide))
      have hb7 := hb7.ext1 hE39 (hb7.ne hwb (by decide))
      have hX := hX.trans hE39 fun y hy hF => by have hF : y = b14 := hF; omega
      have hwb := hwb2
      refine wl_nil (f_then (c_region (wl_p I_ok rfl (wl (st_ldb I_ok hb7 rfl rfl ?_)))))
      have hXo := hX
      refine wl (st_call Tryz.call110 rfl rfl rfl rfl rfl rfl (text_calls w39 ⟨_, hwb, hwo⟩ (x.rows[i]).text (by simp only [List.length_append, be_len, strB_len, List.length_cons, List.length_nil, List.flatten_cons, List.flatten_nil]; omega) (by omega)) fun v40 w40 hr40 => ?_)
      obtain ⟨rfl, p, hW2, hn2, hE40⟩ := hr40
      have hb1 := hb1.keepW ⟨_, hwb, hwo⟩ hE40 (by decide) (by decide)
      have hb7 := hb7.keepW ⟨_, hwb, hwo⟩ hE40 (by decide) (by decide)
      have hX := Ext.thenW hX hE40 fr14 hpn
      have hpn := newW hXo hpn hn2
      obtain ⟨k40, hwb, hwo⟩ := hW2
      refine wl_nil (f_blockN (f_then (c_region (wl_p I_ok rfl ?_))))
      rw [IntWalk.i64_in _ (by omega)]
      refine wl_nil ?_
      exact f_round (i + 1, p) rfl ⟨⟨hi, by have e : be 1 x.kind.toNat ++ be 1 x.style.toNat ++ [x.tree].flatten ++ be 1 x.parents.length ++ x.parents.flatten ++ [x.base].flatten ++ be 1 x.rows.length ++ (x.rows.take (i + 1)).flatMap chgB = be 1 x.kind.toNat ++ be 1 x.style.toNat ++ [x.tree].flatten ++ be 1 x.parents.length ++ x.parents.flatten ++ [x.base].flatten ++ be 1 x.rows.length ++ (x.rows.take i).flatMap chgB ++ strB 1 (x.rows[i]).path ++ [isB (x.rows[i]).is] ++ strB 2 (x.rows[i]).text := (by rw [flat_take hi, chgB]; simp); rw [e]; exact ⟨_, hwb, hwo⟩, hpn⟩, hb1, hX⟩ (by first | omega | (dsimp only; omega))
     ·have h0 : i = x.rows.length := by omega
      subst h0
      rw [List.take_length] at hwb hwo
      have hfl : (x.rows.flatMap chgB).length ≤ x.rows.length * 400 := flat_le fun r hr => chgB_le (hp48 r hr)
      refine c_exit (f_thenE (f_thenE (f_blockE (f_then (c_seq ?_)))))
      refine c_draw rfl 13 [(0, true), (1, true), (2, true), (3, true), (4, true), (5, true), (6, true), (8, true), (9, true), (7, false), (10, false), (11, true), (12, true)] [13] (No) (by kernel_rfl) fun w41 hE41 hs41 => ?_
      have hd1 := hb1
      have hwbd := hwb
      have hb1 := hb1.extNo hE41
      have hwb := hwb.extNo hE41
      have hwo := hwo.ext hE41 fun _ _ => id
      have hX := hX.thenNo hE41
      have hC : Ext (No) _ w41 := hE41.no
      refine wd_k I_ok 4 rfl (wd_ld I_ok rfl rfl (fun w' hw' => ((hwbd.extNo hw').cell rfl)) ?_)
      refine wd_k I_ok 1 rfl (wd_ld I_ok rfl rfl (fun w' hw' => ((hd1.extNo hw').seg.obj hx).number) ?_)
      refine wd_k I_ok 1 rfl (wd_ld I_ok rfl rfl (fun w' hw' => ((hd1.extNo hw').seg.obj hx).author) ?_)
      refine wd_l rfl (st_call Tryz.call113 rfl rfl rfl rfl rfl rfl (put32_calls w41 hwo.sl (by simp only [List.length_append, be_len, List.length_nil, List.flatten_cons, List.flatten_nil]; omega) x.number hx.number) fun v42 w42 hr42 => ⟨(by obtain ⟨bp, rfl, hnp, hbp, hE42⟩ := hr42; exact hC.thenNo hE42), ?_⟩)
      obtain ⟨bp, rfl, hnp, hbp, hE42⟩ := hr42
      have hb1 := hb1.extNo hE42
      have hwb := hwb.extNo hE42
      have hX := hX.thenNo hE42
      have hC := hC.thenNo hE42
      have hX0 := hX
      refine wd_l rfl (st_call Tryz.call113 rfl rfl rfl rfl rfl rfl (put32_calls w42 (l := be 1 x.kind.toNat ++ be 1 x.style.toNat ++ [x.tree].flatten ++ be 1 x.parents.length ++ x.parents.flatten ++ [x.base].flatten ++ be 1 x.rows.length ++ x.rows.flatMap chgB ++ be 4 x.number) (p := some ⟨bp, 0, none⟩) ⟨by rw [bytesU_len, Nat.mul_one], .inr ⟨bp, 0, rfl, hbp.seg⟩⟩ (by simp only [List.length_append, be_len, List.length_nil, List.flatten_cons, List.flatten_nil]; omega) x.author hx.author) fun v43 w43 hr43 => ⟨(by obtain ⟨bp, rfl, hnp, hbp, hE43⟩ := hr43; exact hC.thenNo hE43), ?_⟩)
      obtain ⟨bp, rfl, hnp, hbp, hE43⟩ := hr43
      have hb1 := hb1.extNo hE43
      have hwb := hwb.extNo hE43
      have hX := hX.thenNo hE43
      obtain ⟨p, k, hp, hk, hwo2⟩ : ∃ p k, p = some ⟨bp, 0, none⟩ ∧ k = (be 1 x.kind.toNat ++ be 1 x.style.toNat ++ [x.tree].flatten ++ be 1 x.parents.length ++ x.parents.flatten ++ [x.base].flatten ++ be 1 x.rows.length ++ x.rows.flatMap chgB ++ be 4 x.number ++ be 4 x.author).length ∧ Own w43 p (be 1 x.kind.toNat ++ be 1 x.style.toNat ++ [x.tree].flatten ++ be 1 x.parents.length ++ x.parents.flatten ++ [x.base].flatten ++ be 1 x.rows.length ++ x.rows.flatMap chgB ++ be 4 x.number ++ be 4 x.author).length k 5 1 (bytesU (be 1 x.kind.toNat ++ be 1 x.style.toNat ++ [x.tree].flatten ++ be 1 x.parents.length ++ x.parents.flatten ++ [x.base].flatten ++ be 1 x.rows.length ++ x.rows.flatMap chgB ++ be 4 x.number ++ be 4 x.author)) := ⟨_, _, rfl, rfl, by
       have := Own.blk (n := (be 1 x.kind.toNat ++ be 1 x.style.toNat ++ [x.tree].flatten ++ be 1 x.parents.length ++ x.parents.flatten ++ [x.base].flatten ++ be 1 x.rows.length ++ x.rows.flatMap chgB ++ be 4 x.number ++ be 4 x.author).length) (c := (be 1 x.kind.toNat ++ be 1 x.style.toNat ++ [x.tree].flatten ++ be 1 x.parents.length ++ x.parents.flatten ++ [x.base].flatten ++ be 1 x.rows.length ++ x.rows.flatMap chgB ++ be 4 x.number ++ be 4 x.author).length) hbp 1 (by rw [bytesU_len, Nat.mul_one]) (Nat.le_refl _) (by dsimp only [maxLen]; simp only [List.length_append, be_len, List.length_nil, List.flatten_cons, List.flatten_nil]; omega)
       rw [List.take_of_length_le (by rw [bytesU_len, Nat.mul_one]; exact Nat.le_refl _)] at this
       exact this⟩
      have hpn : ∀ y, OwnB p y → w.heap.size ≤ y := fun y hy => by rw [hp] at hy; have e : bp = y := congrArg Addr.block (Option.some.inj hy); have := hX0.size; omega
      rw [← hp]
      rw [show Value.slice p (be 1 x.kind.toNat ++ be 1 x.style.toNat ++ [x.tree].flatten ++ be 1 x.parents.length ++ x.parents.flatten ++ [x.base].flatten ++ be 1 x.rows.length ++ x.rows.flatMap chgB ++ be 4 x.number ++ be 4 x.author).length (be 1 x.kind.toNat ++ be 1 x.style.toNat ++ [x.tree].flatten ++ be 1 x.parents.length ++ x.parents.flatten ++ [x.base].flatten ++ be 1 x.rows.length ++ x.rows.flatMap chgB ++ be 4 x.number ++ be 4 x.author).length = .slice p (be 1 x.kind.toNat ++ be 1 x.style.toNat ++ [x.tree].flatten ++ be 1 x.parents.length ++ x.parents.flatten ++ [x.base].flatten ++ be 1 x.rows.length ++ x.rows.flatMap chgB ++ be 4 x.number ++ be 4 x.author).length k from by rw [hk]]
      refine wd_k I_ok 2 rfl (wd_sw (wb rfl (st_st I_ok hwb rfl rfl rfl fun w44 hwb2 hE44 hs44 => ?_)))
      have hwo := hwo2.extTy hE44 hwb (by decide)
      have hb1 := hb1.ext1 hE44 (hb1.ne hwb (by decide))
      have hX := hX.trans hE44 fun y hy hF => by have hF : y = b14 := hF; omega
      have hwb := hwb2
      refine wb_nil (f_then (c_region (wl_p I_ok rfl (wl (st_ld I_ok rfl (hb1.seg.obj hx).note ?_)))))
      have hXo := hX
      refine wl (st_call Tryz.call111 rfl rfl rfl rfl rfl rfl (small_calls w44 ⟨_, hwb, hwo⟩ x.note (by simp only [List.length_append, be_len, List.length_nil, List.flatten_cons, List.flatten_nil]; omega)) fun v45 w45 hr45 => ?_)
      obtain ⟨rfl, p, hW2, hn2, hE45⟩ := hr45
      have hb1 := hb1.keepW ⟨_, hwb, hwo⟩ hE45 (by decide) (by decide)
      have hX := Ext.thenW hX hE45 fr14 hpn
      have hpn := newW hXo hpn hn2
      obtain ⟨k45, hwb, hwo⟩ := hW2
      refine wl_nil ?_
      exact f_blockN (f_cut (p) rfl ⟨⟨by have e : laidB x = be 1 x.kind.toNat ++ be 1 x.style.toNat ++ [x.tree].flatten ++ be 1 x.parents.length ++ x.parents.flatten ++ [x.base].flatten ++ be 1 x.rows.length ++ x.rows.flatMap chgB ++ be 4 x.number ++ be 4 x.author ++ strB 1 x.note := (by rw [laidB, if_neg h1, if_neg h2, comB]; simp only [List.append_assoc, List.flatten_cons, List.flatten_nil, List.append_nil]); rw [e]; exact ⟨_, hwb, hwo⟩, hpn⟩, hX⟩)
    ·exact absurd hf (fields0 h1 h2 hc)
 rintro p w46 ⟨⟨⟨k, hwb, hwo⟩, hpn⟩, hX⟩
 refine c_seq (c_region (wl_p I_ok rfl (wl (st_ld I_ok rfl (hwb.cell rfl) (wl_p I_ok rfl (wl_nil (f_then (c_ret (f_ret1 rfl rfl ?_)))))))))
 exact ⟨p, k, rfl, hwo, hpn, hX⟩
end Go.Proofs.YtpcdihkcenfgkaaGreat
namespace Go.Proofs.YtpcdihkcenfgkaaGreat
open Go.Vc
/-- an object's error, its bytes, Id and links, if it may be -/
abbrev objE (x : ObjD) : Int := if ObjOk x then 0 else 160
def encB (x : ObjD) : List UInt8 := if ObjOk x then laidB x else []
theorem noOwn {n : Nat} : ∀ b, OwnB none b → n ≤ b := fun _ h => by cases h
def linksB (x : ObjD) : List (List UInt8) := if ObjOk x then linksOf x else []
theorem checkObj_calls (w : World) {x : ObjD} {a : ObjP} (hx : ObjIn x) (hxl : ObjL w x a) (hsx : Short x) :
  CallsV Tryz.prog 57 [.agg (objC x a).toArray] w fun v w' => v = .int .i64 (objE x) ∧ Ext No w w' := by
 refine calls_enter Tryz.func57 rfl rfl rfl rfl ?_
 have hX := Ext.refl No w
 refine c_seq (c_region (wl (st_al I_ok rfl fun b1 w1 hn1 hb1 hE1 => ?_)))
 have hX := hX.thenNo hE1
 have hb1 : Blk w1 b1 48 (objC x a) := hb1
 refine wl_p I_ok rfl (wl_nil (f_then (c_seq (c_cutK (α := Bool) [] rfl (fun z => [(11, .bool z)]) (fun z u => (z = decide (¬ ObjOk x)) ∧ Ext No w u) ?_ ?_))))
 ·refine c_region ?_
  refine wl (st_ldB I_ok hb1 rfl (objC_len hx) (wl (st_call Tryz.call85 rfl rfl rfl rfl rfl rfl (fielded_calls w1 hx (hxl.extNo hX) hsx) fun v2 w2 hr2 => ?_)))
  obtain ⟨rfl, hE2⟩ := hr2
  have hb1 := hb1.extNo hE2
  have hX := hX.thenNo hE2
  refine wl_p I_ok rfl (wl_case 6 rfl (fun hg => ?_) (fun hg => ?_))
  ·have hf : ¬ FieldsOk x := by simpa using hg
   refine wl_pk I_ok 5 rfl (wl_nil ?_)
   exact f_cut (true) rfl ⟨by symm; rw [decide_eq_true_eq]; exact fun h => hf h.1, hX⟩
  ·have hf : FieldsOk x := by simpa using hg
   refine wl (st_ldB I_ok hb1 rfl (objC_len hx) (wl (st_call Tryz.call86 rfl rfl rfl rfl rfl rfl (laid_calls w2 hx (hxl.extNo hX) hf) fun v3 w3 hr3 => ?_)))
   obtain ⟨q, k, rfl, hq, hqn, hE3⟩ := hr3
   have hX := hX.thenNo hE3
   refine wl_pk I_ok 3 rfl (wl_nil ?_)
   exact f_cut (_) rfl ⟨by rw [decide_eq_decide]; exact ⟨fun h hk => by have := hk.2; omega, fun h => by have : ¬ (laidB x).length ≤ 800 := fun h2 => h ⟨hf, h2⟩; omega⟩, hX⟩
 rintro z w4 ⟨rfl, hX⟩
 refine c_if rfl (fun hc => ?_) (fun hc => ?_)
 ·refine c_seq ?_
  refine c_region (wl_p I_ok rfl (wl_nil (f_then (c_ret (f_thenR (f_ret1 rfl rfl ?_))))))
  exact ⟨by rw [objE, if_neg hc], hX⟩
 ·refine c_skip ?_
  refine f_then (c_seq (c_region (wl_p I_ok rfl (wl_nil (f_then (c_ret (f_ret1 rfl rfl ?_)))))))
  exact ⟨by rw [objE, if_pos (Decidable.not_not.1 hc)], hX⟩

theorem encode_calls (w : World) {x : ObjD} {a : ObjP} (hx : ObjIn x) (hxl : ObjL w x a) (hsx : Short x) :
  CallsV Tryz.prog 62 [.agg (objC x a).toArray] w fun v w' => ∃ q k, v = .tuple #[.slice q (encB x).length k, .int .i64 (objE x)] ∧ Own w' q (encB x).length k 5 1 (bytesU (encB x)) ∧ (∀ b, OwnB q b → w.heap.size ≤ b) ∧ Ext No w w' := by
 refine calls_enter Tryz.func62 rfl rfl rfl rfl ?_
 have hX := Ext.refl No w
 refine c_seq (c_region (wl (st_al I_ok rfl fun b1 w1 hn1 hb1 hE1 => ?_)))
 have hX := hX.thenNo hE1
 have hb1 : Blk w1 b1 48 (objC x a) := hb1
 refine wl_p I_ok rfl (wl_nil (f_then (c_seq (c_seq (c_region (wl (st_ldB I_ok hb1 rfl (objC_len hx) (wl (st_call Tryz.call57 rfl rfl rfl rfl rfl rfl (checkObj_calls w1 hx (hxl.extNo hX) hsx) fun v2 w2 hr2 => ?_)))))))))
 obtain ⟨rfl, hE2⟩ := hr2
 have hb1 := hb1.extNo hE2
 have hX := hX.thenNo hE2
 refine wl_p I_ok rfl (wl_nil (f_then (c_seq (c_region (wl_p I_ok rfl (wl_nil (f_then (c_if rfl (fun hc => ?_) (fun hc => ?_)))))))))
 ·have hk : ¬ ObjOk x := fun h => hc (if_pos h)
  refine c_seq (c_region (wl_p I_ok rfl (wl_nil (f_then (c_ret (f_thenR (f_ret [_, _] ⟨rfl, rfl, trivial⟩ ?_)))))))
  exact ⟨none, 0, by rw [encB, if_neg hk]; rfl, by rw [encB, if_neg hk]; exact Own.nil _ _ _, noOwn, hX⟩
 ·have hk : ObjOk x := (if_zero (by decide)).1 (Decidable.not_not.1 hc)
  refine c_skip (f_then (c_seq (c_region (wl (st_ldB I_ok hb1 rfl (objC_len hx) ?_)))))
  have hX0 := hX
  refine wl (st_call Tryz.call86 rfl rfl rfl rfl rfl rfl (laid_calls w2 hx (hxl.extNo hX) hk.1) fun v3 w3 hr3 => ?_)
  obtain ⟨q, k, rfl, hq, hqn, hE3⟩ := hr3
  have hX := hX.thenNo hE3
  refine wl_p I_ok rfl (wl_nil (f_then (c_ret (f_ret [_, _] ⟨rfl, rfl, trivial⟩ ?_))))
  exact ⟨q, k, by rw [encB, if_pos hk, objE, if_pos hk]; rfl, by rw [encB, if_pos hk]; exact hq, fun b h => Nat.le_trans hX0.size (hqn b h), hX⟩

theorem one_idS {w : World} {b : Nat} {r : List UInt8} (h : IdIn r) (hb : Blk w b 31 (bytesU r)) : Sl w (some ⟨b, 0, none⟩) 1 32 (bytesU r) := ⟨h.len, .inr ⟨b, 0, rfl, hb.seg⟩⟩
theorem links_calls (w : World) {x : ObjD} {a : ObjP} (hx : ObjIn x) (hxl : ObjL w x a) (hsx : Short x) :
  CallsV Tryz.prog 22 [.agg (objC x a).toArray] w fun v w' => ∃ q k, v = .slice q (linksB x).length k ∧ Own w' q (linksB x).length k 31 32 ((linksB x).flatMap bytesU) ∧ (∀ b, OwnB q b → w.heap.size ≤ b) ∧ Ext No w w' := by
 refine calls_enter Tryz.func22 rfl rfl rfl rfl ?_
 have hX := Ext.refl No w
 refine c_seq (c_region (wl (st_al I_ok rfl fun b1 w1 hn1 hb1 hE1 => ?_)))
 have hX := hX.thenNo hE1
 have hb1 : Blk w1 b1 48 (objC x a) := hb1
 refine wl_p I_ok rfl (wl_nil (f_then (c_seq (c_seq (c_region (wl (st_ldB I_ok hb1 rfl (objC_len hx) (wl (st_call Tryz.call57 rfl rfl rfl rfl rfl rfl (checkObj_calls w1 hx (hxl.extNo hX) hsx) fun v2 w2 hr2 => ?_)))))))))
 obtain ⟨rfl, hE2⟩ := hr2
 have hb1 := hb1.extNo hE2
 have hX := hX.thenNo hE2
 refine wl_p I_ok rfl (wl_nil (f_then (c_if rfl (fun hc => ?_) (fun hc => ?_))))
 ·have hk : ¬ ObjOk x := fun h => hc (if_pos h)
  refine c_seq (c_region (wl_p I_ok rfl (wl_nil (f_then (c_ret (f_thenR (f_ret1 rfl rfl ?_)))))))
  exact ⟨none, 0, by rw [linksB, if_neg hk]; rfl, by rw [linksB, if_neg hk]; exact Own.nil _ _ _, noOwn, hX⟩
 ·have hk : ObjOk x := (if_zero (by decide)).1 (Decidable.not_not.1 hc)
  have he : linksB x = linksOf x := if_pos hk
  refine c_skip (f_then (c_seq (c_region (wl_p I_ok rfl (wl_nil (f_then ?_))))))
  refine c_cutK (α := Option Addr × Nat) [] rfl (fun z => [(3, .slice z.1 (linksOf x).length z.2)]) (fun z u => (Own u z.1 (linksOf x).length z.2 31 32 ((linksOf x).flatMap bytesU) ∧ ∀ b, OwnB z.1 b → w.heap.size ≤ b) ∧ Ext No w u) ?_ ?_
  ·refine c_seq ?_
   refine c_region (wl_p I_ok rfl (wl (st_ld I_ok rfl (hb1.seg.obj hx).kind (wl_nil (f_then (c_block (c_seq (c_region (wl_p I_ok rfl (wl_nil (f_then (c_if rfl (fun hc => ?_) (fun hc => ?_)))))))))))))
   ·have h2 : x.kind = 2 := hc
    refine c_seq (c_region (wl_p I_ok rfl (wl (st_ld I_ok rfl (hb1.seg.obj hx).leaves (wl_p I_ok rfl (wl_nil (f_then (c_block ?_))))))))
    refine c_loopK (α := Nat × Option Addr × Nat) [14, 15] rfl (fun z => [(3, .slice z.2.1 z.1 z.2.2), (16, .int .i64 (z.1 : Int))]) (fun z u => (z.1 ≤ x.leaves.length ∧ Own u z.2.1 z.1 z.2.2 31 32 (((x.leaves.take z.1).map LeafD.id).flatMap bytesU) ∧ (∀ y, OwnB z.2.1 y → w.heap.size ≤ y)) ∧ Ext No w u) (fun z u => x.leaves.length - z.1) (0, none, 0) rfl ⟨⟨Nat.zero_le _, Own.nil _ _ _, noOwn⟩, hX⟩ ?_
    rintro ⟨i, q, k⟩ w3 ⟨⟨hi, hq, hqn⟩, hX⟩
    try dsimp only
    dsimp only at hi hq hqn
    refine c_seq (c_region (wl_p I_ok rfl (wl_nil (f_then (c_seq (c_if rfl (fun hc => ?_) (fun hc => ?_)))))))
    ·have hi : i < x.leaves.length := by omega
     obtain ⟨qb, qoff, hp, hsq⟩ := hxl.leaves.rowAll (fun r hr => LeafD.len (hx.leaves r hr).2) (by omega)
     rw [hp]
     have hll := hsx.leaves
     have ha1 := hx.leaves _ (List.getElem_mem hi)
     refine c_skip (f_then (c_seq (c_block (c_seq (c_region (wl (st_ix I_ok rfl 33 rfl i rfl (by omega) (qoff + i * 33) rfl (wl (st_ldN I_ok rfl ((hsq i hi).extNo hX) (LeafD.len ha1.2) (wl (st_al I_ok rfl fun b5 w4 hn5 hb5 hE4 => ?_)))))))))))
     have fr5 := Nat.le_trans hX.size hn5
     have hq := hq.ext hE4 fun _ _ => id
     have hX := hX.thenNo hE4
     have hb5o := hb5
     refine wl (st_stW (l' := (x.leaves[i]).cells) I_ok hb5 rfl rfl (LeafD.len ha1.2) (LeafD.len ha1.2) OneC.h fun w5 hb5 hE5 hs5 => ?_)
     have hq := hq.extTy hE5 hb5o (by decide)
     have hX := hX.thenNew hE5 fr5
     refine wl_nil (f_then (c_region (wl_p I_ok rfl (wl (st_ldN I_ok rfl (by have := hb5.seg.drop 1; exact this) (IdIn.len ha1.2) ?_)))))
     have ha5 : IdIn (x.leaves[i]).id := ha1.2
     refine wl (st_bs I_ok rfl 32 rfl idZ_c.symm (by rw [bytesU_len]; rfl) (by decide) (by decide) ⟨⟨by rw [cellsOf_agg]; exact (IdIn.len ha1.2), by decide⟩, trivial⟩ (l' := bytesU (x.leaves[i]).id) (one_id ha1.2) fun b23 w6 hn23 hb23 hE6 hs6 => ?_)
     have hq := hq.ext hE6 fun _ _ => id
     have hX := hX.thenNo hE6
     have hX0 := hX
     refine wl (st_app I_ok rfl 32 32 rfl rfl rfl (by decide) hq (Src.slice (m := 1) (one_idS ha5 hb23) OneC.h) (by dsimp only [maxLen]; omega) (by dsimp only; omega) fun p7 c7 w7 ho7 hE7 hB7 => ?_)
     dsimp only at ho7 hE7 hB7 ⊢
     have hX := hX0.trans hE7 fun y hy hF => by have := hqn y hF; omega
     have hqn2 := newW hX0 hqn hB7
     have hq2 : Own w7 p7 (i + 1) c7 31 32 (((x.leaves.take (i + 1)).map LeafD.id).flatMap bytesU) := by
      have e1 : ((x.leaves.take (i + 1)).map LeafD.id).flatMap bytesU = ((x.leaves.take i).map LeafD.id).flatMap bytesU ++ bytesU (x.leaves[i]).id := by
       rw [List.take_succ_eq_append_getElem hi, List.map_append, List.flatMap_append]
       simp
      rw [e1]
      exact ho7
     refine wl_p I_ok rfl (wl_nil (f_blockN (f_then (c_region (wl_p I_ok rfl ?_)))))
     rw [IntWalk.i64_in _ (by omega)]
     refine wl_nil ?_
     exact f_round (i + 1, p7, c7) rfl ⟨⟨hi, hq2, hqn2⟩, hX⟩ (by first | omega | (dsimp only; omega))
    ·have h0 : i = x.leaves.length := by omega
     subst h0
     rw [List.take_length] at hq
     have e2 : linksOf x = x.leaves.map LeafD.id := by rw [linksOf, if_pos h2]
     have e3 : (linksOf x).length = x.leaves.length := by rw [e2, List.length_map]
     refine c_exit ?_
     exact f_thenE (f_thenE (f_blockE (f_blockN (f_cut (q, k) (by rw [e3]; rfl) ⟨⟨by rw [e3, e2]; exact hq, hqn⟩, hX⟩))))
   ·have h2 : ¬ x.kind = 2 := hc
    refine c_seq (c_region (wl_p I_ok rfl (wl_nil (f_then (c_if rfl (fun hc => ?_) (fun hc => ?_))))))
    ·have h3 : x.kind = 3 := hc
     have hpl := hsx.parents
     have e2 : linksOf x = x.tree :: x.parents := by rw [linksOf, if_neg h2, if_pos h3]
     have e3 : 1 + x.parents.length = (linksOf x).length := by rw [e2, List.length_cons]; omega
     refine c_draw rfl 9 [(0, true), (1, true), (2, true), (5, true), (6, true), (3, false), (4, false), (7, false), (8, true)] [] (No) (by kernel_rfl) fun w8 hE8 hs8 => ?_
     have hd1 := hb1
     have hX := hX.thenNo hE8
     have hC : Ext (No) _ w8 := hE8.no
     refine wd_k I_ok 2 rfl (wd_ldN I_ok rfl rfl (fun w' hw' => ((hd1.extNo hw').seg.obj hx).tree) (IdIn.len hx.tree) ?_)
     refine wd_k I_ok 1 rfl (wd_ld I_ok rfl rfl (fun w' hw' => ((hd1.extNo hw').seg.obj hx).parents) ?_)
     have ha5 : IdIn x.tree := hx.tree
     refine wd_l rfl (st_bs I_ok rfl 32 rfl idZ_c.symm (by rw [bytesU_len]; rfl) (by decide) (by decide) ⟨⟨by rw [cellsOf_agg]; exact (IdIn.len hx.tree), by decide⟩, trivial⟩ (l' := bytesU x.tree) (one_id hx.tree) fun b31 w9 hn31 hb31 hE9 hs9 => ⟨hC.thenNo hE9, ?_⟩)
     have hX := hX.thenNo hE9
     have hC := hC.thenNo hE9
     have hX0 := hX
     have hC0 := hC
     refine wd_l rfl (st_app I_ok rfl 32 32 rfl rfl rfl (by decide) (Own.nil _ _ _) (Src.slice (m := 1) (one_idS ha5 hb31) OneC.h) (by dsimp only [maxLen]; omega) (by dsimp only; omega) fun p10 c10 w10 ho10 hE10 hB10 => ⟨hC.trans hE10 (fun y hy hF => (by cases hF)), ?_⟩)
     have hC := hC.trans hE10 (fun y hy hF => (by cases hF))
     dsimp only at ho10 hE10 hB10 ⊢
     have hX := hX0.trans hE10 fun y hy hF => by cases hF
     have hn1 : ∀ y, OwnB p10 y → w.heap.size ≤ y := fun y hy => (hB10 y hy).elim (fun h => by cases h) fun h => Nat.le_trans hX0.size h
     have hnc : ∀ y, OwnB p10 y → _ := fun y hy => (hB10 y hy).elim (fun h => by cases h) fun h => Nat.le_trans hC0.size h
     have ho1 : Own w10 p10 1 c10 31 32 (bytesU x.tree) := by have := ho10; rw [List.nil_append] at this; exact this
     have hX0 := hX
     refine wd_l rfl (st_app I_ok rfl 32 32 rfl rfl rfl (by decide) ho1 (Src.slice (hxl.parents.extNo hX) OneC.h) (by dsimp only [maxLen]; omega) (by dsimp only; omega) fun p11 c11 w11 ho11 hE11 hB11 => ⟨hC.trans hE11 (fun y hy hF => (by have := hnc y hF; omega)), ?_⟩)
     dsimp only at ho11 hE11 hB11 ⊢
     have hX := hX0.trans hE11 fun y hy hF => by have := hn1 y hF; omega
     have hqn2 := newW hX0 hn1 hB11
     rw [e3] at ho11 ⊢
     refine wd_k I_ok 1 rfl (wd_sw (wb_nil ?_))
     exact f_blockN (f_cut (p11, c11) rfl ⟨⟨by rw [show (linksOf x).flatMap bytesU = bytesU x.tree ++ x.parents.flatMap bytesU from by rw [e2]; rfl]; exact ho11, hqn2⟩, hX⟩)
    ·have h3 : ¬ x.kind = 3 := hc
     have e2 : linksOf x = [] := by rw [linksOf, if_neg h2, if_neg h3]
     refine c_skip ?_
     exact f_blockN (f_cut (none, 0) (by rw [e2]; rfl) ⟨⟨by rw [e2]; exact Own.nil _ _ _, noOwn⟩, hX⟩)
  rintro ⟨q, k⟩ w12 ⟨⟨hq, hqn⟩, hX⟩
  try dsimp only
  dsimp only at hq hqn
  refine c_seq (c_region (wl_p I_ok rfl (wl_nil (f_then (c_ret (f_ret1 rfl rfl ?_))))))
  exact ⟨q, k, by rw [he], by rw [he]; exact hq, hqn, hX⟩
end Go.Proofs.YtpcdihkcenfgkaaGreat
namespace Go.Vc
abbrev idV (x : List UInt8) : Value := .agg (bytesU x).toArray
theorem idV_inj {x y : List UInt8} (h : idV x = idV y) : x = y := by
 injection h with h
 exact bytesU_inj (by simpa using h)
/-- a map in memory, by what stands in it -/
def MapB {β : Type} (w : World) (r : Nat) (enc : β → Value) (f : List UInt8 → Option β) : Prop :=
  ∃ es clock, w.heap[r]? = some (.map es clock) ∧ (∀ e ∈ es.toList, ∃ x b, x.length = 32 ∧ e.key = idV x ∧ e.val = enc b ∧ f x = some b) ∧
    (∀ x b, f x = some b → ∃ e ∈ es.toList, e.key = idV x) ∧ (es.toList.map (·.key)).Nodup ∧ (∀ e ∈ es.toList, e.born < clock) ∧ (es.toList.map (·.born)).Nodup
/-- a type of digests may be a key's -/
structure IdKey (P : Program) (k : TypeId) : Prop where
  law : WideMaps.KeyLaw P k
  key : ∀ x : List UInt8, x.length = 32 → ∃ l, keyOf P k (idV x) = some l
theorem MapB.lt {β : Type} {w : World} {r : Nat} {enc : β → Value} {f : List UInt8 → Option β} (h : MapB w r enc f) : r < w.heap.size := by
 obtain ⟨es, c, h, _⟩ := h
 rcases Nat.lt_or_ge r w.heap.size with h' | h'
 ·exact h'
 ·rw [Array.getElem?_eq_none h'] at h; cases h
theorem MapB.ext {β : Type} {S : Nat → Prop} {w w' : World} {r : Nat} {enc : β → Value} {f : List UInt8 → Option β} (h : MapB w r enc f) (hE : Ext S w w') (hS : ¬ S r) : MapB w' r enc f := by
 have hlt := h.lt
 obtain ⟨es, c, h, r1⟩ := h
 exact ⟨es, c, (hE.same r hlt hS).trans h, r1⟩
theorem MapB.extNo {β : Type} {w w' : World} {r : Nat} {enc : β → Value} {f : List UInt8 → Option β} (h : MapB w r enc f) (hE : Ext No w w') : MapB w' r enc f := h.ext hE id
theorem MapB.ne {β : Type} {w : World} {r b T : Nat} {L : List Value} {enc : β → Value} {f : List UInt8 → Option β} (h : MapB w r enc f) (hb : Blk w b T L) : r ≠ b := fun e => by
 obtain ⟨es, c, h, _⟩ := h
 rw [e] at h
 rw [Blk, h] at hb
 cases hb
theorem MapB.ext1 {β : Type} {w w' : World} {r b T : Nat} {L : List Value} {enc : β → Value} {f : List UInt8 → Option β} (h : MapB w r enc f) (hE : Ext (One b) w w') (hb : Blk w b T L) : MapB w' r enc f := h.ext hE (h.ne hb)
theorem MapB.extOwn {β : Type} {w w' : World} {r : Nat} {enc : β → Value} {f : List UInt8 → Option β} (h : MapB w r enc f) {p : Option Addr} {n c T sz : Nat} {xs : List Value} (ho : Own w p n c T sz xs) (hE : Ext (OwnB p) w w') : MapB w' r enc f :=
 h.ext hE fun hx => by
  rcases ho with ⟨hp, _⟩ | ⟨b, l, hp, hb, _⟩
  ·rw [hp] at hx; cases hx
  ·rw [hp] at hx
   obtain rfl : b = r := by simpa using hx
   exact h.ne hb rfl

section
variable {P : Program} {I : Info} {f : Fs} {ops : Array Oper} {o : Oper} {env : Env} {w : World} {K : Env → World → Prop}

theorem ext_setMap {w : World} {r : Nat} {es : Array MapEntry} {c : Nat} (h : w.heap[r]? = some (.map es c)) (es' : Array MapEntry) (c' : Nat) :
  Ext (One r) w { w with heap := w.heap.setIfInBounds r (.map es' c') } ∧ ({ w with heap := w.heap.setIfInBounds r (.map es' c') } : World).heap.size = w.heap.size ∧ ({ w with heap := w.heap.setIfInBounds r (.map es' c') } : World).heap[r]? = some (.map es' c') := by
 have hlt : r < w.heap.size := by
  rcases Nat.lt_or_ge r w.heap.size with h' | h'
  ·exact h'
  ·rw [Array.getElem?_eq_none h'] at h; cases h
 refine ⟨⟨rfl, rfl, rfl, by simp, fun b hb hS => ?_, Nat.le_refl _⟩, by simp, by simp [hlt]⟩
 exact Array.getElem?_setIfInBounds_ne (fun e' => hS e'.symm)

/-- a map is made -/
def mmE (n : Nat) (ops : Array Oper) (env : Env) (o : Oper) : Option Nat :=
  match pre n ops env o with
  | false => none
  | true => match o.dst with
    | some d => match o.op with
      | .makeMap _ none => some d
      | _ => none
    | none => none
theorem st_mm {β : Type} (enc : β → Value) {d : Nat} (h : mmE f.n ops env o = some d)
  (k : ∀ (r : Nat) w', w.heap.size ≤ r → MapB w' r enc (fun _ => none) → Ext No w w' → w'.heap.size = w.heap.size + 1 → K ((d, .map (some r)) :: env) w') : St P f ops o env w K := by
 unfold mmE at h
 split at h
 ·cases h
 ·rename_i hp
  obtain ⟨h1, h2⟩ := pre_eq hp
  split at h
  ·rename_i d' hd
   split at h
   ·rename_i t ho
    cases h
    refine st_v h1 h2 (v := .map (some w.heap.size)) (w' := w.alloc (.map #[] 0)) (fun ρ hρ => ?_) ?_
    ·simp only [execOp, ho, Option.map_none, Sem.run_bind]
     rfl
    ·rw [hd]
     refine k _ _ (Nat.le_refl _) ⟨#[], 0, ?_, ?_, ?_, ?_, ?_, ?_⟩ ⟨rfl, rfl, rfl, by simp, fun b hb _ => ?_, Nat.le_refl _⟩ (by simp)
     ·show (w.heap.push _)[w.heap.size]? = _
      simp
     ·intro e he; simp at he
     ·intro x b hb; cases hb
     ·simp
     ·intro e he; simp at he
     ·simp
     ·show (w.heap.push _)[b]? = _
      rw [Array.getElem?_push, if_neg (by omega)]
   ·cases h
  ·cases h

/-- what stands under a key -/
def luE (I : Info) (n : Nat) (ops : Array Oper) (env : Env) (o : Oper) : Option (Nat × Value × Nat × Value × Bool × Nat) :=
  match pre n ops env o with
  | false => none
  | true => match o.dst with
    | some d => match o.op with
      | .lookup t x j ok => match lkT I t with
        | some y => match y.desc with
          | .map k e => match lkT I e with
            | some g => match evO env x with
              | some (.map (some r)) => match evO env j with
                | some v => some (k, g.zero, r, v, ok, d)
                | none => none
              | _ => none
            | none => none
          | _ => none
        | none => none
      | _ => none
    | none => none
theorem MapB.keys {β : Type} {k : TypeId} (hK : IdKey P k) {es : List MapEntry} {enc : β → Value} {g : List UInt8 → Option β} (h : ∀ e ∈ es, ∃ x b, x.length = 32 ∧ e.key = idV x ∧ e.val = enc b ∧ g x = some b) : ∀ e ∈ es, ∃ l, keyOf P k e.key = some l := fun e he => by
 obtain ⟨x, b, hx, h1, _⟩ := h e he
 rw [h1]
 exact hK.key x hx
def tell {β : Type} (enc : β → Value) (z : Value) (o : Option β) : Value := match o with | some b => enc b | none => z
theorem st_lu {β : Type} (hI : I.Ok P) {k r d : Nat} {z v : Value} {ok : Bool} (h : luE I f.n ops env o = some (k, z, r, v, ok, d)) (hK : IdKey P k) {x : List UInt8} (hx : x.length = 32) (hv : v = idV x) {enc : β → Value} {g : List UInt8 → Option β} (hm : MapB w r enc g)
  (kk : K ((d, if ok then .tuple #[tell enc z (g x), .bool (g x).isSome] else tell enc z (g x)) :: env) w) : St P f ops o env w K := by
 subst hv
 unfold luE at h
 split at h
 ·cases h
 ·rename_i hp
  obtain ⟨h1, h2⟩ := pre_eq hp
  split at h
  ·rename_i d' hd
   split at h
   ·rename_i t xx j ok' ho
    split at h
    ·rename_i y hy
     split at h
     ·rename_i k' e he
      split at h
      ·rename_i gg hgg
       split at h
       ·rename_i r' hxx
        split at h
        ·rename_i v' hj
         simp only [Option.some.injEq, Prod.mk.injEq] at h
         obtain ⟨rfl, rfl, rfl, rfl, rfl, rfl⟩ := h
         have hu := (hI.get hy).under w
         rw [he] at hu
         have hz := (hI.get hgg).zeroValue w
         obtain ⟨es, c, hh, a1, a2, a3, _⟩ := hm
         obtain ⟨l, hl⟩ := hK.key x hx
         have hfind := hK.law.find w hl es.toList (MapB.keys hK a1)
         have hchk := hK.law.check w es.isEmpty hl
         refine st_v h1 h2 (w' := w) (v := if ok' then .tuple #[tell enc gg.zero (g x), .bool (g x).isSome] else tell enc gg.zero (g x)) (fun ρ hρ => ?_) (by rw [hd]; exact kk)
         have hlook : (Instr.lookup t (.map (some r')) (idV x) ok').run P w = .ok (if ok' then .tuple #[tell enc gg.zero (g x), .bool (g x).isSome] else tell enc gg.zero (g x)) w := by
          unfold Instr.lookup
          rw [run_under_bind hu]
          rcases hfind with ⟨f1, f2⟩ | ⟨j', e0, f1, f2, f3⟩
          ·have hg : g x = none := by
            cases hgx : g x with
            | none => rfl
            | some b =>
             obtain ⟨e, he, hk⟩ := a2 x b hgx
             exact absurd hk (f2 e he)
           simp only [Sem.run_bind, MapKept.run_getObj_map hh, Sem.run_pure, Result.andThen_ok, hchk, f1, hz, hg, tell, Option.isSome]
          ·have hmem : e0 ∈ es.toList := List.mem_of_getElem? f2
           obtain ⟨x', b, _, k1, k2, k3⟩ := a1 e0 hmem
           have : x' = x := idV_inj (k1.symm.trans f3)
           subst this
           simp only [Sem.run_bind, MapKept.run_getObj_map hh, Sem.run_pure, Result.andThen_ok, hchk, f1, k2, k3, tell, Option.isSome]
         simp only [execOp, ho, hρ _ _ hxx, hρ _ _ hj, Sem.run_bind, hlook, Result.andThen_ok, Sem.run_pure]
        ·cases h
       ·cases h
      ·cases h
     ·cases h
    ·cases h
   ·cases h
  ·cases h

/-- what is set under a key -/
def muE (I : Info) (n : Nat) (ops : Array Oper) (env : Env) (o : Oper) : Option (Nat × Nat × Value × Value) :=
  match pre n ops env o with
  | false => none
  | true => match o.dst with
    | none => match o.op with
      | .mapUpdate t x j u => match lkT I t with
        | some y => match y.desc with
          | .map k _ => match evO env x with
            | some (.map (some r)) => match evO env j with
              | some v => match evO env u with
                | some b => some (k, r, v, b)
                | none => none
              | none => none
            | _ => none
          | _ => none
        | none => none
      | _ => none
    | some _ => none
def setM {β : Type} (g : List UInt8 → Option β) (x : List UInt8) (b : β) : List UInt8 → Option β := fun y => if y = x then some b else g y
theorem st_mu {β : Type} (hI : I.Ok P) {k r : Nat} {v u : Value} (h : muE I f.n ops env o = some (k, r, v, u)) (hK : IdKey P k) {x : List UInt8} (hx : x.length = 32) (hv : v = idV x) {enc : β → Value} {g : List UInt8 → Option β} (hm : MapB w r enc g) {b : β} (hb : u = enc b)
  (kk : ∀ w', MapB w' r enc (setM g x b) → Ext (One r) w w' → w'.heap.size = w.heap.size → K env w') : St P f ops o env w K := by
 subst hv
 subst hb
 unfold muE at h
 split at h
 ·cases h
 ·rename_i hp
  obtain ⟨h1, h2⟩ := pre_eq hp
  split at h
  ·rename_i hd
   split at h
   ·rename_i t xx j uu ho
    split at h
    ·rename_i y hy
     split at h
     ·rename_i k' e he
      split at h
      ·rename_i r' hxx
       split at h
       ·rename_i v' hj
        split at h
        ·rename_i u' huu
         simp only [Option.some.injEq, Prod.mk.injEq] at h
         obtain ⟨rfl, rfl, rfl, rfl⟩ := h
         have hu := (hI.get hy).under w
         rw [he] at hu
         obtain ⟨es, c, hh, a1, a2, a3, a4, a5⟩ := hm
         obtain ⟨l, hl⟩ := hK.key x hx
         have hfind := hK.law.find w hl es.toList (MapB.keys hK a1)
         have hchk := hK.law.check w false hl
         obtain ⟨es', c', hr, hM⟩ : ∃ es' c', (Instr.mapUpdate t (.map (some r')) (idV x) (enc b)).run P w = .ok () { w with heap := w.heap.setIfInBounds r' (.map es' c') } ∧
           ((∀ e ∈ es'.toList, ∃ y b', y.length = 32 ∧ e.key = idV y ∧ e.val = enc b' ∧ setM g x b y = some b') ∧ (∀ y b', setM g x b y = some b' → ∃ e ∈ es'.toList, e.key = idV y) ∧ (es'.toList.map (·.key)).Nodup ∧ (∀ e ∈ es'.toList, e.born < c') ∧ (es'.toList.map (·.born)).Nodup) := by
          rcases hfind with ⟨f1, f2⟩ | ⟨j', e0, f1, f2, f3⟩
          ·refine ⟨es.push ⟨idV x, enc b, c⟩, c + 1, ?_, ?_, ?_, ?_, ?_, ?_⟩
           ·unfold Instr.mapUpdate
            rw [run_under_bind hu]
            simp [MapKept.run_getObj_map hh, hchk, f1, MapKept.run_setObj_map _ hh, Result.andThen]
           ·intro e he
            simp only [Array.toList_push, List.mem_append, List.mem_singleton] at he
            rcases he with he | rfl
            ·obtain ⟨y, b', q1, q2, q3, q4⟩ := a1 e he
             refine ⟨y, b', q1, q2, q3, ?_⟩
             rw [setM, if_neg fun e1 => f2 e he (by rw [q2, e1])]
             exact q4
            ·exact ⟨x, b, hx, rfl, rfl, if_pos rfl⟩
           ·intro y b' hy'
            by_cases e1 : y = x
            ·exact ⟨⟨idV x, enc b, c⟩, by simp, by rw [e1]⟩
            ·rw [setM, if_neg e1] at hy'
             obtain ⟨e, he, hk⟩ := a2 y b' hy'
             exact ⟨e, by simp [Array.mem_toList_iff.1 he], hk⟩
           ·rw [Array.toList_push, List.map_append, List.nodup_append]
            refine ⟨a3, by simp, fun q hq q' hq' e1 => ?_⟩
            simp only [List.map_cons, List.map_nil, List.mem_singleton] at hq'
            obtain ⟨e, he, rfl⟩ := List.mem_map.1 hq
            exact f2 e he (e1.trans hq')
           ·intro e he
            simp only [Array.toList_push, List.mem_append, List.mem_singleton] at he
            rcases he with he | rfl
            ·exact Nat.lt_succ_of_lt (a4 e he)
            ·exact Nat.lt_succ_self c
           ·rw [Array.toList_push, List.map_append, List.nodup_append]
            refine ⟨a5, by simp, fun q hq q' hq' e1 => ?_⟩
            simp only [List.map_cons, List.map_nil, List.mem_singleton] at hq'
            obtain ⟨e, he, rfl⟩ := List.mem_map.1 hq
            have := a4 e he
            omega
          ·have hj' : es[j']? = some e0 := by simpa using f2
           have hjl : j' < es.toList.length := (List.getElem?_eq_some_iff.1 f2).1
           have hlist : (es.modify j' (fun e' => { e' with key := idV x, val := enc b })).toList = es.toList.set j' { e0 with key := idV x, val := enc b } := by rw [Array.toList_modify, ChangeMaps.modify_eq_set _ _ _ _ f2]
           have hkeys : (es.toList.set j' { e0 with key := idV x, val := enc b }).map (·.key) = es.toList.map (·.key) := by
            rw [List.map_set]
            refine List.ext_getElem? fun i => ?_
            rw [List.getElem?_set]
            split
            ·rename_i hij
             subst hij
             rw [List.getElem?_map, f2]
             have hjs : j' < es.size := by simpa using hjl
             simp [hjs, f3]
            ·rfl
           have hmem : e0 ∈ es.toList := List.mem_of_getElem? f2
           have hborn : (es.toList.set j' { e0 with key := idV x, val := enc b }).map (·.born) = es.toList.map (·.born) := by
            rw [List.map_set]
            refine List.ext_getElem? fun i => ?_
            rw [List.getElem?_set]
            split
            ·rename_i hij
             subst hij
             rw [List.getElem?_map, f2]
             have hjs : j' < es.size := by simpa using hjl
             simp [hjs]
            ·rfl
           refine ⟨es.modify j' (fun e' => { e' with key := idV x, val := enc b }), c, ?_, ?_, ?_, ?_, ?_, ?_⟩
           ·unfold Instr.mapUpdate
            rw [run_under_bind hu]
            simp [MapKept.run_getObj_map hh, hchk, f1, hj', f3, hK.law.stays w hl, MapKept.run_setObj_map _ hh, Result.andThen]
           ·rw [hlist]
            intro e he
            obtain ⟨i, hi, rfl⟩ := List.mem_iff_getElem.1 he
            rw [List.length_set] at hi
            by_cases hij : j' = i
            ·subst hij
             rw [List.getElem_set_self]
             exact ⟨x, b, hx, rfl, rfl, if_pos rfl⟩
            ·rw [List.getElem_set_ne hij]
             obtain ⟨y, b', q1, q2, q3, q4⟩ := a1 _ (List.getElem_mem hi)
             refine ⟨y, b', q1, q2, q3, ?_⟩
             rw [setM, if_neg fun e1 => ?_]
             ·exact q4
             ·rw [e1, ← f3] at q2
              have h6 := List.pairwise_iff_getElem.1 a3
              have h7 := (List.getElem?_eq_some_iff.1 f2).2
              rcases Nat.lt_or_gt_of_ne hij with hlt | hlt
              ·refine h6 j' i (by simpa using hjl) (by simpa using hi) hlt ?_
               simp only [List.getElem_map]
               rw [h7, q2]
              ·refine h6 i j' (by simpa using hi) (by simpa using hjl) hlt ?_
               simp only [List.getElem_map]
               rw [h7, q2]
           ·rw [hlist]
            intro y b' hy'
            by_cases e1 : y = x
            ·exact ⟨{ e0 with key := idV x, val := enc b }, List.mem_iff_getElem.2 ⟨j', by rw [List.length_set]; exact hjl, List.getElem_set_self _⟩, by rw [e1]⟩
            ·rw [setM, if_neg e1] at hy'
             obtain ⟨e, he, hk⟩ := a2 y b' hy'
             have : e.key ∈ (es.toList.set j' { e0 with key := idV x, val := enc b }).map (·.key) := by rw [hkeys]; exact List.mem_map.2 ⟨e, he, rfl⟩
             obtain ⟨e', he', hk'⟩ := List.mem_map.1 this
             exact ⟨e', he', hk'.trans hk⟩
           ·rw [hlist, hkeys]
            exact a3
           ·rw [hlist]
            intro e he
            have : e.born ∈ (es.toList.set j' { e0 with key := idV x, val := enc b }).map (·.born) := List.mem_map.2 ⟨e, he, rfl⟩
            rw [hborn] at this
            obtain ⟨e', he', hk'⟩ := List.mem_map.1 this
            rw [← hk']
            exact a4 e' he'
           ·rw [hlist, hborn]
            exact a5
         obtain ⟨m1, m2, m3⟩ := ext_setMap hh es' c'
         refine st_s h1 h2 (fun ρ hρ => ?_) (by rw [hd]; exact kk _ ⟨es', c', m3, hM⟩ m1 m2)
         simp only [execOp, ho, hρ _ _ hxx, hρ _ _ hj, hρ _ _ huu, Sem.run_bind, hr, Result.andThen_ok, Sem.run_pure]
        ·cases h
       ·cases h
      ·cases h
     ·cases h
    ·cases h
   ·cases h
  ·cases h
end
end Go.Vc
namespace Go.Vc

/-- the widest fence, in a round or in none -/
inductive WideF : Fence → Prop where
  | none : WideF Fence.wide
  | round (l : Nat) : WideF (Fence.wide.inRound l)
section
variable {F : Fence} {n : Nat} {P : Program}
theorem WideF.fn (h : WideF F) (g : FuncId) : F.fn g := by cases h <;> trivial
theorem WideF.depth (h : WideF F) : F.depth.isSome = true → 1 ≤ n := by cases h <;> (intro h; cases h)
theorem WideF.calls (h : WideF F) {f : FuncId} {args : Array Value} {w : World} {R : Ending → World → Prop} (hc : Calls P f args w R) : CallsIn F n P f args w R := by
 cases h with
 | none => exact callsIn_wide.2 hc
 | round l => exact (callsIn_wide (n := n)).2 hc
theorem WideF.rows (h : WideF F) {row : String} {args : Array Value} {w : World} {R : Value → World → Prop} (hc : Rows P row args w R) : RowsIn F n P row args w R := by
 have key : RowsIn Fence.wide n P row args w R := fun c cs _ => by
  obtain ⟨v, w', r, s⟩ := hc c cs
  exact ⟨v, w', r, stepsIn_wide.2 s⟩
 cases h with
 | none => exact key
 | round l => exact key
def nd : Op → Bool
  | .defer _ => false
  | _ => true
theorem upon_in (hF : WideF F) {o : Oper} {a : Act} {next : Act → World → Prop} {Q : Exit → Act → World → Prop} {r : Result Next} (h : o.upon P a next (fun _ _ _ => False) r) : o.uponIn F n P a next Q r := by
 cases r with
 | ok x w' =>
  cases x <;> simp only [Oper.upon, Oper.uponIn] at h ⊢
  all_goals first
   | exact h
   | exact h.elim
   | exact ⟨hF.depth, (hF.calls h).mono fun e w' he => by
     cases e
     ·exact he
     ·exact he.elim
     ·obtain ⟨_, _, hf⟩ := he
      exact hf.elim⟩
   | exact ⟨hF.depth, hF.rows h⟩
 | halt x w' =>
  cases x <;> simp only [Oper.upon] at h ⊢
  all_goals first
   | exact h
   | exact h.elim
end

/-- a list of operations, walked within a fence -/
def WLI (F : Fence) (n : Nat) (P : Program) (f : Fs) (ops : Array Oper) (Q : XPost) (l : List Oper) (env : Env) (w : World) : Prop := ∀ a, Ag f env a → wpListIn F n P ops Q l a w
section
variable {F : Fence} {n : Nat} {P : Program} {I : Info} {f : Fs} {ops : Array Oper} {Q : XPost} {o : Oper} {rest l : List Oper} {env : Env} {w : World}
theorem wli (hF : WideF F) (hnd : nd o.op = true) (h : St P f ops o env w (WLI F n P f ops Q rest)) : WLI F n P f ops Q (o :: rest) env w := by
 intro a ha
 have h1 := h a (fun _ _ _ => False) (wpListIn F n P ops Q rest) ha fun _ a' _ ha' k => k a' ha'
 unfold wpListIn
 split at h1
 ·rename_i hw
  rw [if_pos hw]
  rcases h1 with h1 | ⟨_, _, _, hf⟩
  ·refine ⟨fun g _ => hF.fn g, ?_⟩
   rw [Oper.semAt_eq _ _ _ (fun c e => by rw [e] at hnd; cases hnd)]
   exact upon_in hF h1
  ·exact hf.elim
 ·rename_i hw
  rw [if_neg hw]
  exact ⟨fun g _ => hF.fn g, h1⟩
theorem wli_nil (h : Fin f Q .normal env w) : WLI F n P f ops Q [] env w := fun a ha => h a ha
def nds (l : List Oper) : Bool := l.all fun o => nd o.op
theorem nds_cons (h : nds (o :: l) = true) : nd o.op = true ∧ nds l = true := by simpa [nds] using h
theorem wli_p (hF : WideF F) (hI : I.Ok P) {l' : List Oper} {env' : Env} (hn : nds l = true) (h : pevs I f.n l env = some (l', env')) (k : WLI F n P f ops Q l' env' w) : WLI F n P f ops Q l env w := by
 induction l generalizing env with
 | nil => simp [pevs] at h; obtain ⟨rfl, rfl⟩ := h; exact k
 | cons o r ih =>
  simp only [pevs] at h
  split at h
  ·simp at h; obtain ⟨rfl, rfl⟩ := h; exact k
  ·rename_i hg
   split at h
   ·simp at h; obtain ⟨rfl, rfl⟩ := h; exact k
   ·rename_i v hv
    split at h
    ·rename_i e he
     obtain ⟨hd, rfl⟩ := pushO_eq he
     exact wli hF (nds_cons hn).1 (st_v (by simp [takes, hg]) hd (pev_sound hI hv w) (ih (nds_cons hn).2 h))
    ·cases h
theorem wli_pk (hF : WideF F) (hI : I.Ok P) (m : Nat) {l' : List Oper} {env' : Env} (hn : nds l = true) (h : pevsN I f.n ops m l env = some (l', env')) (k : WLI F n P f ops Q l' env' w) : WLI F n P f ops Q l env w := by
 induction m generalizing env l with
 | zero => simp [pevsN] at h; obtain ⟨rfl, rfl⟩ := h; exact k
 | succ m ih =>
  cases l with
  | nil => simp [pevsN] at h; obtain ⟨rfl, rfl⟩ := h; exact k
  | cons o r =>
   simp only [pevsN] at h
   split at h
   ·rename_i hp
    split at h
    ·rename_i e he
     obtain ⟨hd, rfl⟩ := pushO_eq he
     exact wli hF (nds_cons hn).1 (st_pass hp hd (ih (nds_cons hn).2 h))
    ·cases h
   ·split at h
    ·cases h
    ·rename_i ht
     split at h
     ·cases h
     ·rename_i v hv
      split at h
      ·rename_i e he
       obtain ⟨hd, rfl⟩ := pushO_eq he
       exact wli hF (nds_cons hn).1 (st_v ht hd (pev_sound hI hv w) (ih (nds_cons hn).2 h))
      ·cases h
theorem wli_case (d : Nat) {b : Bool} (hd : lk env d = some (.bool b)) (ht : b = true → WLI F n P f ops Q l ((d, .bool true) :: env) w) (hf : b = false → WLI F n P f ops Q l ((d, .bool false) :: env) w) : WLI F n P f ops Q l env w := by
 cases b
 ·exact fun a ha => hf rfl a ⟨ha.defers, ha.size, fun i u hi => by
   rw [lk_cons] at hi
   split at hi
   ·rename_i e; subst e; simp at hi; subst hi; exact ha.get _ _ hd
   ·exact ha.get _ _ hi⟩
 ·exact fun a ha => ht rfl a ⟨ha.defers, ha.size, fun i u hi => by
   rw [lk_cons] at hi
   split at hi
   ·rename_i e; subst e; simp at hi; subst hi; exact ha.get _ _ hd
   ·exact ha.get _ _ hi⟩
theorem c_regionI {id : Nat} {l : List Oper} (h : WLI Fence.wide 9 P f l.toArray Q l env w) : WC P f (.region id l.toArray false) Q env w := fun a ha => wpIn_wide.1 (wpIn_region_lit (h a ha))

/-- the call of a yield -/
theorem wli_yield {g : Nat} {x : Operand} {xs : Array Operand} {ts : Array TypeId} {d : Nat} {vs : List Value} {R : Bool → World → Prop} (ho : o.op = .call { callee := .value x, args := xs, argTypes := ts })
  (hg : takes ops env o = true) (hd : o.dst = some d) (hdn : Nat.blt d f.n = true) (hx : evO env x = some (.func (.yield g) #[] #[])) (hvs : evs env xs.toList = some vs)
  (hY : YieldAt Fence.wide (n - 1) P g vs.toArray w fun e w' => ∃ b, e = .returned (.bool b) ∧ R b w') (k : ∀ b w', R b w' → WLI Fence.wide n P f ops Q rest ((d, .bool b) :: env) w') : WLI Fence.wide n P f ops Q (o :: rest) env w := by
 intro a ha
 unfold wpListIn
 rw [if_pos (takes_wanted ha hg)]
 have hevs : ∀ (l : List Operand) vs, evs env l = some vs → l.map a.eval = vs := by
  intro l
  induction l with
  | nil => intro vs h; simp [evs] at h; subst h; rfl
  | cons y r ih =>
   intro vs h
   simp only [evs] at h
   split at h
   ·rename_i u hu
    split at h
    ·rename_i l' hl'
     simp at h; subst h
     simp [ha.eval hu, ih _ hl']
    ·simp at h
   ·simp at h
 have h1 : xs.map a.eval = vs.toArray := by
  apply Array.ext'
  rw [Array.toList_map, hevs _ _ hvs]
 obtain ⟨fn, tmps, assign, body, hr, hR⟩ := hY
 have hrun : (execOp a.eval o).run P w = .ok (.round g fn tmps assign body) w := by
  simp only [execOp, ho, resolve, h1, ha.eval hx, Deferred.ofValue, Sem.run_bind, Sem.run_pure, Result.andThen_ok, invoke]
  simpa using hr
 refine ⟨fun _ _ => trivial, ?_⟩
 rw [Oper.semAt_eq _ _ _ (fun c e => by rw [ho] at e; cases e), hrun, Oper.uponIn_round]
 refine ⟨fun h => (by cases h), hR.mono ?_⟩
 rintro e w' ⟨b, rfl, hb⟩
 refine k b w' hb _ ?_
 have := ha.put (dst := some d) (v := .bool b) (by rw [dOk]; exact hdn)
 rw [hd]
 exact this
end

/-! ### The loop's record, and worlds -/
def notCells : Obj → Bool
  | .cells .. => false
  | _ => true
theorem Ext.putObj {w : World} {r : Nat} {o : Obj} (_ : w.heap[r]? = some o) (_ : notCells o = true) {o' : Obj} (_ : notCells o' = true) : Ext (One r) w (w.putObj r o') :=
 ⟨rfl, rfl, rfl, by simp, fun b _ hS => World.putObj_heap_other hS, Nat.le_refl _⟩
theorem Ext.allocObj (w : World) {o : Obj} (_ : notCells o = true) : Ext No w (w.alloc o) := by
 refine ⟨rfl, rfl, rfl, by simp, fun b hb _ => ?_, Nat.le_refl _⟩
 show (w.heap.push _)[b]? = _
 rw [Array.getElem?_push, if_neg (by omega)]
/-- a function's contract, where its body holds such a statement -/
theorem calls_enterM {P : Program} {g : FuncId} {fn : Func} {c : Code} {args : List Value} {w : World} {R : Value → World → Prop} {n : Nat} {env : Env}
  (hf : P.funcs[g]? = some fn) (hb : fn.body = some c) (hn : fn.ntmps = n) (hl : Nat.ble args.length n = true) (he : envO 0 args = some env) (h : WC P ⟨n, []⟩ c (bodyPostM Fence.wide 9 P fn (Rv R)) env w) : CallsV P g args w R := by
 refine callsIn_wide.1 (callsIn_of_wp_marks (n := 9) hf hb trivial (wpIn_wide.2 (h _ ⟨rfl, ?_, fun i v hi => ?_⟩)))
 ·have : args.length ≤ n := Nat.le_of_ble_eq_true hl
  simp only [hn, Array.size_append, List.size_toArray, Array.size_replicate]
  omega
 ·have := (envO_lk he i v hi).2
  simp only [Nat.sub_zero] at this
  have hlt : i < args.length := by
   rcases Nat.lt_or_ge i args.length with h' | h'
   ·exact h'
   ·simp [List.getElem?_eq_none h'] at this
  simp only [hn]
  rw [Array.getElem?_append_left (by simpa using hlt)]
  simpa using this
/-- one round: the assignment, the body -/
def WCI (F : Fence) (n : Nat) (P : Program) (f : Fs) (c : Code) (Q : XPost) (env : Env) (w : World) : Prop := ∀ a, Ag f env a → c.wpIn F n P Q a w
section
variable {F : Fence} {n : Nat} {P : Program} {f : Fs} {Q : XPost} {env : Env} {w : World}
theorem ci_region {id : Nat} {l : List Oper} (h : WLI F n P f l.toArray Q l env w) : WCI F n P f (.region id l.toArray false) Q env w := fun a ha => wpIn_region_lit (h a ha)
theorem ci_block {id : Nat} {c : Code} (h : WCI F n P f c (Exit.inBlock id Q) env w) : WCI F n P f (.block id c) Q env w := fun a ha => wpIn_block (h a ha)
end
end Go.Vc
namespace Go.Vc
section
variable {P : Program} {I : Info} {f : Fs} {ops : Array Oper} {Q : XPost} {o : Oper} {rest l : List Oper} {env : Env} {w : World}
theorem wlw (hnd : nd o.op = true) (h : St P f ops o env w (WLI Fence.wide 9 P f ops Q rest)) : WLI Fence.wide 9 P f ops Q (o :: rest) env w := wli .none hnd h
theorem wlw_p (hn : nds l = true) (hI : I.Ok P) {l' : List Oper} {env' : Env} (h : pevs I f.n l env = some (l', env')) (k : WLI Fence.wide 9 P f ops Q l' env' w) : WLI Fence.wide 9 P f ops Q l env w := wli_p .none hI hn h k
theorem wlw_pk (hn : nds l = true) (hI : I.Ok P) (m : Nat) {l' : List Oper} {env' : Env} (h : pevsN I f.n ops m l env = some (l', env')) (k : WLI Fence.wide 9 P f ops Q l' env' w) : WLI Fence.wide 9 P f ops Q l env w := wli_pk .none hI m hn h k
theorem wlw_case (d : Nat) {b : Bool} (hd : lk env d = some (.bool b)) (ht : b = true → WLI Fence.wide 9 P f ops Q l ((d, .bool true) :: env) w) (hf : b = false → WLI Fence.wide 9 P f ops Q l ((d, .bool false) :: env) w) : WLI Fence.wide 9 P f ops Q l env w := wli_case d hd ht hf
end
end Go.Vc
namespace Go.Vc
section
variable {P : Program} {l : Nat} {r : Loop} {w : World}
theorem begin_round (h : w.heap[l]? = some (.loop r)) (hr : r.state = .ready) {Q : World → Prop} (k : ∀ w', Ext (One l) w w' → w'.heap[l]? = some (.loop { r with state := .busy }) → Q w') : ∃ w2, (Instr.beginRound l).run P w = .ok () w2 ∧ Q w2 :=
 ⟨_, run_beginRound h hr, k _ (Ext.putObj h rfl rfl) (World.putObj_heap_same (Array.getElem?_eq_some_iff.1 h).1)⟩
end
end Go.Vc
namespace Go.Vc
theorem objC_set {o : ObjD} {a : ObjP} (h : ObjIn o) (i : Nat) (v : Value) : (objC o a).set (68 + i) v =
  [.int .i64 o.kind, strV o.text, .slice a.lp o.leaves.length a.lc, .int .i64 o.style] ++ (bytesU o.tree ++ (bytesU o.base ++
   ([.slice a.pp o.parents.length a.pc, .slice a.rp o.rows.length a.rc, .int .u32 (o.number : Int), .int .u32 (o.author : Int), strV o.note] : List Value).set i v)) := by
 have e1 : 68 + i - 4 - 32 - 32 = i := by omega
 rw [objC, List.set_append_right _ _ (by simp; omega), List.set_append_right _ _ (by rw [bytesU_len, h.tree]; simp; omega), List.set_append_right _ _ (by rw [bytesU_len, bytesU_len, h.tree, h.base]; simp; omega), bytesU_len, bytesU_len, h.tree, h.base]
 rw [show 68 + i - ([.int .i64 o.kind, strV o.text, .slice a.lp o.leaves.length a.lc, .int .i64 o.style] : List Value).length - 32 - 32 = i from e1]
end Go.Vc
namespace Go.Vc
abbrev noP : ObjP := ⟨none, 0, none, 0, none, 0⟩
structure HeldT where
  id : List UInt8
  o : ObjD
  a : ObjP
def heldC (h : HeldT) : List Value := bytesU h.id ++ objC h.o h.a
instance (h : HeldT) : OneC (heldC h) := by unfold heldC; infer_instance
theorem heldC_len {h : HeldT} (hi : h.id.length = 32) (ho : ObjIn h.o) : (heldC h).length = 105 := by
 rw [heldC, List.length_append, bytesU_len, hi, objC_len ho]
abbrev blobO (t : Str) : ObjD := { objZ with kind := 1, text := t }
abbrev treeO (l : List LeafD) : ObjD := { objZ with kind := 2, leaves := l }
theorem blobO_in (t : Str) : ObjIn (blobO t) := ⟨objZ_in.tree, objZ_in.base, objZ_in.parents, objZ_in.leaves, objZ_in.rows, objZ_in.number, objZ_in.author⟩
theorem blob_ok {t : Str} (h : t.length ≤ 256) : ObjOk (blobO t) := by
 refine ⟨.inl ⟨rfl, h, rfl, rfl, rfl, rfl, rfl, rfl, rfl, rfl, rfl⟩, ?_⟩
 have e : laidB (blobO t) = be 1 1 ++ strB 2 t := rfl
 rw [e, List.length_append, be_len, strB, List.length_append, be_len]
 omega
def leafOf (r : RowD) : LeafD := ⟨r.path, idOf (blobO r.text)⟩
def leavesOf (l : List RowD) : List LeafD := l.map leafOf
/-- a text more, if its Id is new -/
def addB (acc : List HeldT) (r : RowD) : List HeldT := if idOf (blobO r.text) ∈ acc.map HeldT.id then acc else acc ++ [⟨idOf (blobO r.text), blobO r.text, noP⟩]
theorem leavesOf_take {l : List RowD} {i : Nat} (h : i < l.length) : (leavesOf l).take (i + 1) = (leavesOf l).take i ++ [leafOf l[i]] := by
 rw [List.take_succ_eq_append_getElem (by rw [leavesOf, List.length_map]; exact h)]
 simp [leavesOf]
/-- which Ids have come -/
def metF (l : List HeldT) : List UInt8 → Option Bool := fun x => if x ∈ l.map HeldT.id then some true else none
theorem idOf_len (o : ObjD) : (idOf o).length = 32 := sumW_len _
theorem leavesOf_in {l : List RowD} (h : ∀ r ∈ l, r.path.length ≤ maxLen) : ∀ x ∈ leavesOf l, x.path.length ≤ maxLen ∧ x.id.length = 32 := fun x hx => by
 obtain ⟨r, hr, rfl⟩ := List.mem_map.1 hx
 exact ⟨h r hr, idOf_len _⟩
theorem treeO_in {l : List LeafD} (h : ∀ x ∈ l, x.path.length ≤ maxLen ∧ x.id.length = 32) : ObjIn (treeO l) := ⟨objZ_in.tree, objZ_in.base, objZ_in.parents, h, objZ_in.rows, objZ_in.number, objZ_in.author⟩
theorem Own.extMap {β : Type} {w w' : World} {p : Option Addr} {n c T sz : Nat} {xs : List Value} (ho : Own w p n c T sz xs) {r : Nat} {enc : β → Value} {g : List UInt8 → Option β} (hm : MapB w r enc g) (hE : Ext (One r) w w') : Own w' p n c T sz xs :=
 ho.ext hE fun x hx e => by
  have e : x = r := e
  subst e
  obtain ⟨l, hl⟩ := ho.blkAt hx
  exact hm.ne hl rfl
theorem Blk.extMap {β : Type} {w w' : World} {b T : Nat} {L : List Value} (hb : Blk w b T L) {r : Nat} {enc : β → Value} {g : List UInt8 → Option β} (hm : MapB w r enc g) (hE : Ext (One r) w w') : Blk w' b T L := hb.ext1 hE (hm.ne hb).symm
section
variable {T1 T2 N : Nat} {w w' : World}
end
end Go.Vc
namespace Go.Vc
theorem Own.opened {w : World} {p : Option Addr} {n c T sz : Nat} {xs : List Value} (h : Own w p n c T sz xs) (hn : 0 < n) : ∃ b l, p = some ⟨b, 0, none⟩ ∧ Blk w b T l ∧ l.length = c * sz ∧ n ≤ c ∧ c ≤ maxLen ∧ l.take (n * sz) = xs := by
 rcases h with ⟨_, h, _, _⟩ | ⟨b, l, hp, hb, hl, hn', hc, hx⟩
 ·omega
 ·exact ⟨b, l, hp, hb, hl, hn', hc, hx⟩
/-- one cell of its rows is written -/
theorem Own.setB {w : World} {b n c T sz : Nat} {l xs : List Value} {k : Nat} {v : Value} (hl : l.length = c * sz) (hn : n ≤ c) (hc : c ≤ maxLen) (hx : l.take (n * sz) = xs) (hb : Blk w b T (l.set k v)) : Own w (some ⟨b, 0, none⟩) n c T sz (xs.set k v) :=
 .inr ⟨b, _, rfl, hb, by rw [List.length_set, hl], hn, hc, by rw [List.take_set, hx]⟩
theorem flat_set {α : Type} {f : α → List Value} {n : Nat} {l : List α} (hn : ∀ x ∈ l, (f x).length = n) {i j : Nat} (hi : i < l.length) (hj : j < n) {v : Value} {y : α} (hy : f y = (f l[i]).set j v) : (l.flatMap f).set (i * n + j) v = (l.set i y).flatMap f := by
 have h := rows_put (Uni.map hn) (i := i) (j := j) (r := f l[i]) (by rw [List.getElem?_map, List.getElem?_eq_getElem hi]; rfl) [v] (by simp; omega)
 rw [List.flatMap_def, List.flatMap_def, List.map_set, hy]
 exact h
/-- the first so many are done -/
def upto {α : Type} (g : α → α) (i : Nat) (l : List α) : List α := (l.take i).map g ++ l.drop i
theorem upto_zero {α : Type} (g : α → α) (l : List α) : upto g 0 l = l := by simp [upto]
theorem upto_len {α : Type} (g : α → α) (i : Nat) (l : List α) : (upto g i l).length = l.length := by simp [upto]; omega
theorem upto_all {α : Type} {g : α → α} {i : Nat} {l : List α} (h : l.length ≤ i) : upto g i l = l.map g := by
 simp [upto, List.take_of_length_le h, List.drop_eq_nil_of_le h]
theorem upto_get {α : Type} {g : α → α} {i : Nat} {l : List α} (h : i < l.length) : (upto g i l)[i]'(by rw [upto_len]; exact h) = l[i] := by
 have e : ((l.take i).map g).length = i := by simp; omega
 simp only [upto]
 rw [List.getElem_append_right (by rw [e]; exact Nat.le_refl _)]
 rw [List.getElem_drop]
 congr 1
 omega
theorem upto_step {α : Type} {g : α → α} {i : Nat} {l : List α} (h : i < l.length) : (upto g i l).set i (g l[i]) = upto g (i + 1) l := by
 have e : ((l.take i).map g).length = i := by simp; omega
 simp only [upto]
 rw [List.set_append, if_neg (by omega), e, Nat.sub_self, List.drop_eq_getElem_cons h, List.set_cons_zero, List.take_succ_eq_append_getElem h, List.map_append, List.append_assoc]
 rfl
theorem upto_mem {α : Type} {g : α → α} {i : Nat} {l : List α} {p : α → Prop} (h : ∀ x ∈ l, p x) (hg : ∀ x, p x → p (g x)) : ∀ x ∈ upto g i l, p x := fun x hx => by
 simp only [upto, List.mem_append, List.mem_map] at hx
 rcases hx with ⟨y, hy, rfl⟩ | hx
 ·exact hg y (h y (List.mem_of_mem_take hy))
 ·exact h x (List.mem_of_mem_drop hx)
theorem strU_cut (l : Str) (n : Nat) : (strU l).extract 0 (min (strU l).size n) = strU (l.take n) := by
 apply ByteArray.ext
 show ((strU l).extract 0 (min (strU l).size n)).data = (l.take n).toArray
 rw [ByteArray.data_extract, strU_size]
 show l.toArray.extract 0 (min l.length n) = _
 rw [List.extract_toArray]
 congr 1
 simp only [List.extract, Nat.sub_zero, List.drop_zero]
 rw [List.take_eq_take_iff]
 omega
theorem minI (n k : Nat) : (if (k : Int) < (n : Int) then (k : Int) else (n : Int)) = ((min n k : Nat) : Int) := by split <;> omega
theorem cutBds (n k : Nat) : Bds.Is ⟨none, some (if (k : Int) < (n : Int) then (k : Int) else (n : Int)), none⟩ n n 0 (min n k) n :=
 ⟨.inr ⟨rfl, rfl⟩, .inl (congrArg some (minI n k)), .inr ⟨rfl, rfl⟩, Nat.zero_le _, by omega, Nat.le_refl _⟩
theorem min_take {α : Type} (l : List α) (k : Nat) : min l.length k = (l.take k).length := by simp [Nat.min_comm]
theorem Sl.cut {α : Type} {w : World} {p : Option Addr} {f : α → List Value} {n : Nat} {l : List α} (h : Sl w p l.length n (l.flatMap f)) (hn : ∀ x ∈ l, (f x).length = n) (k : Nat) : Sl w p (l.take k).length n ((l.take k).flatMap f) := by
 have h1 := h.slice 0 (min l.length k) (min l.length k) (Nat.zero_le _) (Nat.le_refl _) (by omega)
 have e : ((l.flatMap f).drop (0 * n)).take ((min l.length k - 0) * n) = (l.take k).flatMap f := by
  rw [Nat.zero_mul, List.drop_zero, Nat.sub_zero, List.flatMap_def, List.flatMap_def, rows_take (Uni.map hn), ← List.map_take]
  congr 2
  rw [List.take_eq_take_iff]
  omega
 rw [e, slBase_zero, Nat.sub_zero, min_take] at h1
 exact h1

def cutT (o : ObjD) : ObjD := { o with text := o.text.take 257 }
def cutN (o : ObjD) : ObjD := { cutT o with note := o.note.take 201 }
theorem cutT_in {o : ObjD} (h : ObjIn o) : ObjIn (cutT o) := ⟨h.tree, h.base, h.parents, h.leaves, h.rows, h.number, h.author⟩
theorem cutN_in {o : ObjD} (h : ObjIn o) : ObjIn (cutN o) := ⟨h.tree, h.base, h.parents, h.leaves, h.rows, h.number, h.author⟩
end Go.Vc
namespace Go.Proofs.YtpcdihkcenfgkaaGreat
open Go.Vc
theorem _root_.Go.Vc.Own.extOwn {w w' : World} {p q : Option Addr} {n c T sz m d U sy : Nat} {xs ys : List Value} (h : Own w p n c T sz xs) (ho : Own w q m d U sy ys) (hE : Ext (OwnB q) w w') (hT : U ≠ T) : Own w' p n c T sz xs :=
 h.ext hE fun x hx hy => by
  obtain ⟨l, hl⟩ := h.blkAt hx
  exact ho.neTy hy hl hT rfl
/-- rows of one's own, that were not there before -/
structure ObjNew (W0 w : World) (o : ObjD) (a : ObjP) : Prop where
  ol : Own w a.lp o.leaves.length a.lc 50 33 (o.leaves.flatMap LeafD.cells)
  op : Own w a.pp o.parents.length a.pc 31 32 (o.parents.flatMap bytesU)
  or : Own w a.rp o.rows.length a.rc 102 3 (o.rows.flatMap ChgD.cells)
  nl : ∀ x, OwnB a.lp x → W0.heap.size ≤ x
  np : ∀ x, OwnB a.pp x → W0.heap.size ≤ x
  nr : ∀ x, OwnB a.rp x → W0.heap.size ≤ x
theorem ObjNew.extNo {W0 w w' : World} {o : ObjD} {a : ObjP} (h : ObjNew W0 w o a) (hE : Ext No w w') : ObjNew W0 w' o a := ⟨h.ol.ext hE fun _ _ => id, h.op.ext hE fun _ _ => id, h.or.ext hE fun _ _ => id, h.nl, h.np, h.nr⟩
theorem ObjNew.ext1 {W0 w w' : World} {o : ObjD} {a : ObjP} (h : ObjNew W0 w o a) {b T : Nat} {L : List Value} (hE : Ext (One b) w w') (hb : Blk w b T L) (h1 : 50 ≠ T) (h2 : 31 ≠ T) (h3 : 102 ≠ T) : ObjNew W0 w' o a := ⟨h.ol.extTy hE hb h1, h.op.extTy hE hb h2, h.or.extTy hE hb h3, h.nl, h.np, h.nr⟩
theorem ObjNew.l {W0 w : World} {o : ObjD} {a : ObjP} (h : ObjNew W0 w o a) : ObjL w o a := ⟨h.ol.sl, h.op.sl, h.or.sl⟩
theorem ObjNew.older {W0 W1 w : World} {o : ObjD} {a : ObjP} (h : ObjNew W1 w o a) (hX : W0.heap.size ≤ W1.heap.size) : ObjNew W0 w o a := ⟨h.ol, h.op, h.or, fun x hx => Nat.le_trans hX (h.nl x hx), fun x hx => Nat.le_trans hX (h.np x hx), fun x hx => Nat.le_trans hX (h.nr x hx)⟩
theorem leafZ_c : cellsOf ti50.zero = LeafD.cells ⟨[], idZ⟩ := by kernel_rfl
theorem chgZ_c : cellsOf ti102.zero = ChgD.cells ⟨[], false, []⟩ := by kernel_rfl
theorem leaf_put {p : Str} {i j : List UInt8} (hi : i.length = 32) (hj : j.length = 32) : put (LeafD.cells ⟨p, i⟩) 1 (bytesU j) = LeafD.cells ⟨p, j⟩ := by
 rw [put_eq _ _ _ (by simp [LeafD.cells, bytesU_len, hi, hj])]
 simp [LeafD.cells, bytesU_len, hi, hj]
theorem one_leaf {r : LeafD} (h : r.id.length = 32) : putAll (rep 1 (LeafD.cells ⟨[], idZ⟩)) [(0 * (0 + 33), 0 + 33, .agg r.cells.toArray)] = r.cells := by
 simp only [putAll, cellsOf_agg]
 rw [Nat.zero_mul, put_whole (by rw [rep_length, LeafD.len h]; rfl)]
theorem idK : IdKey Tryz.prog 31 := by
 refine ⟨deep_law (m := 10) (by omega) kId (by kernel_rfl) (by simp only [uId]), fun x hx => ?_⟩
 have h0 : Nat.blt 0 Tryz.prog.types.size = true := by kernel_rfl
 obtain ⟨d, hd⟩ : ∃ d, Tryz.prog.types.size + 1 = d + 2 := by
  generalize Tryz.prog.types.size = n at h0 ⊢
  cases n with
  | zero => cases h0
  | succ n => exact ⟨n, rfl⟩
 have h1 : Tryz.prog.keyType 31 = true := by kernel_rfl
 have h2 : Tryz.prog.keyLits (Tryz.prog.types.size + 1) 31 (bytesU x) = some (idLits x) := by rw [hd]; exact lits_bytes uId cId uByte cByte hx
 refine ⟨.string (keyBytes (idLits x)), ?_⟩
 unfold keyOf
 rw [uId]
 have h3 : (Tryz.prog.keyType 31 && (idV x).formed Tryz.prog 31) = true := by rw [h1, idForm hx]; rfl
 simp only [h3, if_true]
 show (Tryz.prog.keyLits (Tryz.prog.types.size + 1) 31 (bytesU x)).map _ = _
 rw [h2]
 rfl
theorem leaf_build {p : Str} {i : List UInt8} (hi : i.length = 32) : putAll (LeafD.cells ⟨[], idZ⟩) [(0, 1, strV p), (1, 32, .agg (bytesU i).toArray)] = LeafD.cells ⟨p, i⟩ := by
 have e : putAll (LeafD.cells ⟨[], idZ⟩) [(0, 1, strV p), (1, 32, .agg (bytesU i).toArray)] = put (LeafD.cells ⟨p, idZ⟩) 1 (bytesU i) := by simp only [putAll, cellsOf_agg]; rfl
 rw [e]
 exact leaf_put rfl hi
theorem heldZ_c : cellsOf ti84.zero = bytesU idZ ++ objC objZ noP := by kernel_rfl
theorem held_build {i : List UInt8} {o : ObjD} {a : ObjP} (hi : i.length = 32) (ho : ObjIn o) : putAll (bytesU idZ ++ objC objZ noP) [(0, 32, .agg (bytesU i).toArray), (32, 73, .agg (objC o a).toArray)] = heldC ⟨i, o, a⟩ := by
 simp only [putAll, cellsOf_agg, heldC]
 rw [put_eq _ 0 _ (by rw [List.length_append, bytesU_len, bytesU_len, hi, objC_len objZ_in]; decide), bytesU_len, hi]
 have e1 : (bytesU idZ ++ objC objZ noP).drop (0 + 32) = objC objZ noP := List.drop_left' (by rw [bytesU_len]; rfl)
 rw [e1, List.take_zero, List.nil_append]
 have l1 : (bytesU i).length = 32 := by rw [bytesU_len, hi]
 rw [put_eq _ 32 _ (by rw [List.length_append, l1, objC_len objZ_in, objC_len ho]; exact Nat.le_refl _), objC_len ho, List.take_left' l1, List.drop_of_length_le (by rw [List.length_append, l1, objC_len objZ_in]; exact Nat.le_refl _), List.append_nil]
theorem objZ_sh : Short objZ := ⟨by decide, by decide, by decide, fun _ h => absurd h List.not_mem_nil, fun _ h => absurd h List.not_mem_nil⟩
theorem blob_sh (t : Str) : Short (blobO t) := ⟨objZ_sh.leaves, objZ_sh.parents, objZ_sh.rows, objZ_sh.leafP, objZ_sh.rowP⟩
theorem blob_l (w : World) (t : Str) : ObjL w (blobO t) noP := ⟨Sl.nil _ _ _, Sl.nil _ _ _, Sl.nil _ _ _⟩
theorem rows_at {l : List RowD} (h : RowsOk l) : l.length ≤ 32 ∧ ∀ r ∈ l, r.path.length ≤ 48 ∧ r.text.length ≤ 256 :=
 ⟨by have := h.2.1; rwa [List.length_map] at this, fun r hr => ⟨rises_at h.2 (List.mem_map.2 ⟨r, hr, rfl⟩), Nat.not_lt.1 fun ht => h.1 ⟨r, hr, ht⟩⟩⟩
end Go.Proofs.YtpcdihkcenfgkaaGreat
namespace Go.Proofs.YtpcdihkcenfgkaaGreat
open Go.Vc
theorem tree_sh {l : List LeafD} (h1 : l.length < 1000000000) (h2 : ∀ r ∈ l, r.path.length < 1000000000) : Short (treeO l) := ⟨h1, objZ_sh.parents, objZ_sh.rows, h2, objZ_sh.rowP⟩
abbrev lfP (p : Option Addr) (c : Nat) : ObjP := ⟨p, c, none, 0, none, 0⟩
abbrev treeOf (l : List RowD) : ObjD := treeO (leavesOf l)
theorem held_id {w : World} {b off : Nat} {h : HeldT} (hs : Seg w b off (heldC h)) : Seg w b off (bytesU h.id) := (Seg.append.1 hs).1
theorem one_held {h : HeldT} (hl : (heldC h).length = 105) : putAll (rep 1 (bytesU idZ ++ objC objZ noP)) [(0 * (0 + 105), 0 + 105, .agg (heldC h).toArray)] = heldC h := by
 simp only [putAll, cellsOf_agg]
 rw [Nat.zero_mul, put_whole (by rw [rep_length, hl]; rfl)]
structure HeldIn (w : World) (h : HeldT) : Prop where
  id : h.id.length = 32
  o : ObjIn h.o
  sh : Short h.o
  l : ObjL w h.o h.a
theorem HeldIn.c {w : World} {h : HeldT} (k : HeldIn w h) : (heldC h).length = 105 := heldC_len k.id k.o
theorem HeldIn.extNo {w w' : World} {h : HeldT} (k : HeldIn w h) (hE : Ext No w w') : HeldIn w' h := ⟨k.id, k.o, k.sh, k.l.extNo hE⟩
theorem held_obj {w : World} {b off : Nat} {h : HeldT} (hs : Seg w b off (heldC h)) (hid : h.id.length = 32) : Seg w b (off + 32) (objC h.o h.a) := by
 have h1 := (Seg.append.1 hs).2
 rw [bytesU_len, hid] at h1
 exact h1
end Go.Proofs.YtpcdihkcenfgkaaGreat
namespace Go.Proofs.YtpcdihkcenfgkaaGreat
open Go.Vc
theorem nilS {t : Str} : strU t = ByteArray.mk #[] ↔ t = [] := ⟨fun h => strU_inj (b := []) h, fun h => by rw [h]; rfl⟩
theorem none6_calls (w : World) {x : ObjD} {a : ObjP} (hx : ObjIn x) (_hxl : ObjL w x a) (_hsx : Short x) :
  CallsV Tryz.prog 114 [.agg (objC x a).toArray] w fun v w' => v = .bool (decide (NoCom x)) ∧ Ext No w w' := by
 refine calls_enter Tryz.func114 rfl rfl rfl rfl ?_
 have hX := Ext.refl No w
 refine c_seq (c_region (wl (st_al I_ok rfl fun b1 w1 hn1 hb1 hE1 => ?_)))
 have hX := hX.thenNo hE1
 have hb1 : Blk w1 b1 48 (objC x a) := hb1
 have oa := hb1.seg.obj hx
 refine wl_p I_ok rfl (wl_nil (f_then (c_cutK (α := Bool) [] rfl (fun z => [(2, .bool z)]) (fun z u => (z = decide (NoCom x)) ∧ Ext No w u) ?_ ?_)))
 ·refine c_region ?_
  refine wl_p I_ok rfl (wl (st_ld I_ok rfl oa.style (wl_p I_ok rfl (wl_caseD 6 rfl (fun hg => ?_) (fun hg => ?_)))))
  ·have n1 : x.style = 0 := by first | exact hg | omega
   refine wl_pk I_ok 1 rfl (wl (st_ldN I_ok rfl oa.tree (IdIn.len hx.tree) (wl (st_bd I_ok rfl trivial (l' := bytesU idZ) idZ_c.symm ?_))))
   refine wl (st_eqK rfl gId 10 (by decide) kId (idForm hx.tree) (idForm idZ_in) (idKey hx.tree) (idKey idZ_in) idLits_inj ?_)
   simp only [if_true]
   refine wl_p I_ok rfl (wl_caseD 12 rfl (fun hg => ?_) (fun hg => ?_))
   ·have n2 : x.tree = idZ := by first | exact hg | omega
    refine wl_pk I_ok 1 rfl (wl (st_ldN I_ok rfl oa.base (IdIn.len hx.base) (wl (st_bd I_ok rfl trivial (l' := bytesU idZ) idZ_c.symm ?_))))
    refine wl (st_eqK rfl gId 10 (by decide) kId (idForm hx.base) (idForm idZ_in) (idKey hx.base) (idKey idZ_in) idLits_inj ?_)
    simp only [if_true]
    refine wl_p I_ok rfl (wl_caseD 18 rfl (fun hg => ?_) (fun hg => ?_))
    ·have n3 : x.base = idZ := by first | exact hg | omega
     refine wl_pk I_ok 1 rfl (wl (st_ld I_ok rfl oa.parents (wl_pk I_ok 4 rfl (wl_caseD 24 rfl (fun hg => ?_) (fun hg => ?_)))))
     ·have n4 : x.parents.length = 0 := by first | exact hg | omega
      refine wl_pk I_ok 2 rfl (wl (st_ld I_ok rfl oa.rows (wl_pk I_ok 4 rfl (wl_caseD 31 rfl (fun hg => ?_) (fun hg => ?_)))))
      ·have n5 : x.rows.length = 0 := by first | exact hg | omega
       refine wl_pk I_ok 1 rfl (wl (st_ld I_ok rfl oa.number (wl_pk I_ok 3 rfl (wl_caseD 36 rfl (fun hg => ?_) (fun hg => ?_)))))
       ·have n6 : x.number = 0 := by first | exact hg | omega
        refine wl_pk I_ok 1 rfl (wl (st_ld I_ok rfl oa.author (wl_pk I_ok 3 rfl (wl_caseD 41 rfl (fun hg => ?_) (fun hg => ?_)))))
        ·have n7 : x.author = 0 := by first | exact hg | omega
         refine wl_pk I_ok 1 rfl (wl (st_ld I_ok rfl oa.note (wl_pk I_ok 3 rfl (wl_nil ?_))))
         exact f_cut (_) rfl ⟨by rw [decide_eq_decide, nilS]; exact ⟨fun h => ⟨n1, n2, n3, n4, n5, n6, n7, h⟩, fun h => h.2.2.2.2.2.2.2⟩, hX⟩
        ·have n7 : ¬ x.author = 0 := by first | exact hg | omega
         refine wl_pk I_ok 5 rfl (wl_nil ?_)
         exact f_cut (false) rfl ⟨by symm; rw [decide_eq_false_iff_not]; exact fun h => n7 h.2.2.2.2.2.2.1, hX⟩
       ·have n6 : ¬ x.number = 0 := by first | exact hg | omega
        refine wl_pk I_ok 10 rfl (wl_nil ?_)
        exact f_cut (false) rfl ⟨by symm; rw [decide_eq_false_iff_not]; exact fun h => n6 h.2.2.2.2.2.1, hX⟩
      ·have n5 : ¬ x.rows.length = 0 := by first | exact hg | omega
       refine wl_pk I_ok 15 rfl (wl_nil ?_)
       exact f_cut (false) rfl ⟨by symm; rw [decide_eq_false_iff_not]; exact fun h => n5 h.2.2.2.2.1, hX⟩
     ·have n4 : ¬ x.parents.length = 0 := by first | exact hg | omega
      refine wl_pk I_ok 22 rfl (wl_nil ?_)
      exact f_cut (false) rfl ⟨by symm; rw [decide_eq_false_iff_not]; exact fun h => n4 h.2.2.2.1, hX⟩
    ·have n3 : ¬ x.base = idZ := by first | exact hg | omega
     refine wl_pk I_ok 28 rfl (wl_nil ?_)
     exact f_cut (false) rfl ⟨by symm; rw [decide_eq_false_iff_not]; exact fun h => n3 h.2.2.1, hX⟩
   ·have n2 : ¬ x.tree = idZ := by first | exact hg | omega
    refine wl_pk I_ok 34 rfl (wl_nil ?_)
    exact f_cut (false) rfl ⟨by symm; rw [decide_eq_false_iff_not]; exact fun h => n2 h.2.1, hX⟩
  ·have n1 : ¬ x.style = 0 := by first | exact hg | omega
   refine wl_pk I_ok 40 rfl (wl_nil ?_)
   exact f_cut (false) rfl ⟨by symm; rw [decide_eq_false_iff_not]; exact fun h => n1 h.1, hX⟩
 rintro z w2 ⟨rfl, hX⟩
 refine c_ret (f_ret1 rfl rfl ?_)
 exact ⟨rfl, hX⟩
theorem style_no {o : ObjD} (h : idZ ∈ o.parents) : ¬ StyleOk o := fun hs => hs.1 h
theorem style1 {o : ObjD} (h : idZ ∉ o.parents) (hs : o.style = 1) : StyleOk o ↔ o.parents.length = 0 ∧ o.base = idZ ∧ o.rows.length = 0 ∧ o.number = 0 := by
 constructor
 ·rintro ⟨_, h1 | h1 | h1⟩
  ·exact h1.2
  ·exact absurd (hs.symm.trans h1.1) (by decide)
  ·exact absurd (hs.symm.trans h1.1) (by decide)
 ·exact fun h1 => ⟨h, .inl ⟨hs, h1⟩⟩
theorem style2 {o : ObjD} (h : idZ ∉ o.parents) (hs : o.style = 2) : StyleOk o ↔ o.parents.length = 1 ∧ o.base = idZ ∧ 0 < o.number := by
 constructor
 ·rintro ⟨_, h1 | h1 | h1⟩
  ·exact absurd (hs.symm.trans h1.1) (by decide)
  ·exact h1.2
  ·exact absurd (hs.symm.trans h1.1) (by decide)
 ·exact fun h1 => ⟨h, .inr (.inl ⟨hs, h1⟩)⟩
theorem style3 {o : ObjD} (h : idZ ∉ o.parents) (hs : o.style = 3) : StyleOk o ↔ o.parents.length = 2 ∧ o.parents.getD 0 [] ≠ o.parents.getD 1 [] ∧ 0 < o.number := by
 constructor
 ·rintro ⟨_, h1 | h1 | h1⟩
  ·exact absurd (hs.symm.trans h1.1) (by decide)
  ·exact absurd (hs.symm.trans h1.1) (by decide)
  ·exact h1.2
 ·exact fun h1 => ⟨h, .inr (.inr ⟨hs, h1⟩)⟩
theorem style0 {o : ObjD} (h1 : ¬ o.style = 1) (h2 : ¬ o.style = 2) (h3 : ¬ o.style = 3) : ¬ StyleOk o := fun h => h.2.elim (fun h => h1 h.1) fun h => h.elim (fun h => h2 h.1) fun h => h3 h.1
theorem style6_calls (w : World) {x : ObjD} {a : ObjP} (hx : ObjIn x) (hxl : ObjL w x a) (hsx : Short x) :
  CallsV Tryz.prog 117 [.agg (objC x a).toArray] w fun v w' => v = .bool (decide (StyleOk x)) ∧ Ext No w w' := by
 refine calls_enter Tryz.func117 rfl rfl rfl rfl ?_
 have hX := Ext.refl No w
 refine c_seq (c_region (wl (st_al I_ok rfl fun b1 w1 hn1 hb1 hE1 => ?_)))
 have hX := hX.thenNo hE1
 have hb1 : Blk w1 b1 48 (objC x a) := hb1
 have oa := hb1.seg.obj hx
 refine wl_p I_ok rfl (wl_nil (f_then (c_seq (c_seq (c_region (wl_p I_ok rfl (wl (st_ld I_ok rfl oa.parents (wl_p I_ok rfl (wl_nil (f_then (c_block ?_))))))))))))
 refine c_loopK (α := Nat) [1, 6, 7] rfl (fun z => [(8, .int .i64 (z : Int))]) (fun z u => (z ≤ x.parents.length ∧ ∀ k (hk : k < x.parents.length), k < z → ¬ x.parents[k] = idZ) ∧ Blk u b1 48 (objC x a) ∧ Ext No w u) (fun z u => x.parents.length - z) (0) rfl ⟨⟨Nat.zero_le _, fun k _ h => absurd h (Nat.not_lt_zero _)⟩, hb1, hX⟩ ?_
 rintro i w2 ⟨⟨hi, hno⟩, hb1, hX⟩
 have oa := hb1.seg.obj hx
 refine c_seq (c_region (wl_p I_ok rfl (wl_nil (f_then (c_seq (c_if rfl (fun hc => ?_) (fun hc => ?_)))))))
 ·have hi : i < x.parents.length := by omega
  obtain ⟨qb, qoff, hp, hsq⟩ := hxl.parents.rowAll (fun r hr => IdIn.len (hx.parents r hr)) (by omega)
  rw [hp]
  have hpl := hsx.parents
  have ha1 : IdIn x.parents[i] := hx.parents _ (List.getElem_mem hi)
  refine c_skip (f_then (c_seq (c_block (c_seq (c_region (wl (st_ix I_ok rfl 32 rfl i rfl (by omega) (qoff + i * 32) rfl (wl (st_ldN I_ok rfl ((hsq i hi).extNo hX) ha1.len (wl (st_al I_ok rfl fun b4 w3 hn4 hb4 hE3 => ?_)))))))))))
  have ne1_4 : b1 ≠ b4 := Nat.ne_of_lt (Nat.lt_of_lt_of_le hb1.lt hn4)
  have fr4 := Nat.le_trans hX.size hn4
  have hb1 := hb1.extNo hE3
  have hX := hX.thenNo hE3
  refine wl (st_stW (l' := bytesU x.parents[i]) I_ok hb4 rfl rfl ha1.len ha1.len OneC.h fun w4 hb4 hE4 hs4 => ?_)
  have hb1 := hb1.ext1 hE4 ne1_4
  have oa := (hb1.seg.obj hx)
  have hX := hX.thenNew hE4 fr4
  refine wl_nil (f_then (c_seq (c_region (wl (st_ldB I_ok hb4 rfl ha1.len (wl (st_bd I_ok rfl trivial (l' := bytesU idZ) idZ_c.symm (wl (st_eqK rfl gId 10 (by decide) kId (idForm ha1) (idForm idZ_in) (idKey ha1) (idKey idZ_in) idLits_inj ?_)))))))))
  simp only [if_true]
  refine wl_nil (f_then (c_if rfl (fun hc => ?_) (fun hc => ?_)))
  ·have hz : idZ ∈ x.parents := hc ▸ List.getElem_mem hi
   refine c_seq (c_region (wl_p I_ok rfl (wl_nil (f_then (c_ret (f_blockR (f_thenR (f_thenR (f_blockR (f_thenR (f_ret1 rfl rfl ?_)))))))))))
   exact ⟨congrArg Value.bool (decide_eq_false (style_no hz)).symm, hX⟩
  ·refine c_skip ?_
   refine f_blockN (f_then (c_region (wl_p I_ok rfl ?_)))
   rw [IntWalk.i64_in _ (by omega)]
   refine wl_nil ?_
   exact f_round (i + 1) rfl ⟨⟨by omega, allStep (p := fun y => ¬ y = idZ) hno hi hc⟩, hb1, hX⟩ (by first | omega | (dsimp only; omega))
 ·have h0 : idZ ∉ x.parents := fun hr => by
   obtain ⟨k, hk, e⟩ := List.mem_iff_getElem.1 hr
   exact hno k hk (by omega) e
  refine c_exit (f_thenE (f_thenE (f_blockE (f_then (c_seq (c_seq (c_region (wl_p I_ok rfl (wl (st_ld I_ok rfl oa.style (wl_nil (f_then (c_block (c_seq (c_region (wl_p I_ok rfl (wl_nil (f_then ?_))))))))))))))))))
  refine c_if rfl (fun hc => ?_) (fun hc => ?_)
  ·have h1 : x.style = 1 := hc
   refine c_cutK (α := Bool) [] rfl (fun z => [(2, .bool z)]) (fun z u => (z = decide (StyleOk x)) ∧ Ext No w u) ?_ ?_
   ·refine c_region ?_
    refine wl_p I_ok rfl (wl (st_ld I_ok rfl oa.parents (wl_p I_ok rfl (wl_caseD 24 rfl (fun hg => ?_) (fun hg => ?_)))))
    ·refine wl_pk I_ok 1 rfl ?_
     refine wl (st_ldN I_ok rfl oa.base (IdIn.len hx.base) (wl (st_bd I_ok rfl trivial (l' := bytesU idZ) idZ_c.symm (wl (st_eqK rfl gId 10 (by decide) kId (idForm hx.base) (idForm idZ_in) (idKey hx.base) (idKey idZ_in) idLits_inj ?_)))))
     simp only [if_true]
     refine wl_p I_ok rfl (wl_caseD 30 rfl (fun hg => ?_) (fun hg => ?_))
     ·have hb := hg
      refine wl_pk I_ok 2 rfl (wl (st_ld I_ok rfl oa.rows (wl_pk I_ok 4 rfl (wl_caseD 37 rfl (fun hg => ?_) (fun hg => ?_)))))
      ·refine wl_pk I_ok 1 rfl ?_
       refine wl (st_ld I_ok rfl oa.number (wl_pk I_ok 3 rfl (wl_nil ?_)))
       exact f_cut (_) rfl ⟨by rw [decide_eq_decide, style1 h0 h1]; exact ⟨fun h => ⟨by omega, hb, by omega, by omega⟩, fun h => by omega⟩, hX⟩
      ·refine wl_pk I_ok 5 rfl ?_
       refine wl_nil ?_
       exact f_cut (false) rfl ⟨by symm; rw [decide_eq_false_iff_not, style1 h0 h1]; intro h; omega, hX⟩
     ·have hb := hg
      refine wl_pk I_ok 12 rfl (wl_nil ?_)
      exact f_cut (false) rfl ⟨by symm; rw [decide_eq_false_iff_not, style1 h0 h1]; intro h; exact hb h.2.1, hX⟩
    ·refine wl_pk I_ok 18 rfl ?_
     refine wl_nil ?_
     exact f_cut (false) rfl ⟨by symm; rw [decide_eq_false_iff_not, style1 h0 h1]; intro h; omega, hX⟩
   rintro z w5 ⟨rfl, hX⟩
   refine c_ret (f_blockR (f_thenR (f_ret1 rfl rfl ?_)))
   exact ⟨rfl, hX⟩
  ·have h1 : ¬ x.style = 1 := hc
   refine c_seq (c_region (wl_p I_ok rfl (wl_nil (f_then (c_if rfl (fun hc => ?_) (fun hc => ?_))))))
   ·have h2 : x.style = 2 := hc
    refine c_cutK (α := Bool) [] rfl (fun z => [(2, .bool z)]) (fun z u => (z = decide (StyleOk x)) ∧ Ext No w u) ?_ ?_
    ·refine c_region ?_
     refine wl_p I_ok rfl (wl (st_ld I_ok rfl oa.parents (wl_p I_ok rfl (wl_caseD 48 rfl (fun hg => ?_) (fun hg => ?_)))))
     ·refine wl_pk I_ok 1 rfl ?_
      refine wl (st_ldN I_ok rfl oa.base (IdIn.len hx.base) (wl (st_bd I_ok rfl trivial (l' := bytesU idZ) idZ_c.symm (wl (st_eqK rfl gId 10 (by decide) kId (idForm hx.base) (idForm idZ_in) (idKey hx.base) (idKey idZ_in) idLits_inj ?_)))))
      simp only [if_true]
      refine wl_p I_ok rfl (wl_caseD 54 rfl (fun hg => ?_) (fun hg => ?_))
      ·have hb := hg
       refine wl_pk I_ok 1 rfl (wl (st_ld I_ok rfl oa.number (wl_pk I_ok 3 rfl (wl_nil ?_))))
       exact f_cut (_) rfl ⟨by rw [decide_eq_decide, style2 h0 h2]; exact ⟨fun h => ⟨by omega, hb, by omega⟩, fun h => by omega⟩, hX⟩
      ·have hb := hg
       refine wl_pk I_ok 5 rfl (wl_nil ?_)
       exact f_cut (false) rfl ⟨by symm; rw [decide_eq_false_iff_not, style2 h0 h2]; intro h; exact hb h.2.1, hX⟩
     ·refine wl_pk I_ok 11 rfl ?_
      refine wl_nil ?_
      exact f_cut (false) rfl ⟨by symm; rw [decide_eq_false_iff_not, style2 h0 h2]; intro h; omega, hX⟩
    rintro z w6 ⟨rfl, hX⟩
    refine c_ret (f_blockR (f_thenR (f_ret1 rfl rfl ?_)))
    exact ⟨rfl, hX⟩
   ·have h2 : ¬ x.style = 2 := hc
    refine c_seq (c_region (wl_p I_ok rfl (wl_nil (f_then (c_if rfl (fun hc => ?_) (fun hc => ?_))))))
    ·have h3 : x.style = 3 := hc
     refine c_cutK (α := Bool) [] rfl (fun z => [(2, .bool z)]) (fun z u => (z = decide (StyleOk x)) ∧ Ext No w u) ?_ ?_
     ·refine c_draw rfl 21 [(0, true), (1, true), (2, true), (3, true), (4, true), (5, true), (6, true), (7, true), (8, true), (9, true), (10, true), (11, true), (12, true), (13, true), (14, true), (15, true), (16, true), (17, true), (18, true), (19, true), (20, true)] [] (No) (by kernel_rfl) fun w7 hE7 hs7 => ?_
      have oad := oa
      have hXd := hX
      have hX := hX.thenNo hE7
      refine wd_k I_ok 1 rfl (wd_ld I_ok rfl rfl (fun w' hw' => (oad.extNo hw').parents) ?_)
      refine wd_k I_ok 3 rfl (wd_caseD 65 rfl (fun hg => ?_) (fun hg => ?_))
      ·have hl2 : x.parents.length = 2 := by omega
       obtain ⟨b, off, hp, hsa⟩ := hxl.parents.rowAll (fun r hr => IdIn.len (hx.parents r hr)) (by omega)
       have ha0 := hx.parents _ (List.getElem_mem (show 0 < x.parents.length by omega))
       have ha1 := hx.parents _ (List.getElem_mem (show 1 < x.parents.length by omega))
       refine wd_k I_ok 1 rfl (wd_ld I_ok rfl rfl (fun w' hw' => (oad.extNo hw').parents) ?_)
       rw [hp]
       refine wd_ix I_ok rfl rfl 32 rfl 0 rfl (by omega) (off + 0 * 32) rfl (wd_ldN I_ok rfl rfl (fun w' hw' => ((hsa 0 (by omega)).extNo (hXd.thenNo hw'))) (IdIn.len ha0) ?_)
       refine wd_k I_ok 1 rfl (wd_ld I_ok rfl rfl (fun w' hw' => (oad.extNo hw').parents) ?_)
       rw [hp]
       refine wd_ix I_ok rfl rfl 32 rfl 1 rfl (by omega) (off + 1 * 32) rfl (wd_ldN I_ok rfl rfl (fun w' hw' => ((hsa 1 (by omega)).extNo (hXd.thenNo hw'))) (IdIn.len ha1) ?_)
       refine wd_eqK rfl rfl gId 10 (by decide) kId (idForm ha0) (idForm ha1) (idKey ha0) (idKey ha1) idLits_inj ?_
       simp only [Bool.false_eq_true, if_false]
       refine wd_k I_ok 2 rfl (wd_caseD 76 rfl (fun hg => ?_) (fun hg => ?_))
       ·have hne := hg
        refine wd_k I_ok 1 rfl (wd_ld I_ok rfl rfl (fun w' hw' => (oad.extNo hw').number) ?_)
        refine wd_k I_ok 3 rfl (wd_sw (wb_nil ?_))
        exact f_cut (_) rfl ⟨by rw [decide_eq_decide, style3 h0 h3, getD_get (by omega), getD_get (by omega)]; exact ⟨fun h => ⟨hl2, hne, by omega⟩, fun h => by omega⟩, hX⟩
       ·have hne := hg
        refine wd_k I_ok 5 rfl (wd_sw (wb_nil ?_))
        exact f_cut (false) rfl ⟨by symm; rw [decide_eq_false_iff_not, style3 h0 h3, getD_get (by omega), getD_get (by omega)]; intro h; exact hne h.2.1, hX⟩
      ·refine wd_k I_ok 16 rfl ?_
       refine wd_sw (wb_nil ?_)
       exact f_cut (false) rfl ⟨by symm; rw [decide_eq_false_iff_not, style3 h0 h3]; intro h; omega, hX⟩
     rintro z w8 ⟨rfl, hX⟩
     refine c_ret (f_blockR (f_thenR (f_ret1 rfl rfl ?_)))
     exact ⟨rfl, hX⟩
    ·have h3 : ¬ x.style = 3 := hc
     refine c_skip (f_blockN (f_then (c_seq (c_region (wl_p I_ok rfl (wl_nil (f_then (c_ret (f_ret1 rfl rfl ?_)))))))))
     exact ⟨congrArg Value.bool (decide_eq_false (style0 h1 h2 h3)).symm, hX⟩
def LeafGood (l : List LeafD) (i : Nat) (hi : i < l.length) : Prop := PathOk l[i].path ∧ l[i].id ≠ idZ ∧ (0 < i → SLt (strU (l[i - 1]'(by omega)).path) (strU l[i].path))
instance (l : List LeafD) (i : Nat) (hi : i < l.length) : Decidable (LeafGood l i hi) := inferInstanceAs (Decidable (_ ∧ _))
theorem leaved_iff {l : List LeafD} : Leaved l ↔ l.length ≤ 32 ∧ ∀ i (hi : i < l.length), LeafGood l i hi := by
 constructor
 ·rintro ⟨⟨h1, h2⟩, h3⟩
  rw [List.length_map] at h1
  refine ⟨h1, fun i hi => ?_⟩
  have := h2 i (by rw [List.length_map]; exact hi)
  simp only [List.getElem_map] at this
  exact ⟨this.1, h3 _ (List.getElem_mem hi), this.2⟩
 ·rintro ⟨h1, h2⟩
  refine ⟨⟨by rw [List.length_map]; exact h1, fun i hi => ?_⟩, fun x hx => ?_⟩
  ·rw [List.length_map] at hi
   have := h2 i hi
   simp only [List.getElem_map]
   exact ⟨this.1, this.2.2⟩
  ·obtain ⟨i, hi, rfl⟩ := List.mem_iff_getElem.1 hx
   exact (h2 i hi).2.1
theorem fields6_calls (w : World) {x : ObjD} {a : ObjP} (hx : ObjIn x) (hxl : ObjL w x a) (hsx : Short x) :
  CallsV Tryz.prog 87 [.agg (objC x a).toArray] w fun v w' => v = .bool (decide (FieldsOk x)) ∧ Ext No w w' := by
 have hs : (strU x.text).size = x.text.length := rfl
 have hsn : (strU x.note).size = x.note.length := rfl
 have hll := hsx.leaves
 refine calls_enter Tryz.func87 rfl rfl rfl rfl ?_
 have hX := Ext.refl No w
 refine c_seq (c_region (wl (st_al I_ok rfl fun b1 w1 hn1 hb1 hE1 => ?_)))
 have hX := hX.thenNo hE1
 have hb1 : Blk w1 b1 48 (objC x a) := hb1
 have oa := hb1.seg.obj hx
 refine wl_p I_ok rfl (wl_nil (f_then (c_seq (c_seq (c_region (wl_p I_ok rfl (wl (st_ld I_ok rfl oa.kind (wl_nil (f_then (c_block (c_seq (c_region (wl_p I_ok rfl (wl_nil (f_then (c_if rfl (fun hc => ?_) (fun hc => ?_))))))))))))))))))
 ·have h1 : x.kind = 1 := hc
  refine c_cutK (α := Bool) [] rfl (fun z => [(2, .bool z)]) (fun z u => (z = decide (FieldsOk x)) ∧ Ext No w u) ?_ ?_
  ·refine c_region ?_
   refine wl_p I_ok rfl (wl (st_ld I_ok rfl oa.text (wl_p I_ok rfl (wl_caseD 13 rfl (fun hg => ?_) (fun hg => ?_)))))
   ·refine wl_pk I_ok 1 rfl ?_
    refine wl (st_ld I_ok rfl oa.leaves (wl_pk I_ok 4 rfl (wl_caseD 19 rfl (fun hg => ?_) (fun hg => ?_))))
    ·refine wl (st_ldB I_ok hb1 rfl (objC_len hx) ?_)
     refine wl (st_call Tryz.call114 rfl rfl rfl rfl rfl rfl (none6_calls w1 hx (hxl.extNo hX) hsx) fun v2 w2 hr2 => ?_)
     obtain ⟨rfl, hE2⟩ := hr2
     have hX := hX.thenNo hE2
     refine wl_p I_ok rfl (wl_nil ?_)
     exact f_cut (_) rfl ⟨by rw [decide_eq_decide, fields1 h1]; exact ⟨fun h => ⟨by omega, by omega, h⟩, fun h => h.2.2⟩, hX⟩
    ·refine wl_pk I_ok 4 rfl ?_
     refine wl_nil ?_
     exact f_cut (false) rfl ⟨by symm; rw [decide_eq_false_iff_not, fields1 h1]; intro h; exact absurd h.2.1 (by omega), hX⟩
   ·refine wl_pk I_ok 10 rfl ?_
    refine wl_nil ?_
    exact f_cut (false) rfl ⟨by symm; rw [decide_eq_false_iff_not, fields1 h1]; intro h; exact absurd h.1 (by omega), hX⟩
  rintro z w3 ⟨rfl, hX⟩
  refine c_ret (f_blockR (f_thenR (f_ret1 rfl rfl ?_)))
  exact ⟨rfl, hX⟩
 ·have h1 : ¬ x.kind = 1 := hc
  refine c_seq (c_region (wl_p I_ok rfl (wl_nil (f_then (c_if rfl (fun hc => ?_) (fun hc => ?_))))))
  ·have h2 : x.kind = 2 := hc
   refine c_seq (c_seq (c_region (wl_p I_ok rfl (wl (st_ld I_ok rfl oa.leaves (wl_p I_ok rfl (wl_nil (f_then (c_block ?_)))))))))
   refine c_loopK (α := Nat) [1, 26, 27] rfl (fun z => [(28, .int .i64 (z : Int))]) (fun z u => (z ≤ x.leaves.length ∧ ∀ k (hk : k < x.leaves.length), k < z → LeafGood x.leaves k hk) ∧ Blk u b1 48 (objC x a) ∧ Ext No w u) (fun z u => x.leaves.length - z) (0) rfl ⟨⟨Nat.zero_le _, fun k _ h => absurd h (Nat.not_lt_zero _)⟩, hb1, hX⟩ ?_
   rintro i w4 ⟨⟨hi, hok⟩, hb1, hX⟩
   have oa := hb1.seg.obj hx
   refine c_seq (c_region (wl_p I_ok rfl (wl_nil (f_then (c_seq (c_if rfl (fun hc => ?_) (fun hc => ?_)))))))
   ·have hi : i < x.leaves.length := by omega
    obtain ⟨qb, qoff, hp, hsq⟩ := hxl.leaves.rowAll (fun r hr => LeafD.len (hx.leaves r hr).2) (by omega)
    rw [hp]
    have ha1 := hx.leaves _ (List.getElem_mem hi)
    have hi1 : IdIn x.leaves[i].id := ha1.2
    refine c_skip (f_then (c_seq (c_block (c_seq (c_region (wl_p I_ok rfl (wl (st_ix I_ok rfl 33 rfl i rfl (by omega) (qoff + i * 33) rfl (wl (st_ldN I_ok rfl ((hsq i hi).extNo hX) (LeafD.len ha1.2) ?_))))))))))
    refine wl (st_al I_ok rfl fun b4 w5 hn4 hb4 hE5 => ?_)
    have ne1_4 : b1 ≠ b4 := Nat.ne_of_lt (Nat.lt_of_lt_of_le hb1.lt hn4)
    have fr4 := Nat.le_trans hX.size hn4
    have hb1 := hb1.extNo hE5
    have hX := hX.thenNo hE5
    refine wl_p I_ok rfl (wl (st_stW (l' := (x.leaves[i]).cells) I_ok hb4 rfl rfl (LeafD.len ha1.2) (LeafD.len ha1.2) OneC.h fun w6 hb4 hE6 hs6 => ?_))
    have hb1 := hb1.ext1 hE6 ne1_4
    have oa := (hb1.seg.obj hx)
    have hX := hX.thenNew hE6 fr4
    refine wl_nil (f_then (c_cutK (α := Bool) [1, 26, 27, 28] rfl (fun z => [(58, .bool z)]) (fun z u => (z = decide (¬ LeafGood x.leaves i hi)) ∧ Blk u b1 48 (objC x a) ∧ Ext No w u) ?_ ?_))
    ·refine c_draw rfl 26 [(0, true), (1, true), (2, false), (3, true), (4, true), (5, true), (6, true), (7, true), (8, true), (9, true), (10, true), (11, true), (12, true), (13, true), (14, true), (15, true), (16, true), (17, true), (18, true), (19, true), (20, true), (21, true), (22, true), (23, true), (24, true), (25, true)] [] (No) (by kernel_rfl) fun w7 hE7 hs7 => ?_
     have hd1 := hb1
     have hd4 := hb4
     have hXd := hX
     have hb1 := hb1.extNo hE7
     have hX := hX.thenNo hE7
     have hC : Ext (No) _ w7 := hE7.no
     refine wd_k I_ok 1 rfl (wd_ld I_ok rfl rfl (fun w' hw' => (hd4.extNo hw').cell rfl) ?_)
     refine wd_l rfl (st_call Tryz.call115 rfl rfl rfl rfl rfl rfl (path6_calls w7 (x.leaves[i]).path (hsx.leafP _ (List.getElem_mem hi))) fun v8 w8 hr8 => ⟨(by obtain ⟨rfl, rfl⟩ := hr8; exact hC), ?_⟩)
     obtain ⟨rfl, rfl⟩ := hr8
     refine wd_k I_ok 2 rfl (wd_case 37 rfl (fun hg => ?_) (fun hg => ?_))
     ·have hnp : ¬ PathOk (x.leaves[i]).path := by simpa using hg
      refine wd_k I_ok 21 rfl (wd_sw (wb_nil ?_))
      exact f_cut (true) rfl ⟨by symm; rw [decide_eq_true_eq]; exact fun h => hnp h.1, hb1, hX⟩
     ·have hnp : PathOk (x.leaves[i]).path := by simpa using hg
      refine wd_k I_ok 1 rfl (wd_ldN I_ok rfl rfl (fun w' hw' => (by have := (hd4.extNo hw').seg.drop 1; exact this)) hi1.len ?_)
      refine wd_bd I_ok rfl rfl trivial (l' := bytesU idZ) idZ_c.symm (wd_eqK rfl rfl gId 10 (by decide) kId (idForm hi1) (idForm idZ_in) (idKey hi1) (idKey idZ_in) idLits_inj ?_)
      simp only [if_true]
      refine wd_k I_ok 2 rfl (wd_caseD 43 rfl (fun hg => ?_) (fun hg => ?_))
      ·have hiz := hg
       refine wd_k I_ok 15 rfl (wd_sw (wb_nil ?_))
       exact f_cut (true) rfl ⟨by symm; rw [decide_eq_true_eq]; exact fun h => h.2.1 hiz, hb1, hX⟩
      ·have hiz := hg
       refine wd_k I_ok 3 rfl (wd_caseD 46 rfl (fun hg => ?_) (fun hg => ?_))
       ·refine wd_k I_ok 1 rfl ?_
        refine wd_ld I_ok rfl rfl (fun w' hw' => ((hd1.extNo hw').seg.obj hx).leaves) ?_
        rw [hp]
        refine wd_k I_ok 2 rfl ?_
        rw [IntWalk.i64_in _ (by omega)]
        refine wd_ix I_ok rfl rfl 33 rfl (i - 1) (by omega) (by omega) (qoff + (i - 1) * 33) rfl (wd_k I_ok 1 rfl (wd_ld I_ok rfl rfl (fun w' hw' => (((hsq (i - 1) (by omega)).extNo (hXd.thenNo hw')) 0 _ rfl)) ?_))
        refine wd_k I_ok 1 rfl (wd_ld I_ok rfl rfl (fun w' hw' => (hd4.extNo hw').cell rfl) ?_)
        refine wd_k I_ok 3 rfl (wd_sw (wb_nil ?_))
        exact f_cut (_) rfl ⟨by rw [decide_eq_decide]; exact ⟨fun h1 h2 => h1 (h2.2.2 (by omega)), fun h1 h2 => h1 ⟨hnp, hiz, fun _ => h2⟩⟩, hb1, hX⟩
       ·refine wd_k I_ok 12 rfl ?_
        refine wd_sw (wb_nil ?_)
        exact f_cut (_) rfl ⟨by symm; rw [decide_eq_false_iff_not]; exact fun h => h ⟨hnp, hiz, fun h0 => absurd h0 (by omega)⟩, hb1, hX⟩
    rintro z w9 ⟨rfl, hb1, hX⟩
    have oa := hb1.seg.obj hx
    refine c_if rfl (fun hc => ?_) (fun hc => ?_)
    ·refine c_seq ?_
     refine c_region (wl_p I_ok rfl (wl_nil (f_then (c_ret (f_blockR (f_thenR (f_thenR (f_blockR (f_thenR (f_blockR (f_thenR (f_ret1 rfl rfl ?_))))))))))))
     exact ⟨congrArg Value.bool (by symm; rw [decide_eq_false_iff_not, fields2 h2]; exact fun h => hc ((leaved_iff.1 h.1).2 i hi)), hX⟩
    ·have hki := Decidable.not_not.1 hc
     refine c_skip (f_blockN (f_then (c_region (wl_p I_ok rfl ?_))))
     rw [IntWalk.i64_in _ (by omega)]
     refine wl_nil ?_
     exact f_round (i + 1) rfl ⟨⟨by omega, fun k hk hlt => (by
  rcases Nat.lt_or_ge k i with h' | h'
  ·exact hok k hk h'
  ·obtain rfl : k = i := by omega
   exact hki)⟩, hb1, hX⟩ (by first | omega | (dsimp only; omega))
   ·have hall : ∀ k (hk : k < x.leaves.length), LeafGood x.leaves k hk := fun k hk => hok k hk (by omega)
    refine c_exit (f_thenE (f_thenE (f_blockE (f_then (c_cutK (α := Bool) [] rfl (fun z => [(2, .bool z)]) (fun z u => (z = decide (FieldsOk x)) ∧ Ext No w u) ?_ ?_)))))
    ·refine c_region ?_
     refine wl_p I_ok rfl (wl (st_ld I_ok rfl oa.leaves (wl_p I_ok rfl (wl_caseD 64 rfl (fun hg => ?_) (fun hg => ?_)))))
     ·refine wl_pk I_ok 1 rfl ?_
      refine wl (st_ld I_ok rfl oa.text (wl_pk I_ok 3 rfl (wl_caseD 69 rfl (fun hg => ?_) (fun hg => ?_))))
      ·have e1 : x.text = [] := nilS.1 hg
       refine wl (st_ldB I_ok hb1 rfl (objC_len hx) (wl (st_call Tryz.call114 rfl rfl rfl rfl rfl rfl (none6_calls w4 hx (hxl.extNo hX) hsx) fun v10 w10 hr10 => ?_)))
       obtain ⟨rfl, hE10⟩ := hr10
       have hX := hX.thenNo hE10
       refine wl_p I_ok rfl (wl_nil ?_)
       exact f_cut (_) rfl ⟨by rw [decide_eq_decide, fields2 h2]; exact ⟨fun h => ⟨leaved_iff.2 ⟨by omega, hall⟩, e1, h⟩, fun h => h.2.2⟩, hX⟩
      ·have e1 : ¬ x.text = [] := fun e => hg (nilS.2 e)
       refine wl_pk I_ok 4 rfl (wl_nil ?_)
       exact f_cut (false) rfl ⟨by symm; rw [decide_eq_false_iff_not, fields2 h2]; intro h; exact e1 h.2.1, hX⟩
     ·refine wl_pk I_ok 9 rfl ?_
      refine wl_nil ?_
      exact f_cut (false) rfl ⟨by symm; rw [decide_eq_false_iff_not, fields2 h2]; intro h; exact absurd (leaved_iff.1 h.1).1 (by omega), hX⟩
    rintro z w11 ⟨rfl, hX⟩
    refine c_ret (f_blockR (f_thenR (f_ret1 rfl rfl ?_)))
    exact ⟨rfl, hX⟩
  ·have h2 : ¬ x.kind = 2 := hc
   refine c_seq (c_region (wl_p I_ok rfl (wl_nil (f_then (c_if rfl (fun hc => ?_) (fun hc => ?_))))))
   ·have h3 : x.kind = 3 := hc
    refine c_cutK (α := Bool) [] rfl (fun z => [(2, .bool z)]) (fun z u => (z = decide (FieldsOk x)) ∧ Ext No w u) ?_ ?_
    ·refine c_region ?_
     refine wl_p I_ok rfl (wl (st_ld I_ok rfl oa.text (wl_p I_ok rfl (wl_caseD 78 rfl (fun hg => ?_) (fun hg => ?_)))))
     ·have e1 : x.text = [] := nilS.1 hg
      refine wl_pk I_ok 1 rfl (wl (st_ld I_ok rfl oa.leaves (wl_pk I_ok 4 rfl (wl_caseD 84 rfl (fun hg => ?_) (fun hg => ?_)))))
      ·refine wl_pk I_ok 1 rfl ?_
       refine wl (st_ldN I_ok rfl oa.tree (IdIn.len hx.tree) (wl (st_bd I_ok rfl trivial (l' := bytesU idZ) idZ_c.symm (wl (st_eqK rfl gId 10 (by decide) kId (idForm hx.tree) (idForm idZ_in) (idKey hx.tree) (idKey idZ_in) idLits_inj ?_)))))
       simp only [Bool.false_eq_true, if_false]
       refine wl_p I_ok rfl (wl_caseD 90 rfl (fun hg => ?_) (fun hg => ?_))
       ·have e2 : x.tree ≠ idZ := hg
        refine wl_pk I_ok 1 rfl (wl (st_ldN I_ok rfl (Seg.one oa.rows) rfl (wl (st_call Tryz.call116 rfl rfl rfl rfl rfl rfl (rightEdit5_calls w1 (hxl.rows.extNo hX) hsx.rows hsx.rowP) fun v12 w12 hr12 => ?_))))
        obtain ⟨rfl, hE12⟩ := hr12
        have hb1 := hb1.extNo hE12
        have oa := oa.extNo hE12
        have hX := hX.thenNo hE12
        refine wl_p I_ok rfl (wl_caseD 95 rfl (fun hg => ?_) (fun hg => ?_))
        ·have e3 := hg
         refine wl_pk I_ok 1 rfl (wl (st_ld I_ok rfl oa.note (wl_pk I_ok 4 rfl (wl_caseD 101 rfl (fun hg => ?_) (fun hg => ?_)))))
         ·refine wl (st_ldB I_ok hb1 rfl (objC_len hx) ?_)
          refine wl (st_call Tryz.call117 rfl rfl rfl rfl rfl rfl (style6_calls w12 hx (hxl.extNo hX) hsx) fun v13 w13 hr13 => ?_)
          obtain ⟨rfl, hE13⟩ := hr13
          have hX := hX.thenNo hE13
          refine wl_p I_ok rfl (wl_nil ?_)
          exact f_cut (_) rfl ⟨by rw [decide_eq_decide, fields3 h3]; exact ⟨fun h => ⟨e1, by omega, by omega, e3, e2, h⟩, fun h => h.2.2.2.2.2⟩, hX⟩
         ·refine wl_pk I_ok 4 rfl ?_
          refine wl_nil ?_
          exact f_cut (false) rfl ⟨by symm; rw [decide_eq_false_iff_not, fields3 h3]; intro h; exact absurd h.2.2.1 (by omega), hX⟩
        ·have e3 := hg
         refine wl_pk I_ok 10 rfl (wl_nil ?_)
         exact f_cut (false) rfl ⟨by symm; rw [decide_eq_false_iff_not, fields3 h3]; intro h; exact e3 h.2.2.2.1, hX⟩
       ·have e2 : ¬ x.tree ≠ idZ := hg
        refine wl_pk I_ok 15 rfl (wl_nil ?_)
        exact f_cut (false) rfl ⟨by symm; rw [decide_eq_false_iff_not, fields3 h3]; intro h; exact e2 h.2.2.2.2.1, hX⟩
      ·refine wl_pk I_ok 21 rfl ?_
       refine wl_nil ?_
       exact f_cut (false) rfl ⟨by symm; rw [decide_eq_false_iff_not, fields3 h3]; intro h; exact absurd h.2.1 (by omega), hX⟩
     ·have e1 : ¬ x.text = [] := fun e => hg (nilS.2 e)
      refine wl_pk I_ok 27 rfl (wl_nil ?_)
      exact f_cut (false) rfl ⟨by symm; rw [decide_eq_false_iff_not, fields3 h3]; intro h; exact e1 h.1, hX⟩
    rintro z w14 ⟨rfl, hX⟩
    refine c_ret (f_blockR (f_thenR (f_ret1 rfl rfl ?_)))
    exact ⟨rfl, hX⟩
   ·have h3 : ¬ x.kind = 3 := hc
    refine c_skip (f_blockN (f_then (c_seq (c_region (wl_p I_ok rfl (wl_nil (f_then (c_ret (f_ret1 rfl rfl ?_)))))))))
    exact ⟨congrArg Value.bool (decide_eq_false (fields0 h1 h2 h3)).symm, hX⟩
end Go.Proofs.YtpcdihkcenfgkaaGreat
namespace Go.Proofs.YtpcdihkcenfgkaaGreat
open Go.Vc
/-- what the bytes ask -/
structure BytesIn (o : ObjD) : Prop where
  k : o.kind = 1 ∨ o.kind = 2 ∨ o.kind = 3
  text : o.kind = 1 → o.text.length ≤ 256
  leaves : o.kind = 2 → o.leaves.length ≤ 32 ∧ ∀ r ∈ o.leaves, r.path.length ≤ 48
  rows : o.kind = 3 → o.rows.length ≤ 32 ∧ ∀ r ∈ o.rows, r.path.length ≤ 48 ∧ r.text.length ≤ 256
  com : o.kind = 3 → o.parents.length ≤ 2 ∧ 0 ≤ o.style
  note : o.kind = 3 → o.note.length ≤ 200
theorem bytes_of {o : ObjD} (h : FieldsOk o) : BytesIn o :=
 ⟨by rcases h with h | h | h; exact .inl h.1; exact .inr (.inl h.1); exact .inr (.inr h.1), fun k => ((fields1 k).1 h).1, fun k => leaved_at ((fields2 k).1 h).1, fun k => edit_at ((fields3 k).1 h).2.2.2.1, fun k => styled_at ((fields3 k).1 h).2.2.2.2, fun k => ((fields3 k).1 h).2.2.1⟩
theorem some6_calls (w : World) (s : Str) (n : Nat) (hn : n < 100) (hl : s.length < 900000000) :
  CallsV Tryz.prog 88 [strV s, .int .i64 (n : Int)] w fun v w' => ∃ q k, v = .slice q (strB n s).length k ∧ Own w' q (strB n s).length k 5 1 (bytesU (strB n s)) ∧ (∀ x, OwnB q x → w.heap.size ≤ x) ∧ Ext No w w' := by
 have hsz : (strU s).size = s.length := rfl
 refine calls_enter Tryz.func88 rfl rfl rfl rfl ?_
 have hX := Ext.refl No w
 refine c_seq (c_region (wl_p I_ok rfl (wl_nil (f_then (c_seq (c_region (wl_p I_ok rfl ?_)))))))
 rw [IntWalk.u64_in _ (by omega)]
 refine wl_p I_ok rfl (wl (st_call Tryz.call89 rfl rfl rfl rfl rfl rfl (high_calls n hn w s.length (by omega)) fun v1 w1 hr1 => ?_))
 obtain ⟨q, k, rfl, hq, hqn, hE1⟩ := hr1
 have hX := hX.thenNo hE1
 refine wl_p I_ok rfl ?_
 have hX0 := hX
 refine wl (st_app I_ok rfl 1 1 rfl rfl rfl (by decide) hq Src.string (by dsimp only [maxLen]; omega) (by dsimp only; omega) fun p2 c2 w2 ho2 hE2 hB2 => ?_)
 dsimp only at ho2 hE2 hB2 ⊢
 have hX := hX0.trans hE2 fun y hy hF => by have := hqn y hF; omega
 have hqn2 := newW hX0 hqn hB2
 have e3 : n + (strU s).size = (strB n s).length := by rw [strB_len]; omega
 have ho2 : Own w2 p2 (strB n s).length c2 5 1 (bytesU (strB n s)) := by
  rw [← e3, strB, bytesU_append]
  exact ho2
 rw [e3]
 refine wl_p I_ok rfl (wl_nil (f_then (c_ret (f_ret1 rfl rfl ?_))))
 exact ⟨_, _, rfl, ho2, hqn2, hX⟩
theorem leafB_len (r : LeafD) : (leafB r).length = 1 + r.path.length + r.id.length := by rw [leafB, List.length_append, strB_len]
theorem chgB_len (r : ChgD) : (chgB r).length = 1 + r.path.length + 1 + (2 + r.text.length) := by rw [chgB, List.length_append, List.length_append, strB_len, strB_len]; rfl
theorem bytes6_calls (w : World) {x : ObjD} {a : ObjP} (hx : ObjIn x) (hxl : ObjL w x a) (hf : BytesIn x) :
  CallsV Tryz.prog 60 [.agg (objC x a).toArray] w fun v w' => ∃ q k, v = .slice q (laidB x).length k ∧ Own w' q (laidB x).length k 5 1 (bytesU (laidB x)) ∧ (∀ b, OwnB q b → w.heap.size ≤ b) ∧ Ext No w w' := by
 have hk0 : 0 ≤ x.kind := by rcases hf.k with h | h | h <;> omega
 refine calls_enter Tryz.func60 rfl rfl rfl rfl ?_
 have hX := Ext.refl No w
 refine c_seq (c_region (wl (st_al I_ok rfl fun b1 w1 hn1 hb1 hE1 => ?_)))
 have fr1 := Nat.le_trans hX.size hn1
 have hX := hX.thenNo hE1
 have hb1 : Blk w1 b1 48 (objC x a) := hb1
 refine wl_p I_ok rfl (wl_nil (f_then (c_seq (c_region (wl_p I_ok rfl (wl (st_ld I_ok rfl (hb1.seg.obj hx).kind (wl_p I_ok rfl ?_))))))))
 rw [wrap_byteI hk0]
 refine wl (st_bs I_ok rfl 1 rfl rfl rfl (by decide) (by decide) (by simp [partsOk]) (l' := bytesU [UInt8.ofNat x.kind.toNat]) rfl fun b14 w2 hn14 hb14 hE2 hs2 => ?_)
 have fr14 := Nat.le_trans hX.size hn14
 have hb1 := hb1.extNo hE2
 have hX := hX.thenNo hE2
 have hX14 := hX.size
 have hO : Own w2 (some ⟨b14, 0, none⟩) (be 1 x.kind.toNat).length 1 5 1 (bytesU (be 1 x.kind.toNat)) := Own.blk (n := 1) (c := 1) hb14 1 rfl (Nat.le_refl _) (by decide)
 have hOn : ∀ y, OwnB (some ⟨b14, 0, none⟩) y → w.heap.size ≤ y := fun y hy => by have e : b14 = y := congrArg Addr.block (Option.some.inj hy); omega
 obtain ⟨q, hq⟩ : ∃ q : Option Addr, q = some ⟨b14, 0, none⟩ := ⟨_, rfl⟩
 rw [← hq] at hO hOn ⊢
 obtain ⟨k, hk⟩ : ∃ k, k = 1 := ⟨_, rfl⟩
 rw [show Value.slice q 1 1 = .slice q (be 1 x.kind.toNat).length k from by rw [hk]; rfl]
 rw [show Own w2 q (be 1 x.kind.toNat).length 1 _ 1 _ = Own w2 q (be 1 x.kind.toNat).length k 5 1 (bytesU (be 1 x.kind.toNat)) from by rw [hk]] at hO
 refine wl_p I_ok rfl (wl_nil (f_then (c_seq (c_seq (c_region (wl_p I_ok rfl (wl (st_ld I_ok rfl (hb1.seg.obj hx).kind (wl_nil (f_then (c_block (c_seq (c_region (wl_p I_ok rfl (wl_nil (f_then (c_if rfl (fun hc => ?_) (fun hc => ?_))))))))))))))))))
 ·have h1 : x.kind = 1 := hc
  have hBl := hf.text h1
  refine c_seq (c_region (wl_p I_ok rfl (wl (st_ld I_ok rfl (hb1.seg.obj hx).text (wl (st_call Tryz.call88 rfl rfl rfl rfl rfl rfl (some6_calls w2 x.text 2 (by decide) (by omega)) fun v3 w3 hr3 => ?_))))))
  obtain ⟨qp, kp, rfl, hqp, hqpn, hE3⟩ := hr3
  have hO := hO.ext hE3 fun _ _ => id
  have hX := hX.thenNo hE3
  have hX0 := hX
  refine wl (st_app I_ok rfl 1 1 rfl rfl rfl (by decide) hO (Src.slice hqp.sl OneC.h) (by dsimp only [maxLen]; simp only [be_len, strB_len]; omega) (by dsimp only; simp only [be_len, strB_len]; omega) fun p4 c4 w4 ho4 hE4 hB4 => ?_)
  dsimp only at ho4 hE4 hB4 ⊢
  have hX := hX0.trans hE4 fun y hy hF => by have := hOn y hF; omega
  have hOn2 := newW hX0 hOn hB4
  have e3 : (be 1 x.kind.toNat).length + (strB 2 x.text).length = (be 1 x.kind.toNat ++ strB 2 x.text).length := by simp only [List.length_append, be_len, strB_len] <;> omega
  obtain ⟨q, k, e1, e2, hO2⟩ : ∃ q k, q = p4 ∧ k = c4 ∧ Own w4 q (be 1 x.kind.toNat ++ strB 2 x.text).length k 5 1 (bytesU (be 1 x.kind.toNat ++ strB 2 x.text)) := ⟨_, _, rfl, rfl, by
   rw [← e3, bytesU_append (be 1 x.kind.toNat)]
   exact ho4⟩
  rw [← e1] at hOn2 hB4
  have hO := hO2
  have hOn := hOn2
  rw [← e1, ← e2, e3]
  refine wl_p I_ok rfl (wl_nil (f_then (c_ret (f_blockR (f_thenR (f_ret1 rfl rfl ?_))))))
  exact ⟨q, k, by rw [laidB, if_pos h1], by rw [laidB, if_pos h1]; exact hO, hOn, hX⟩
 ·have h1 : ¬ x.kind = 1 := hc
  refine c_seq (c_region (wl_p I_ok rfl (wl_nil (f_then (c_if rfl (fun hc => ?_) (fun hc => ?_))))))
  ·have h2 : x.kind = 2 := hc
   obtain ⟨hl32, hp48⟩ := hf.leaves h2
   refine c_seq (c_region (wl_p I_ok rfl (wl (st_ld I_ok rfl (hb1.seg.obj hx).leaves (wl_p I_ok rfl ?_)))))
   rw [wrap_byte]
   refine wl (st_bs I_ok rfl 1 rfl rfl rfl (by decide) (by decide) (by simp [partsOk]) (l' := bytesU [UInt8.ofNat x.leaves.length]) rfl fun b31 w5 hn31 hb31 hE5 hs5 => ?_)
   have fr31 := Nat.le_trans hX.size hn31
   have hb1 := hb1.extNo hE5
   have hO := hO.ext hE5 fun _ _ => id
   have hX := hX.thenNo hE5
   have hX0 := hX
   refine wl (st_app I_ok rfl 1 1 rfl rfl rfl (by decide) hO (Src.slice (m := 1) ⟨rfl, .inr ⟨b31, 0, rfl, hb31.seg⟩⟩ OneC.h) (by dsimp only [maxLen]; simp only [be_len]; omega) (by dsimp only; simp only [be_len]; omega) fun p6 c6 w6 ho6 hE6 hB6 => ?_)
   dsimp only at ho6 hE6 hB6 ⊢
   have hb1 := hb1.extOwn hO hE6 (show (5 : Nat) ≠ 48 from by decide)
   have hX := hX0.trans hE6 fun y hy hF => by have := hOn y hF; omega
   have hOn2 := newW hX0 hOn hB6
   have e3 : (be 1 x.kind.toNat).length + 1 = (be 1 x.kind.toNat ++ be 1 x.leaves.length).length := by simp only [List.length_append, be_len] <;> omega
   obtain ⟨q, k, e1, e2, hO2⟩ : ∃ q k, q = p6 ∧ k = c6 ∧ Own w6 q (be 1 x.kind.toNat ++ be 1 x.leaves.length).length k 5 1 (bytesU (be 1 x.kind.toNat ++ be 1 x.leaves.length)) := ⟨_, _, rfl, rfl, by
    rw [← e3, bytesU_append (be 1 x.kind.toNat)]
    exact ho6⟩
   rw [← e1] at hOn2 hB6
   have hO := hO2
   have hOn := hOn2
   rw [← e1, ← e2, e3]
   refine wl_p I_ok rfl (wl_nil (f_then (c_seq (c_seq (c_region (wl_p I_ok rfl (wl (st_ld I_ok rfl (hb1.seg.obj hx).leaves (wl_p I_ok rfl (wl_nil (f_then (c_block ?_))))))))))))
   refine c_loopK (α := Nat × Option Addr × Nat) [34, 35] rfl (fun z => [(3, .slice z.2.1 (be 1 x.kind.toNat ++ be 1 x.leaves.length ++ (x.leaves.take z.1).flatMap leafB).length z.2.2), (36, .int .i64 (z.1 : Int))]) (fun z u => (z.1 ≤ x.leaves.length ∧ Own u z.2.1 (be 1 x.kind.toNat ++ be 1 x.leaves.length ++ (x.leaves.take z.1).flatMap leafB).length z.2.2 5 1 (bytesU (be 1 x.kind.toNat ++ be 1 x.leaves.length ++ (x.leaves.take z.1).flatMap leafB)) ∧ ∀ y, OwnB z.2.1 y → w.heap.size ≤ y) ∧ Ext No w u) (fun z u => x.leaves.length - z.1) (0, q, k) rfl ⟨⟨Nat.zero_le _, by simpa using hO, hOn⟩, hX⟩ ?_
   rintro ⟨i, q, k⟩ w7 ⟨⟨hi, hO, hOn⟩, hX⟩
   try dsimp only
   dsimp only at hi hO hOn
   refine c_seq (c_region (wl_p I_ok rfl (wl_nil (f_then (c_seq (c_if rfl (fun hc => ?_) (fun hc => ?_)))))))
   ·have hi : i < x.leaves.length := by omega
    obtain ⟨qb, qoff, hp, hsq⟩ := hxl.leaves.rowAll (fun r hr => LeafD.len (hx.leaves r hr).2) (by omega)
    rw [hp]
    have ha1 := hx.leaves _ (List.getElem_mem hi)
    have ha2 := hp48 _ (List.getElem_mem hi)
    have ha3 := ha1.2
    have hfl : ((x.leaves.take i).flatMap leafB).length ≤ (x.leaves.take i).length * 100 := flat_le fun r hr => leafB_le (hp48 r (List.mem_of_mem_take hr)) (hx.leaves r (List.mem_of_mem_take hr)).2
    rw [List.length_take, Nat.min_eq_left (by omega)] at hfl
    refine c_skip (f_then (c_seq (c_block (c_seq (c_region (wl (st_ix I_ok rfl 33 rfl i rfl (by omega) (qoff + i * 33) rfl (wl (st_ldN I_ok rfl ((hsq i hi).extNo hX) (LeafD.len ha1.2) (wl (st_al I_ok rfl fun b5 w8 hn5 hb5 hE8 => ?_)))))))))))
    have fr5 := Nat.le_trans hX.size hn5
    have hO := hO.ext hE8 fun _ _ => id
    have hX := hX.thenNo hE8
    have hb5o := hb5
    refine wl (st_stW (l' := (x.leaves[i]).cells) I_ok hb5 rfl rfl (LeafD.len ha1.2) (LeafD.len ha1.2) OneC.h fun w9 hb5 hE9 hs9 => ?_)
    have hO := hO.extTy hE9 hb5o (by decide)
    have hX := hX.thenNew hE9 fr5
    refine wl_nil (f_then (c_draw rfl 9 [(0, true), (1, true), (2, true), (5, true), (6, true), (3, false), (4, false), (7, false), (8, true)] [] (OwnB q) (by kernel_rfl) fun w10 hE10 hs10 => ?_))
    have hd5 := hb5
    have hOd := hO
    have hb5 := hb5.extNo hE10
    have hO := hO.ext hE10 fun _ _ => id
    have hX := hX.thenNo hE10
    have hC : Ext (OwnB q) _ w10 := hE10.no
    have hqs : ∀ y, OwnB q y → OwnB q y ∨ w9.heap.size ≤ y := fun y h => .inl h
    have hOl : ∀ y, OwnB q y → y < w9.heap.size := fun y h => hOd.lt h
    refine wd_k I_ok 2 rfl (wd_ld I_ok rfl rfl (fun w' hw' => ((hd5.ext (show Ext (OwnB q) _ w' from hw') fun hx' => hOd.neTy hx' hd5 (by decide) rfl).cell rfl)) ?_)
    refine wd_k I_ok 1 rfl (wd_sa I_ok rfl rfl 0 32 32 1 rfl ⟨.inr ⟨rfl, rfl⟩, .inr ⟨rfl, rfl⟩, .inr ⟨rfl, rfl⟩, by decide, by decide, by decide⟩ ?_)
    rw [slBase_zero, Nat.sub_zero]
    refine wd_l rfl (st_call Tryz.call88 rfl rfl rfl rfl rfl rfl (some6_calls w10 (x.leaves[i]).path 1 (by decide) (by omega)) fun v11 w11 hr11 => ⟨(by obtain ⟨qp, kp, rfl, hqp, hqpn, hE11⟩ := hr11; exact hC.thenNo hE11), ?_⟩)
    obtain ⟨qp, kp, rfl, hqp, hqpn, hE11⟩ := hr11
    have hb5 := hb5.extNo hE11
    have hO := hO.ext hE11 fun _ _ => id
    have hX := hX.thenNo hE11
    have hC := hC.thenNo hE11
    have hX0 := hX
    have hC0 := hC
    refine wd_l rfl (st_app I_ok rfl 1 1 rfl rfl rfl (by decide) hO (Src.slice hqp.sl OneC.h) (by dsimp only [maxLen]; simp only [List.length_append, be_len, strB_len]; omega) (by dsimp only; simp only [List.length_append, be_len, strB_len]; omega) fun p12 c12 w12 ho12 hE12 hB12 => ⟨hC.trans hE12 (fun y hy hF => (hqs y hF).elim id (fun h => absurd hy (Nat.not_lt.2 h))), ?_⟩)
    have hC := hC.trans hE12 (fun y hy hF => (hqs y hF).elim id (fun h => absurd hy (Nat.not_lt.2 h)))
    dsimp only at ho12 hE12 hB12 ⊢
    have hb5 := hb5.extOwn hO hE12 (show (5 : Nat) ≠ 50 from by decide)
    have hX := hX0.trans hE12 fun y hy hF => by have := hOn y hF; omega
    have hOn2 := newW hX0 hOn hB12
    have e3 : (be 1 x.kind.toNat ++ be 1 x.leaves.length ++ (x.leaves.take i).flatMap leafB).length + (strB 1 (x.leaves[i]).path).length = (be 1 x.kind.toNat ++ be 1 x.leaves.length ++ (x.leaves.take i).flatMap leafB ++ strB 1 (x.leaves[i]).path).length := by simp only [List.length_append, be_len, strB_len] <;> omega
    obtain ⟨q, k, e1, e2, hO2⟩ : ∃ q k, q = p12 ∧ k = c12 ∧ Own w12 q (be 1 x.kind.toNat ++ be 1 x.leaves.length ++ (x.leaves.take i).flatMap leafB ++ strB 1 (x.leaves[i]).path).length k 5 1 (bytesU (be 1 x.kind.toNat ++ be 1 x.leaves.length ++ (x.leaves.take i).flatMap leafB ++ strB 1 (x.leaves[i]).path)) := ⟨_, _, rfl, rfl, by
     rw [← e3, bytesU_append (be 1 x.kind.toNat ++ be 1 x.leaves.length ++ (x.leaves.take i).flatMap leafB)]
     exact ho12⟩
    rw [← e1] at hOn2 hB12
    have hqs := fun y hy => (hB12 y hy).elim (hqs y) fun h => .inr (Nat.le_trans hC0.size h)
    have hO := hO2
    have hOn := hOn2
    rw [← e1, ← e2, e3]
    have hX0 := hX
    have hC0 := hC
    refine wd_l rfl (st_app I_ok rfl 1 1 rfl rfl rfl (by decide) hO (Src.slice (m := 32) ⟨IdIn.len ha3, .inr ⟨b5, 0 + 1, rfl, (by have := hb5.seg.drop 1; exact this)⟩⟩ OneC.h) (by dsimp only [maxLen]; simp only [List.length_append, be_len, strB_len]; omega) (by dsimp only; simp only [List.length_append, be_len, strB_len]; omega) fun p13 c13 w13 ho13 hE13 hB13 => ⟨hC.trans hE13 (fun y hy hF => (hqs y hF).elim id (fun h => absurd hy (Nat.not_lt.2 h))), ?_⟩)
    dsimp only at ho13 hE13 hB13 ⊢
    have hX := hX0.trans hE13 fun y hy hF => by have := hOn y hF; omega
    have hOn2 := newW hX0 hOn hB13
    have e3 : (be 1 x.kind.toNat ++ be 1 x.leaves.length ++ (x.leaves.take i).flatMap leafB ++ strB 1 (x.leaves[i]).path).length + 32 = (be 1 x.kind.toNat ++ be 1 x.leaves.length ++ (x.leaves.take i).flatMap leafB ++ strB 1 (x.leaves[i]).path ++ (x.leaves[i]).id).length := by simp only [List.length_append, be_len, strB_len] <;> omega
    obtain ⟨q, k, e1, e2, hO2⟩ : ∃ q k, q = p13 ∧ k = c13 ∧ Own w13 q (be 1 x.kind.toNat ++ be 1 x.leaves.length ++ (x.leaves.take i).flatMap leafB ++ strB 1 (x.leaves[i]).path ++ (x.leaves[i]).id).length k 5 1 (bytesU (be 1 x.kind.toNat ++ be 1 x.leaves.length ++ (x.leaves.take i).flatMap leafB ++ strB 1 (x.leaves[i]).path ++ (x.leaves[i]).id)) := ⟨_, _, rfl, rfl, by
     rw [← e3, bytesU_append (be 1 x.kind.toNat ++ be 1 x.leaves.length ++ (x.leaves.take i).flatMap leafB ++ strB 1 (x.leaves[i]).path)]
     exact ho13⟩
    rw [← e1] at hOn2 hB13
    have hqs := fun y hy => (hB13 y hy).elim (hqs y) fun h => .inr (Nat.le_trans hC0.size h)
    have hO := hO2
    have hOn := hOn2
    rw [← e1, ← e2, e3]
    refine wd_k I_ok 1 rfl (wd_sw (wb_nil (f_blockN (f_then (c_region (wl_p I_ok rfl ?_))))))
    rw [IntWalk.i64_in _ (by omega)]
    refine wl_nil ?_
    exact f_round (i + 1, q, k) (by rw [show be 1 x.kind.toNat ++ be 1 x.leaves.length ++ (x.leaves.take (i + 1)).flatMap leafB = be 1 x.kind.toNat ++ be 1 x.leaves.length ++ (x.leaves.take i).flatMap leafB ++ strB 1 (x.leaves[i]).path ++ (x.leaves[i]).id from by rw [flat_take hi, leafB]; simp]; rfl) ⟨⟨hi, by rw [show be 1 x.kind.toNat ++ be 1 x.leaves.length ++ (x.leaves.take (i + 1)).flatMap leafB = be 1 x.kind.toNat ++ be 1 x.leaves.length ++ (x.leaves.take i).flatMap leafB ++ strB 1 (x.leaves[i]).path ++ (x.leaves[i]).id from by rw [flat_take hi, leafB]; simp]; exact hO, hOn⟩, hX⟩ (by first | omega | (dsimp only; omega))
   ·have h0 : i = x.leaves.length := by omega
    subst h0
    rw [List.take_length] at hO ⊢
    have hlaid : laidB x = be 1 x.kind.toNat ++ be 1 x.leaves.length ++ x.leaves.flatMap leafB := by rw [laidB, if_neg h1, if_pos h2, treeB, List.append_assoc]
    refine c_exit (f_thenE (f_thenE (f_blockE (f_then (c_seq (c_region (wl_p I_ok rfl (wl_nil (f_then (c_ret (f_blockR (f_thenR (f_ret1 rfl rfl ?_)))))))))))))
    exact ⟨q, k, by rw [hlaid], by rw [hlaid]; exact hO, hOn, hX⟩
  ·have h2 : ¬ x.kind = 2 := hc
   have h3 : x.kind = 3 := by
    rcases hf.k with h | h | h
    ·exact absurd h h1
    ·exact absurd h h2
    ·exact h
   obtain ⟨hl32, hp48⟩ := hf.rows h3
   obtain ⟨hpl, hst⟩ := hf.com h3
   have hnl := hf.note h3
   have htr := hx.tree
   have hba := hx.base
   have hpf := flatten_len (n := 32) hx.parents
   refine c_skip (f_blockN (f_then (c_seq (c_draw rfl 10 [(0, true), (1, true), (2, true), (3, true), (6, true), (7, true), (4, false), (5, false), (8, false), (9, true)] [] (OwnB q) (by kernel_rfl) fun w14 hE14 hs14 => ?_))))
   have hd1 := hb1
   have hOd := hO
   have hb1 := hb1.extNo hE14
   have hO := hO.ext hE14 fun _ _ => id
   have hX := hX.thenNo hE14
   have hC : Ext (OwnB q) _ w14 := hE14.no
   have hqs : ∀ y, OwnB q y → OwnB q y ∨ w2.heap.size ≤ y := fun y h => .inl h
   have hOl : ∀ y, OwnB q y → y < w2.heap.size := fun y h => hOd.lt h
   refine wd_k I_ok 2 rfl (wd_ld I_ok rfl rfl (fun w' hw' => ((hd1.ext (show Ext (OwnB q) _ w' from hw') fun hx' => hOd.neTy hx' hd1 (by decide) rfl).seg.obj hx).style) ?_)
   refine wd_k I_ok 1 rfl ?_
   rw [wrap_byteI hst]
   refine wd_k I_ok 1 rfl (wd_sa I_ok rfl rfl 0 32 32 1 rfl ⟨.inr ⟨rfl, rfl⟩, .inr ⟨rfl, rfl⟩, .inr ⟨rfl, rfl⟩, by decide, by decide, by decide⟩ ?_)
   rw [slBase_zero, Nat.sub_zero]
   refine wd_l rfl (st_bs I_ok rfl 1 rfl rfl rfl (by decide) (by decide) (by simp [partsOk]) (l' := bytesU [UInt8.ofNat x.style.toNat]) rfl fun b54 w15 hn54 hb54 hE15 hs15 => ⟨hC.thenNo hE15, ?_⟩)
   have fr54 := Nat.le_trans hX.size hn54
   have hb1 := hb1.extNo hE15
   have hO := hO.ext hE15 fun _ _ => id
   have hX := hX.thenNo hE15
   have hC := hC.thenNo hE15
   have hX0 := hX
   have hC0 := hC
   refine wd_l rfl (st_app I_ok rfl 1 1 rfl rfl rfl (by decide) hO (Src.slice (m := 1) ⟨rfl, .inr ⟨b54, 0, rfl, hb54.seg⟩⟩ OneC.h) (by dsimp only [maxLen]; simp only [be_len]; omega) (by dsimp only; simp only [be_len]; omega) fun p16 c16 w16 ho16 hE16 hB16 => ⟨hC.trans hE16 (fun y hy hF => (hqs y hF).elim id (fun h => absurd hy (Nat.not_lt.2 h))), ?_⟩)
   have hC := hC.trans hE16 (fun y hy hF => (hqs y hF).elim id (fun h => absurd hy (Nat.not_lt.2 h)))
   dsimp only at ho16 hE16 hB16 ⊢
   have hb1 := hb1.extOwn hO hE16 (show (5 : Nat) ≠ 48 from by decide)
   have hX := hX0.trans hE16 fun y hy hF => by have := hOn y hF; omega
   have hOn2 := newW hX0 hOn hB16
   have e3 : (be 1 x.kind.toNat).length + 1 = (be 1 x.kind.toNat ++ be 1 x.style.toNat).length := by simp only [List.length_append, be_len] <;> omega
   obtain ⟨q, k, e1, e2, hO2⟩ : ∃ q k, q = p16 ∧ k = c16 ∧ Own w16 q (be 1 x.kind.toNat ++ be 1 x.style.toNat).length k 5 1 (bytesU (be 1 x.kind.toNat ++ be 1 x.style.toNat)) := ⟨_, _, rfl, rfl, by
    rw [← e3, bytesU_append (be 1 x.kind.toNat)]
    exact ho16⟩
   rw [← e1] at hOn2 hB16
   have hqs := fun y hy => (hB16 y hy).elim (hqs y) fun h => .inr (Nat.le_trans hC0.size h)
   have hO := hO2
   have hOn := hOn2
   rw [← e1, ← e2, e3]
   have hX0 := hX
   have hC0 := hC
   refine wd_l rfl (st_app I_ok rfl 1 1 rfl rfl rfl (by decide) hO (Src.slice (m := 32) ⟨IdIn.len hx.tree, .inr ⟨b1, 0 + 4, rfl, (hb1.seg.obj hx).tree⟩⟩ OneC.h) (by dsimp only [maxLen]; simp only [List.length_append, be_len]; omega) (by dsimp only; simp only [List.length_append, be_len]; omega) fun p17 c17 w17 ho17 hE17 hB17 => ⟨hC.trans hE17 (fun y hy hF => (hqs y hF).elim id (fun h => absurd hy (Nat.not_lt.2 h))), ?_⟩)
   have hC := hC.trans hE17 (fun y hy hF => (hqs y hF).elim id (fun h => absurd hy (Nat.not_lt.2 h)))
   dsimp only at ho17 hE17 hB17 ⊢
   have hb1 := hb1.extOwn hO hE17 (show (5 : Nat) ≠ 48 from by decide)
   have hX := hX0.trans hE17 fun y hy hF => by have := hOn y hF; omega
   have hOn2 := newW hX0 hOn hB17
   have e3 : (be 1 x.kind.toNat ++ be 1 x.style.toNat).length + 32 = (be 1 x.kind.toNat ++ be 1 x.style.toNat ++ x.tree).length := by simp only [List.length_append, be_len] <;> omega
   obtain ⟨q, k, e1, e2, hO2⟩ : ∃ q k, q = p17 ∧ k = c17 ∧ Own w17 q (be 1 x.kind.toNat ++ be 1 x.style.toNat ++ x.tree).length k 5 1 (bytesU (be 1 x.kind.toNat ++ be 1 x.style.toNat ++ x.tree)) := ⟨_, _, rfl, rfl, by
    rw [← e3, bytesU_append (be 1 x.kind.toNat ++ be 1 x.style.toNat)]
    exact ho17⟩
   rw [← e1] at hOn2 hB17
   have hqs := fun y hy => (hB17 y hy).elim (hqs y) fun h => .inr (Nat.le_trans hC0.size h)
   have hO := hO2
   have hOn := hOn2
   rw [← e1, ← e2, e3]
   refine wd_k I_ok 1 rfl (wd_sw (wb_nil (f_then (c_seq (c_region (wl_p I_ok rfl (wl (st_ld I_ok rfl (hb1.seg.obj hx).parents (wl_p I_ok rfl ?_)))))))))
   rw [wrap_byte]
   refine wl (st_bs I_ok rfl 1 rfl rfl rfl (by decide) (by decide) (by simp [partsOk]) (l' := bytesU [UInt8.ofNat x.parents.length]) rfl fun b64 w18 hn64 hb64 hE18 hs18 => ?_)
   have fr64 := Nat.le_trans hX.size hn64
   have hb1 := hb1.extNo hE18
   have hO := hO.ext hE18 fun _ _ => id
   have hX := hX.thenNo hE18
   have hX0 := hX
   refine wl (st_app I_ok rfl 1 1 rfl rfl rfl (by decide) hO (Src.slice (m := 1) ⟨rfl, .inr ⟨b64, 0, rfl, hb64.seg⟩⟩ OneC.h) (by dsimp only [maxLen]; simp only [List.length_append, be_len]; omega) (by dsimp only; simp only [List.length_append, be_len]; omega) fun p19 c19 w19 ho19 hE19 hB19 => ?_)
   dsimp only at ho19 hE19 hB19 ⊢
   have hb1 := hb1.extOwn hO hE19 (show (5 : Nat) ≠ 48 from by decide)
   have hX := hX0.trans hE19 fun y hy hF => by have := hOn y hF; omega
   have hOn2 := newW hX0 hOn hB19
   have e3 : (be 1 x.kind.toNat ++ be 1 x.style.toNat ++ x.tree).length + 1 = (be 1 x.kind.toNat ++ be 1 x.style.toNat ++ x.tree ++ be 1 x.parents.length).length := by simp only [List.length_append, be_len] <;> omega
   obtain ⟨q, k, e1, e2, hO2⟩ : ∃ q k, q = p19 ∧ k = c19 ∧ Own w19 q (be 1 x.kind.toNat ++ be 1 x.style.toNat ++ x.tree ++ be 1 x.parents.length).length k 5 1 (bytesU (be 1 x.kind.toNat ++ be 1 x.style.toNat ++ x.tree ++ be 1 x.parents.length)) := ⟨_, _, rfl, rfl, by
    rw [← e3, bytesU_append (be 1 x.kind.toNat ++ be 1 x.style.toNat ++ x.tree)]
    exact ho19⟩
   rw [← e1] at hOn2 hB19
   have hO := hO2
   have hOn := hOn2
   rw [← e1, ← e2, e3]
   refine wl_p I_ok rfl (wl_nil (f_then (c_seq (c_seq (c_region (wl_p I_ok rfl (wl (st_ld I_ok rfl (hb1.seg.obj hx).parents ?_))))))))
   rw [show (be 1 x.kind.toNat ++ be 1 x.style.toNat ++ x.tree ++ be 1 x.parents.length).length = (be 1 x.kind.toNat ++ be 1 x.style.toNat ++ x.tree ++ be 1 x.parents.length ++ (x.parents.take 0).flatten).length from by simp]
   refine wl_p I_ok rfl (wl_nil (f_then (c_block ?_)))
   refine c_loopK (α := Nat × Option Addr × Nat) [1, 67, 68] rfl (fun z => [(3, .slice z.2.1 (be 1 x.kind.toNat ++ be 1 x.style.toNat ++ x.tree ++ be 1 x.parents.length ++ (x.parents.take z.1).flatten).length z.2.2), (69, .int .i64 (z.1 : Int))]) (fun z u => (z.1 ≤ x.parents.length ∧ Own u z.2.1 (be 1 x.kind.toNat ++ be 1 x.style.toNat ++ x.tree ++ be 1 x.parents.length ++ (x.parents.take z.1).flatten).length z.2.2 5 1 (bytesU (be 1 x.kind.toNat ++ be 1 x.style.toNat ++ x.tree ++ be 1 x.parents.length ++ (x.parents.take z.1).flatten)) ∧ ∀ y, OwnB z.2.1 y → w.heap.size ≤ y) ∧ Blk u b1 48 (objC x a) ∧ Ext No w u) (fun z u => x.parents.length - z.1) (0, q, k) rfl ⟨⟨Nat.zero_le _, by simpa using hO, hOn⟩, hb1, hX⟩ ?_
   rintro ⟨i, q, k⟩ w20 ⟨⟨hi, hO, hOn⟩, hb1, hX⟩
   try dsimp only
   dsimp only at hi hO hOn
   refine c_seq (c_region (wl_p I_ok rfl (wl_nil (f_then (c_seq (c_if rfl (fun hc => ?_) (fun hc => ?_)))))))
   ·have hi : i < x.parents.length := by omega
    obtain ⟨qb, qoff, hp, hsq⟩ := hxl.parents.rowAll (fun r hr => IdIn.len (hx.parents r hr)) (by omega)
    rw [hp]
    have ha1 : IdIn x.parents[i] := hx.parents _ (List.getElem_mem hi)
    have ha3 : x.parents[i].length = 32 := ha1
    have hfl := flatten_in hx.parents i
    rw [List.length_take, Nat.min_eq_left (by omega)] at hfl
    refine c_skip (f_then (c_seq (c_block (c_seq (c_region (wl (st_ix I_ok rfl 32 rfl i rfl (by omega) (qoff + i * 32) rfl (wl (st_ldN I_ok rfl ((hsq i hi).extNo hX) ha1.len (wl (st_al I_ok rfl fun b7 w21 hn7 hb7 hE21 => ?_)))))))))))
    have ne1_7 : b1 ≠ b7 := Nat.ne_of_lt (Nat.lt_of_lt_of_le hb1.lt hn7)
    have fr7 := Nat.le_trans hX.size hn7
    have hb1 := hb1.extNo hE21
    have hO := hO.ext hE21 fun _ _ => id
    have hX := hX.thenNo hE21
    have hb7o := hb7
    refine wl (st_stW (l' := bytesU x.parents[i]) I_ok hb7 rfl rfl ha1.len ha1.len OneC.h fun w22 hb7 hE22 hs22 => ?_)
    have hb1 := hb1.ext1 hE22 ne1_7
    have hO := hO.extTy hE22 hb7o (by decide)
    have hX := hX.thenNew hE22 fr7
    refine wl_nil (f_then (c_region (wl_p I_ok rfl (wl (st_sa I_ok rfl 0 32 32 1 rfl ⟨.inr ⟨rfl, rfl⟩, .inr ⟨rfl, rfl⟩, .inr ⟨rfl, rfl⟩, by decide, by decide, by decide⟩ ?_)))))
    rw [slBase_zero, Nat.sub_zero]
    have hX0 := hX
    refine wl (st_app I_ok rfl 1 1 rfl rfl rfl (by decide) hO (Src.slice (m := 32) ⟨IdIn.len ha1, .inr ⟨b7, 0, rfl, hb7.seg⟩⟩ OneC.h) (by dsimp only [maxLen]; simp only [List.length_append, be_len]; omega) (by dsimp only; simp only [List.length_append, be_len]; omega) fun p23 c23 w23 ho23 hE23 hB23 => ?_)
    dsimp only at ho23 hE23 hB23 ⊢
    have hb1 := hb1.extOwn hO hE23 (show (5 : Nat) ≠ 48 from by decide)
    have hX := hX0.trans hE23 fun y hy hF => by have := hOn y hF; omega
    have hOn2 := newW hX0 hOn hB23
    have e3 : (be 1 x.kind.toNat ++ be 1 x.style.toNat ++ x.tree ++ be 1 x.parents.length ++ (x.parents.take i).flatten).length + 32 = (be 1 x.kind.toNat ++ be 1 x.style.toNat ++ x.tree ++ be 1 x.parents.length ++ (x.parents.take i).flatten ++ x.parents[i]).length := by simp only [List.length_append, be_len] <;> omega
    obtain ⟨q, k, e1, e2, hO2⟩ : ∃ q k, q = p23 ∧ k = c23 ∧ Own w23 q (be 1 x.kind.toNat ++ be 1 x.style.toNat ++ x.tree ++ be 1 x.parents.length ++ (x.parents.take i).flatten ++ x.parents[i]).length k 5 1 (bytesU (be 1 x.kind.toNat ++ be 1 x.style.toNat ++ x.tree ++ be 1 x.parents.length ++ (x.parents.take i).flatten ++ x.parents[i])) := ⟨_, _, rfl, rfl, by
     rw [← e3, bytesU_append (be 1 x.kind.toNat ++ be 1 x.style.toNat ++ x.tree ++ be 1 x.parents.length ++ (x.parents.take i).flatten)]
     exact ho23⟩
    rw [← e1] at hOn2 hB23
    have hO := hO2
    have hOn := hOn2
    rw [← e1, ← e2, e3]
    refine wl_p I_ok rfl (wl_nil (f_blockN (f_then (c_region (wl_p I_ok rfl ?_)))))
    rw [IntWalk.i64_in _ (by omega)]
    refine wl_nil ?_
    exact f_round (i + 1, q, k) (by rw [show be 1 x.kind.toNat ++ be 1 x.style.toNat ++ x.tree ++ be 1 x.parents.length ++ (x.parents.take (i + 1)).flatten = be 1 x.kind.toNat ++ be 1 x.style.toNat ++ x.tree ++ be 1 x.parents.length ++ (x.parents.take i).flatten ++ x.parents[i] from by rw [flatten_take hi]; simp]; rfl) ⟨⟨hi, by rw [show be 1 x.kind.toNat ++ be 1 x.style.toNat ++ x.tree ++ be 1 x.parents.length ++ (x.parents.take (i + 1)).flatten = be 1 x.kind.toNat ++ be 1 x.style.toNat ++ x.tree ++ be 1 x.parents.length ++ (x.parents.take i).flatten ++ x.parents[i] from by rw [flatten_take hi]; simp]; exact hO, hOn⟩, hb1, hX⟩ (by first | omega | (dsimp only; omega))
   ·have h0 : i = x.parents.length := by omega
    subst h0
    rw [List.take_length] at hO ⊢
    refine c_exit (f_thenE (f_thenE (f_blockE (f_then ?_))))
    refine c_cutK (α := Option Addr × Nat) [1] rfl (fun z => [(3, .slice z.1 (be 1 x.kind.toNat ++ be 1 x.style.toNat ++ x.tree ++ be 1 x.parents.length ++ x.parents.flatten ++ x.base ++ be 1 x.rows.length).length z.2)]) (fun z u => (Own u z.1 (be 1 x.kind.toNat ++ be 1 x.style.toNat ++ x.tree ++ be 1 x.parents.length ++ x.parents.flatten ++ x.base ++ be 1 x.rows.length).length z.2 5 1 (bytesU (be 1 x.kind.toNat ++ be 1 x.style.toNat ++ x.tree ++ be 1 x.parents.length ++ x.parents.flatten ++ x.base ++ be 1 x.rows.length)) ∧ ∀ y, OwnB z.1 y → w.heap.size ≤ y) ∧ Blk u b1 48 (objC x a) ∧ Ext No w u) ?_ ?_
    ·refine c_drawX rfl 12 12 [] (OwnB q) (by kernel_rfl) fun w24 hE24 hs24 => ?_
     have hd1 := hb1
     have hOd := hO
     have hb1 := hb1.extNo hE24
     have hO := hO.ext hE24 fun _ _ => id
     have hX := hX.thenNo hE24
     have hC : Ext (OwnB q) _ w24 := hE24.no
     have hqs : ∀ y, OwnB q y → OwnB q y ∨ w20.heap.size ≤ y := fun y h => .inl h
     have hOl : ∀ y, OwnB q y → y < w20.heap.size := fun y h => hOd.lt h
     refine wx_plan [(0, true), (1, true), (2, true), (4, true), (5, true), (6, true), (7, true), (8, true)] 4 rfl (by kernel_rfl) (wd_k I_ok 2 rfl ?_)
     refine wd_sa I_ok rfl rfl 0 32 32 1 rfl ⟨.inr ⟨rfl, rfl⟩, .inr ⟨rfl, rfl⟩, .inr ⟨rfl, rfl⟩, by decide, by decide, by decide⟩ ?_
     rw [slBase_zero, Nat.sub_zero]
     refine wd_k I_ok 2 rfl (wd_ld I_ok rfl rfl (fun w' hw' => ((hd1.ext (show Ext (OwnB q) _ w' from hw') fun hx' => hOd.neTy hx' hd1 (by decide) rfl).seg.obj hx).rows) ?_)
     refine wd_k I_ok 2 rfl ?_
     rw [wrap_byte]
     refine wd_tail rfl (wx_alt [3, 9] rfl (by kernel_rfl) ⟨⟨_, rfl, ?_⟩, ⟨_, rfl, ?_⟩, trivial⟩)
     ·have hX0 := hX
      have hC0 := hC
      refine st_app I_ok rfl 1 1 rfl rfl rfl (by decide) hO (Src.slice (m := 32) ⟨IdIn.len hx.base, .inr ⟨b1, 0 + 36, rfl, (hb1.seg.obj hx).base⟩⟩ OneC.h) (by dsimp only [maxLen]; simp only [List.length_append, be_len]; omega) (by dsimp only; simp only [List.length_append, be_len]; omega) fun p25 c25 w25 ho25 hE25 hB25 => ⟨hC.trans hE25 (fun y hy hF => (hqs y hF).elim id (fun h => absurd hy (Nat.not_lt.2 h))), ?_⟩
      have hC := hC.trans hE25 (fun y hy hF => (hqs y hF).elim id (fun h => absurd hy (Nat.not_lt.2 h)))
      dsimp only at ho25 hE25 hB25 ⊢
      have hb1 := hb1.extOwn hO hE25 (show (5 : Nat) ≠ 48 from by decide)
      try have hb86 := hb86.ext hE25 (fun hx => by have := hOl _ hx; omega)
      have hX := hX0.trans hE25 fun y hy hF => by have := hOn y hF; omega
      have hOn2 := newW hX0 hOn hB25
      have e3 : (be 1 x.kind.toNat ++ be 1 x.style.toNat ++ x.tree ++ be 1 x.parents.length ++ x.parents.flatten).length + 32 = (be 1 x.kind.toNat ++ be 1 x.style.toNat ++ x.tree ++ be 1 x.parents.length ++ x.parents.flatten ++ x.base).length := by simp only [List.length_append, be_len] <;> omega
      obtain ⟨q, k, e1, e2, hO2⟩ : ∃ q k, q = p25 ∧ k = c25 ∧ Own w25 q (be 1 x.kind.toNat ++ be 1 x.style.toNat ++ x.tree ++ be 1 x.parents.length ++ x.parents.flatten ++ x.base).length k 5 1 (bytesU (be 1 x.kind.toNat ++ be 1 x.style.toNat ++ x.tree ++ be 1 x.parents.length ++ x.parents.flatten ++ x.base)) := ⟨_, _, rfl, rfl, by
       rw [← e3, bytesU_append (be 1 x.kind.toNat ++ be 1 x.style.toNat ++ x.tree ++ be 1 x.parents.length ++ x.parents.flatten)]
       exact ho25⟩
      rw [← e1] at hOn2 hB25
      have hqs := fun y hy => (hB25 y hy).elim (hqs y) fun h => .inr (Nat.le_trans hC0.size h)
      have hO := hO2
      have hOn := hOn2
      rw [← e1, ← e2, e3]
      refine wx_plan [(9, false), (10, false), (11, true)] 0 rfl (by kernel_rfl) ?_
      refine wd_l rfl (st_bs I_ok rfl 1 rfl rfl rfl (by decide) (by decide) (by simp [partsOk]) (l' := bytesU [UInt8.ofNat x.rows.length]) rfl fun b86 w26 hn86 hb86 hE26 hs26 => ⟨hC.thenNo hE26, ?_⟩)
      have fr86 := Nat.le_trans hX.size hn86
      have frhC86 := Nat.le_trans hC.size hn86
      have hb1 := hb1.extNo hE26
      have hO := hO.ext hE26 fun _ _ => id
      have hX := hX.thenNo hE26
      have hC := hC.thenNo hE26
      have hX0 := hX
      have hC0 := hC
      refine wd_l rfl (st_app I_ok rfl 1 1 rfl rfl rfl (by decide) hO (Src.slice (m := 1) ⟨rfl, .inr ⟨b86, 0, rfl, hb86.seg⟩⟩ OneC.h) (by dsimp only [maxLen]; simp only [List.length_append, be_len]; omega) (by dsimp only; simp only [List.length_append, be_len]; omega) fun p27 c27 w27 ho27 hE27 hB27 => ⟨hC.trans hE27 (fun y hy hF => (hqs y hF).elim id (fun h => absurd hy (Nat.not_lt.2 h))), ?_⟩)
      dsimp only at ho27 hE27 hB27 ⊢
      have hb1 := hb1.extOwn hO hE27 (show (5 : Nat) ≠ 48 from by decide)
      have hX := hX0.trans hE27 fun y hy hF => by have := hOn y hF; omega
      have hOn2 := newW hX0 hOn hB27
      have e3 : (be 1 x.kind.toNat ++ be 1 x.style.toNat ++ x.tree ++ be 1 x.parents.length ++ x.parents.flatten ++ x.base).length + 1 = (be 1 x.kind.toNat ++ be 1 x.style.toNat ++ x.tree ++ be 1 x.parents.length ++ x.parents.flatten ++ x.base ++ be 1 x.rows.length).length := by simp only [List.length_append, be_len] <;> omega
      obtain ⟨q, k, e1, e2, hO2⟩ : ∃ q k, q = p27 ∧ k = c27 ∧ Own w27 q (be 1 x.kind.toNat ++ be 1 x.style.toNat ++ x.tree ++ be 1 x.parents.length ++ x.parents.flatten ++ x.base ++ be 1 x.rows.length).length k 5 1 (bytesU (be 1 x.kind.toNat ++ be 1 x.style.toNat ++ x.tree ++ be 1 x.parents.length ++ x.parents.flatten ++ x.base ++ be 1 x.rows.length)) := ⟨_, _, rfl, rfl, by
       rw [← e3, bytesU_append (be 1 x.kind.toNat ++ be 1 x.style.toNat ++ x.tree ++ be 1 x.parents.length ++ x.parents.flatten ++ x.base)]
       exact ho27⟩
      rw [← e1] at hOn2 hB27
      have hqs := fun y hy => (hB27 y hy).elim (hqs y) fun h => .inr (Nat.le_trans hC0.size h)
      have hO := hO2
      have hOn := hOn2
      rw [← e1, ← e2, e3]
      refine wd_k I_ok 1 rfl (wd_sw (wb_nil ?_))
      exact f_cut (q, k) rfl ⟨⟨hO, hOn⟩, hb1, hX⟩
     ·refine st_bs I_ok rfl 1 rfl rfl rfl (by decide) (by decide) (by simp [partsOk]) (l' := bytesU [UInt8.ofNat x.rows.length]) rfl fun b86 w28 hn86 hb86 hE28 hs28 => ⟨hC.thenNo hE28, ?_⟩
      have fr86 := Nat.le_trans hX.size hn86
      have frhC86 := Nat.le_trans hC.size hn86
      have hb1 := hb1.extNo hE28
      have hO := hO.ext hE28 fun _ _ => id
      have hX := hX.thenNo hE28
      have hC := hC.thenNo hE28
      refine wx_plan [(3, false), (10, false), (11, true)] 0 rfl (by kernel_rfl) ?_
      have hX0 := hX
      have hC0 := hC
      refine wd_l rfl (st_app I_ok rfl 1 1 rfl rfl rfl (by decide) hO (Src.slice (m := 32) ⟨IdIn.len hx.base, .inr ⟨b1, 0 + 36, rfl, (hb1.seg.obj hx).base⟩⟩ OneC.h) (by dsimp only [maxLen]; simp only [List.length_append, be_len]; omega) (by dsimp only; simp only [List.length_append, be_len]; omega) fun p29 c29 w29 ho29 hE29 hB29 => ⟨hC.trans hE29 (fun y hy hF => (hqs y hF).elim id (fun h => absurd hy (Nat.not_lt.2 h))), ?_⟩)
      have hC := hC.trans hE29 (fun y hy hF => (hqs y hF).elim id (fun h => absurd hy (Nat.not_lt.2 h)))
      dsimp only at ho29 hE29 hB29 ⊢
      have hb1 := hb1.extOwn hO hE29 (show (5 : Nat) ≠ 48 from by decide)
      try have hb86 := hb86.ext hE29 (fun hx => by have := hOl _ hx; omega)
      have hX := hX0.trans hE29 fun y hy hF => by have := hOn y hF; omega
      have hOn2 := newW hX0 hOn hB29
      have e3 : (be 1 x.kind.toNat ++ be 1 x.style.toNat ++ x.tree ++ be 1 x.parents.length ++ x.parents.flatten).length + 32 = (be 1 x.kind.toNat ++ be 1 x.style.toNat ++ x.tree ++ be 1 x.parents.length ++ x.parents.flatten ++ x.base).length := by simp only [List.length_append, be_len] <;> omega
      obtain ⟨q, k, e1, e2, hO2⟩ : ∃ q k, q = p29 ∧ k = c29 ∧ Own w29 q (be 1 x.kind.toNat ++ be 1 x.style.toNat ++ x.tree ++ be 1 x.parents.length ++ x.parents.flatten ++ x.base).length k 5 1 (bytesU (be 1 x.kind.toNat ++ be 1 x.style.toNat ++ x.tree ++ be 1 x.parents.length ++ x.parents.flatten ++ x.base)) := ⟨_, _, rfl, rfl, by
       rw [← e3, bytesU_append (be 1 x.kind.toNat ++ be 1 x.style.toNat ++ x.tree ++ be 1 x.parents.length ++ x.parents.flatten)]
       exact ho29⟩
      rw [← e1] at hOn2 hB29
      have hqs := fun y hy => (hB29 y hy).elim (hqs y) fun h => .inr (Nat.le_trans hC0.size h)
      have hO := hO2
      have hOn := hOn2
      rw [← e1, ← e2, e3]
      have hX0 := hX
      have hC0 := hC
      refine wd_l rfl (st_app I_ok rfl 1 1 rfl rfl rfl (by decide) hO (Src.slice (m := 1) ⟨rfl, .inr ⟨b86, 0, rfl, hb86.seg⟩⟩ OneC.h) (by dsimp only [maxLen]; simp only [List.length_append, be_len]; omega) (by dsimp only; simp only [List.length_append, be_len]; omega) fun p30 c30 w30 ho30 hE30 hB30 => ⟨hC.trans hE30 (fun y hy hF => (hqs y hF).elim id (fun h => absurd hy (Nat.not_lt.2 h))), ?_⟩)
      dsimp only at ho30 hE30 hB30 ⊢
      have hb1 := hb1.extOwn hO hE30 (show (5 : Nat) ≠ 48 from by decide)
      have hX := hX0.trans hE30 fun y hy hF => by have := hOn y hF; omega
      have hOn2 := newW hX0 hOn hB30
      have e3 : (be 1 x.kind.toNat ++ be 1 x.style.toNat ++ x.tree ++ be 1 x.parents.length ++ x.parents.flatten ++ x.base).length + 1 = (be 1 x.kind.toNat ++ be 1 x.style.toNat ++ x.tree ++ be 1 x.parents.length ++ x.parents.flatten ++ x.base ++ be 1 x.rows.length).length := by simp only [List.length_append, be_len] <;> omega
      obtain ⟨q, k, e1, e2, hO2⟩ : ∃ q k, q = p30 ∧ k = c30 ∧ Own w30 q (be 1 x.kind.toNat ++ be 1 x.style.toNat ++ x.tree ++ be 1 x.parents.length ++ x.parents.flatten ++ x.base ++ be 1 x.rows.length).length k 5 1 (bytesU (be 1 x.kind.toNat ++ be 1 x.style.toNat ++ x.tree ++ be 1 x.parents.length ++ x.parents.flatten ++ x.base ++ be 1 x.rows.length)) := ⟨_, _, rfl, rfl, by
       rw [← e3, bytesU_append (be 1 x.kind.toNat ++ be 1 x.style.toNat ++ x.tree ++ be 1 x.parents.length ++ x.parents.flatten ++ x.base)]
       exact ho30⟩
      rw [← e1] at hOn2 hB30
      have hqs := fun y hy => (hB30 y hy).elim (hqs y) fun h => .inr (Nat.le_trans hC0.size h)
      have hO := hO2
      have hOn := hOn2
      rw [← e1, ← e2, e3]
      refine wd_k I_ok 1 rfl (wd_sw (wb_nil ?_))
      exact f_cut (q, k) rfl ⟨⟨hO, hOn⟩, hb1, hX⟩
    rintro ⟨q, k⟩ w31 ⟨⟨hO, hOn⟩, hb1, hX⟩
    try dsimp only
    dsimp only at hO hOn
    refine c_seq (c_seq (c_region (wl_p I_ok rfl (wl (st_ld I_ok rfl (hb1.seg.obj hx).rows ?_)))))
    rw [show (be 1 x.kind.toNat ++ be 1 x.style.toNat ++ x.tree ++ be 1 x.parents.length ++ x.parents.flatten ++ x.base ++ be 1 x.rows.length).length = (be 1 x.kind.toNat ++ be 1 x.style.toNat ++ x.tree ++ be 1 x.parents.length ++ x.parents.flatten ++ x.base ++ be 1 x.rows.length ++ (x.rows.take 0).flatMap chgB).length from by simp]
    refine wl_p I_ok rfl (wl_nil (f_then (c_block ?_)))
    refine c_loopK (α := Nat × Option Addr × Nat) [1, 90, 91] rfl (fun z => [(3, .slice z.2.1 (be 1 x.kind.toNat ++ be 1 x.style.toNat ++ x.tree ++ be 1 x.parents.length ++ x.parents.flatten ++ x.base ++ be 1 x.rows.length ++ (x.rows.take z.1).flatMap chgB).length z.2.2), (92, .int .i64 (z.1 : Int))]) (fun z u => (z.1 ≤ x.rows.length ∧ Own u z.2.1 (be 1 x.kind.toNat ++ be 1 x.style.toNat ++ x.tree ++ be 1 x.parents.length ++ x.parents.flatten ++ x.base ++ be 1 x.rows.length ++ (x.rows.take z.1).flatMap chgB).length z.2.2 5 1 (bytesU (be 1 x.kind.toNat ++ be 1 x.style.toNat ++ x.tree ++ be 1 x.parents.length ++ x.parents.flatten ++ x.base ++ be 1 x.rows.length ++ (x.rows.take z.1).flatMap chgB)) ∧ ∀ y, OwnB z.2.1 y → w.heap.size ≤ y) ∧ Blk u b1 48 (objC x a) ∧ Ext No w u) (fun z u => x.rows.length - z.1) (0, q, k) rfl ⟨⟨Nat.zero_le _, by simpa using hO, hOn⟩, hb1, hX⟩ ?_
    rintro ⟨i, q, k⟩ w32 ⟨⟨hi, hO, hOn⟩, hb1, hX⟩
    try dsimp only
    dsimp only at hi hO hOn
    refine c_seq (c_region (wl_p I_ok rfl (wl_nil (f_then (c_seq (c_if rfl (fun hc => ?_) (fun hc => ?_)))))))
    ·have hi : i < x.rows.length := by omega
     obtain ⟨qb, qoff, hp, hsq⟩ := hxl.rows.rowAll (fun r _ => r.len) (by omega)
     rw [hp]
     have ha2 := hp48 _ (List.getElem_mem hi)
     have hfl : ((x.rows.take i).flatMap chgB).length ≤ (x.rows.take i).length * 400 := flat_le fun r hr => chgB_le (hp48 r (List.mem_of_mem_take hr))
     rw [List.length_take, Nat.min_eq_left (by omega)] at hfl
     refine c_skip (f_then ?_)
     refine c_cutK (α := Option Addr × Nat) [1, 90, 91, 92] rfl (fun z => [(3, .slice z.1 (be 1 x.kind.toNat ++ be 1 x.style.toNat ++ x.tree ++ be 1 x.parents.length ++ x.parents.flatten ++ x.base ++ be 1 x.rows.length ++ (x.rows.take i).flatMap chgB ++ strB 1 (x.rows[i]).path ++ [isB (x.rows[i]).is] ++ strB 2 (x.rows[i]).text).length z.2)]) (fun z u => (Own u z.1 (be 1 x.kind.toNat ++ be 1 x.style.toNat ++ x.tree ++ be 1 x.parents.length ++ x.parents.flatten ++ x.base ++ be 1 x.rows.length ++ (x.rows.take i).flatMap chgB ++ strB 1 (x.rows[i]).path ++ [isB (x.rows[i]).is] ++ strB 2 (x.rows[i]).text).length z.2 5 1 (bytesU (be 1 x.kind.toNat ++ be 1 x.style.toNat ++ x.tree ++ be 1 x.parents.length ++ x.parents.flatten ++ x.base ++ be 1 x.rows.length ++ (x.rows.take i).flatMap chgB ++ strB 1 (x.rows[i]).path ++ [isB (x.rows[i]).is] ++ strB 2 (x.rows[i]).text)) ∧ ∀ y, OwnB z.1 y → w.heap.size ≤ y) ∧ Blk u b1 48 (objC x a) ∧ Ext No w u) ?_ ?_
     ·refine c_block ?_
      refine c_seq (c_region (wl (st_ix I_ok rfl 3 rfl i rfl (by omega) (qoff + i * 3) rfl (wl (st_ldN I_ok rfl ((hsq i hi).extNo hX) rfl (wl (st_al I_ok rfl fun b9 w33 hn9 hb9 hE33 => ?_)))))))
      have ne1_9 : b1 ≠ b9 := Nat.ne_of_lt (Nat.lt_of_lt_of_le hb1.lt hn9)
      have fr9 := Nat.le_trans hX.size hn9
      have hb1 := hb1.extNo hE33
      have hO := hO.ext hE33 fun _ _ => id
      have hX := hX.thenNo hE33
      have hb9o := hb9
      refine wl (st_stW (l' := (x.rows[i]).cells) I_ok hb9 rfl rfl rfl rfl OneC.h fun w34 hb9 hE34 hs34 => ?_)
      have hb1 := hb1.ext1 hE34 ne1_9
      have hO := hO.extTy hE34 hb9o (by decide)
      have hX := hX.thenNew hE34 fr9
      refine wl_nil (f_then (c_seq (c_region (wl_p I_ok rfl (wl_nil (f_then (c_cutK (α := UInt8) [1, 3, 9, 90, 91, 92] rfl (fun z => [(10, .int .u8 (z.toNat : Int))]) (fun z u => u = w34 ∧ z = isB (x.rows[i]).is) ?_ ?_)))))))
      ·refine c_seq ?_
       refine c_region (wl_p I_ok rfl (wl (st_ldb I_ok hb9 rfl rfl (wl_nil (f_then (c_cond rfl (fun hc => ?_) (fun hc => ?_)))))))
       ·have his : isB (x.rows[i]).is = 1 := by rw [isB, hc]; rfl
        refine c_region (wl_p I_ok rfl (wl_nil ?_))
        exact f_cut (1) rfl ⟨rfl, his.symm⟩
       ·have his : isB (x.rows[i]).is = 0 := by rw [isB, hc]; rfl
        refine c_skip ?_
        exact f_cut (0) rfl ⟨rfl, his.symm⟩
      rintro z w35 ⟨hu, rfl⟩
      have hu := hu.symm
      subst hu
      refine c_drawX rfl 13 13 [] (OwnB q) (by kernel_rfl) fun w36 hE36 hs36 => ?_
      have hd9 := hb9
      have hOd := hO
      have hb1 := hb1.extNo hE36
      have hO := hO.ext hE36 fun _ _ => id
      have hX := hX.thenNo hE36
      have hC : Ext (OwnB q) _ w36 := hE36.no
      have hqs : ∀ y, OwnB q y → OwnB q y ∨ w34.heap.size ≤ y := fun y h => .inl h
      have hOl : ∀ y, OwnB q y → y < w34.heap.size := fun y h => hOd.lt h
      refine wx_plan [(0, true), (1, true), (2, true), (5, true), (8, true), (9, true)] 7 rfl (by kernel_rfl) (wd_k I_ok 2 rfl ?_)
      refine wd_ld I_ok rfl rfl (fun w' hw' => ((hd9.ext (show Ext (OwnB q) _ w' from hw') fun hx' => hOd.neTy hx' hd9 (by decide) rfl).cell rfl)) ?_
      refine wd_k I_ok 2 rfl (wd_ld I_ok rfl rfl (fun w' hw' => ((hd9.ext (show Ext (OwnB q) _ w' from hw') fun hx' => hOd.neTy hx' hd9 (by decide) rfl).cell rfl)) ?_)
      refine wd_tail rfl (wx_alt [3, 6] rfl (by kernel_rfl) ⟨⟨_, rfl, ?_⟩, ⟨_, rfl, ?_⟩, trivial⟩)
      ·refine st_call Tryz.call88 rfl rfl rfl rfl rfl rfl (some6_calls w36 (x.rows[i]).path 1 (by decide) (by omega)) fun v37 w37 hr37 => ⟨(by obtain ⟨qp, kp, rfl, hqp, hqpn, hE37⟩ := hr37; exact hC.thenNo hE37), ?_⟩
       obtain ⟨qp, kp, rfl, hqp, hqpn, hE37⟩ := hr37
       have hb1 := hb1.extNo hE37
       have hO := hO.ext hE37 fun _ _ => id
       have hX := hX.thenNo hE37
       have hC := hC.thenNo hE37
       refine wx_plan [] 6 rfl (by kernel_rfl) (wd_tail rfl (wx_alt [4, 6] rfl (by kernel_rfl) ⟨⟨_, rfl, ?_⟩, ⟨_, rfl, ?_⟩, trivial⟩))
       ·have hX0 := hX
        have hC0 := hC
        refine st_app I_ok rfl 1 1 rfl rfl rfl (by decide) hO (Src.slice hqp.sl OneC.h) (by dsimp only [maxLen]; simp only [List.length_append, be_len, strB_len]; omega) (by dsimp only; simp only [List.length_append, be_len, strB_len]; omega) fun p38 c38 w38 ho38 hE38 hB38 => ⟨hC.trans hE38 (fun y hy hF => (hqs y hF).elim id (fun h => absurd hy (Nat.not_lt.2 h))), ?_⟩
        have hC := hC.trans hE38 (fun y hy hF => (hqs y hF).elim id (fun h => absurd hy (Nat.not_lt.2 h)))
        dsimp only at ho38 hE38 hB38 ⊢
        have hb1 := hb1.extOwn hO hE38 (show (5 : Nat) ≠ 48 from by decide)
        try have hb104 := hb104.ext hE38 (fun hx => by have := hOl _ hx; omega)
        have hX := hX0.trans hE38 fun y hy hF => by have := hOn y hF; omega
        have hOn2 := newW hX0 hOn hB38
        have e3 : (be 1 x.kind.toNat ++ be 1 x.style.toNat ++ x.tree ++ be 1 x.parents.length ++ x.parents.flatten ++ x.base ++ be 1 x.rows.length ++ (x.rows.take i).flatMap chgB).length + (strB 1 (x.rows[i]).path).length = (be 1 x.kind.toNat ++ be 1 x.style.toNat ++ x.tree ++ be 1 x.parents.length ++ x.parents.flatten ++ x.base ++ be 1 x.rows.length ++ (x.rows.take i).flatMap chgB ++ strB 1 (x.rows[i]).path).length := by simp only [List.length_append, be_len, strB_len] <;> omega
        obtain ⟨q, k, e1, e2, hO2⟩ : ∃ q k, q = p38 ∧ k = c38 ∧ Own w38 q (be 1 x.kind.toNat ++ be 1 x.style.toNat ++ x.tree ++ be 1 x.parents.length ++ x.parents.flatten ++ x.base ++ be 1 x.rows.length ++ (x.rows.take i).flatMap chgB ++ strB 1 (x.rows[i]).path).length k 5 1 (bytesU (be 1 x.kind.toNat ++ be 1 x.style.toNat ++ x.tree ++ be 1 x.parents.length ++ x.parents.flatten ++ x.base ++ be 1 x.rows.length ++ (x.rows.take i).flatMap chgB ++ strB 1 (x.rows[i]).path)) := ⟨_, _, rfl, rfl, by
         rw [← e3, bytesU_append (be 1 x.kind.toNat ++ be 1 x.style.toNat ++ x.tree ++ be 1 x.parents.length ++ x.parents.flatten ++ x.base ++ be 1 x.rows.length ++ (x.rows.take i).flatMap chgB)]
         exact ho38⟩
        rw [← e1] at hOn2 hB38
        have hqs := fun y hy => (hB38 y hy).elim (hqs y) fun h => .inr (Nat.le_trans hC0.size h)
        have hO := hO2
        have hOn := hOn2
        rw [← e1, ← e2, e3]
        refine wx_plan [(6, false), (7, false), (10, false), (11, false), (12, true)] 0 rfl (by kernel_rfl) ?_
        refine wd_l rfl (st_bs I_ok rfl 1 rfl rfl rfl (by decide) (by decide) (by simp [partsOk]) (l' := bytesU [isB (x.rows[i]).is]) rfl fun b104 w39 hn104 hb104 hE39 hs39 => ⟨hC.thenNo hE39, ?_⟩)
        have fr104 := Nat.le_trans hX.size hn104
        have frhC104 := Nat.le_trans hC.size hn104
        have hb1 := hb1.extNo hE39
        have hO := hO.ext hE39 fun _ _ => id
        have hX := hX.thenNo hE39
        have hC := hC.thenNo hE39
        have hX0 := hX
        have hC0 := hC
        refine wd_l rfl (st_app I_ok rfl 1 1 rfl rfl rfl (by decide) hO (Src.slice (m := 1) ⟨rfl, .inr ⟨b104, 0, rfl, hb104.seg⟩⟩ OneC.h) (by dsimp only [maxLen]; simp only [List.length_append, be_len, strB_len]; omega) (by dsimp only; simp only [List.length_append, be_len, strB_len]; omega) fun p40 c40 w40 ho40 hE40 hB40 => ⟨hC.trans hE40 (fun y hy hF => (hqs y hF).elim id (fun h => absurd hy (Nat.not_lt.2 h))), ?_⟩)
        have hC := hC.trans hE40 (fun y hy hF => (hqs y hF).elim id (fun h => absurd hy (Nat.not_lt.2 h)))
        dsimp only at ho40 hE40 hB40 ⊢
        have hb1 := hb1.extOwn hO hE40 (show (5 : Nat) ≠ 48 from by decide)
        have hX := hX0.trans hE40 fun y hy hF => by have := hOn y hF; omega
        have hOn2 := newW hX0 hOn hB40
        have e3 : (be 1 x.kind.toNat ++ be 1 x.style.toNat ++ x.tree ++ be 1 x.parents.length ++ x.parents.flatten ++ x.base ++ be 1 x.rows.length ++ (x.rows.take i).flatMap chgB ++ strB 1 (x.rows[i]).path).length + 1 = (be 1 x.kind.toNat ++ be 1 x.style.toNat ++ x.tree ++ be 1 x.parents.length ++ x.parents.flatten ++ x.base ++ be 1 x.rows.length ++ (x.rows.take i).flatMap chgB ++ strB 1 (x.rows[i]).path ++ [isB (x.rows[i]).is]).length := by simp only [List.length_append, be_len, strB_len, List.length_cons, List.length_nil] <;> omega
        obtain ⟨q, k, e1, e2, hO2⟩ : ∃ q k, q = p40 ∧ k = c40 ∧ Own w40 q (be 1 x.kind.toNat ++ be 1 x.style.toNat ++ x.tree ++ be 1 x.parents.length ++ x.parents.flatten ++ x.base ++ be 1 x.rows.length ++ (x.rows.take i).flatMap chgB ++ strB 1 (x.rows[i]).path ++ [isB (x.rows[i]).is]).length k 5 1 (bytesU (be 1 x.kind.toNat ++ be 1 x.style.toNat ++ x.tree ++ be 1 x.parents.length ++ x.parents.flatten ++ x.base ++ be 1 x.rows.length ++ (x.rows.take i).flatMap chgB ++ strB 1 (x.rows[i]).path ++ [isB (x.rows[i]).is])) := ⟨_, _, rfl, rfl, by
         rw [← e3, bytesU_append (be 1 x.kind.toNat ++ be 1 x.style.toNat ++ x.tree ++ be 1 x.parents.length ++ x.parents.flatten ++ x.base ++ be 1 x.rows.length ++ (x.rows.take i).flatMap chgB ++ strB 1 (x.rows[i]).path)]
         exact ho40⟩
        rw [← e1] at hOn2 hB40
        have hqs := fun y hy => (hB40 y hy).elim (hqs y) fun h => .inr (Nat.le_trans hC0.size h)
        have hO := hO2
        have hOn := hOn2
        rw [← e1, ← e2, e3]
        refine wd_l rfl (st_call Tryz.call88 rfl rfl rfl rfl rfl rfl (some6_calls w40 (x.rows[i]).text 2 (by decide) (by omega)) fun v41 w41 hr41 => ⟨(by obtain ⟨qt, kt, rfl, hqt, hqtn, hE41⟩ := hr41; exact hC.thenNo hE41), ?_⟩)
        obtain ⟨qt, kt, rfl, hqt, hqtn, hE41⟩ := hr41
        have hb1 := hb1.extNo hE41
        have hO := hO.ext hE41 fun _ _ => id
        have hX := hX.thenNo hE41
        have hC := hC.thenNo hE41
        have hX0 := hX
        have hC0 := hC
        refine wd_l rfl (st_app I_ok rfl 1 1 rfl rfl rfl (by decide) hO (Src.slice hqt.sl OneC.h) (by dsimp only [maxLen]; simp only [List.length_append, be_len, strB_len, List.length_cons, List.length_nil]; omega) (by dsimp only; simp only [List.length_append, be_len, strB_len, List.length_cons, List.length_nil]; omega) fun p42 c42 w42 ho42 hE42 hB42 => ⟨hC.trans hE42 (fun y hy hF => (hqs y hF).elim id (fun h => absurd hy (Nat.not_lt.2 h))), ?_⟩)
        dsimp only at ho42 hE42 hB42 ⊢
        have hb1 := hb1.extOwn hO hE42 (show (5 : Nat) ≠ 48 from by decide)
        have hX := hX0.trans hE42 fun y hy hF => by have := hOn y hF; omega
        have hOn2 := newW hX0 hOn hB42
        have e3 : (be 1 x.kind.toNat ++ be 1 x.style.toNat ++ x.tree ++ be 1 x.parents.length ++ x.parents.flatten ++ x.base ++ be 1 x.rows.length ++ (x.rows.take i).flatMap chgB ++ strB 1 (x.rows[i]).path ++ [isB (x.rows[i]).is]).length + (strB 2 (x.rows[i]).text).length = (be 1 x.kind.toNat ++ be 1 x.style.toNat ++ x.tree ++ be 1 x.parents.length ++ x.parents.flatten ++ x.base ++ be 1 x.rows.length ++ (x.rows.take i).flatMap chgB ++ strB 1 (x.rows[i]).path ++ [isB (x.rows[i]).is] ++ strB 2 (x.rows[i]).text).length := by simp only [List.length_append, be_len, strB_len, List.length_cons, List.length_nil] <;> omega
        obtain ⟨q, k, e1, e2, hO2⟩ : ∃ q k, q = p42 ∧ k = c42 ∧ Own w42 q (be 1 x.kind.toNat ++ be 1 x.style.toNat ++ x.tree ++ be 1 x.parents.length ++ x.parents.flatten ++ x.base ++ be 1 x.rows.length ++ (x.rows.take i).flatMap chgB ++ strB 1 (x.rows[i]).path ++ [isB (x.rows[i]).is] ++ strB 2 (x.rows[i]).text).length k 5 1 (bytesU (be 1 x.kind.toNat ++ be 1 x.style.toNat ++ x.tree ++ be 1 x.parents.length ++ x.parents.flatten ++ x.base ++ be 1 x.rows.length ++ (x.rows.take i).flatMap chgB ++ strB 1 (x.rows[i]).path ++ [isB (x.rows[i]).is] ++ strB 2 (x.rows[i]).text)) := ⟨_, _, rfl, rfl, by
         rw [← e3, bytesU_append (be 1 x.kind.toNat ++ be 1 x.style.toNat ++ x.tree ++ be 1 x.parents.length ++ x.parents.flatten ++ x.base ++ be 1 x.rows.length ++ (x.rows.take i).flatMap chgB ++ strB 1 (x.rows[i]).path ++ [isB (x.rows[i]).is])]
         exact ho42⟩
        rw [← e1] at hOn2 hB42
        have hqs := fun y hy => (hB42 y hy).elim (hqs y) fun h => .inr (Nat.le_trans hC0.size h)
        have hO := hO2
        have hOn := hOn2
        rw [← e1, ← e2, e3]
        refine wd_k I_ok 1 rfl (wd_sw (wb_nil ?_))
        exact f_blockN (f_cut (q, k) rfl ⟨⟨hO, hOn⟩, hb1, hX⟩)
       ·refine st_bs I_ok rfl 1 rfl rfl rfl (by decide) (by decide) (by simp [partsOk]) (l' := bytesU [isB (x.rows[i]).is]) rfl fun b104 w43 hn104 hb104 hE43 hs43 => ⟨hC.thenNo hE43, ?_⟩
        have fr104 := Nat.le_trans hX.size hn104
        have frhC104 := Nat.le_trans hC.size hn104
        have hb1 := hb1.extNo hE43
        have hO := hO.ext hE43 fun _ _ => id
        have hqp := hqp.ext hE43 fun _ _ => id
        have hX := hX.thenNo hE43
        have hC := hC.thenNo hE43
        refine wx_plan [(4, false), (7, false), (10, false), (11, false), (12, true)] 0 rfl (by kernel_rfl) ?_
        have hX0 := hX
        have hC0 := hC
        refine wd_l rfl (st_app I_ok rfl 1 1 rfl rfl rfl (by decide) hO (Src.slice hqp.sl OneC.h) (by dsimp only [maxLen]; simp only [List.length_append, be_len, strB_len]; omega) (by dsimp only; simp only [List.length_append, be_len, strB_len]; omega) fun p44 c44 w44 ho44 hE44 hB44 => ⟨hC.trans hE44 (fun y hy hF => (hqs y hF).elim id (fun h => absurd hy (Nat.not_lt.2 h))), ?_⟩)
        have hC := hC.trans hE44 (fun y hy hF => (hqs y hF).elim id (fun h => absurd hy (Nat.not_lt.2 h)))
        dsimp only at ho44 hE44 hB44 ⊢
        have hb1 := hb1.extOwn hO hE44 (show (5 : Nat) ≠ 48 from by decide)
        try have hb104 := hb104.ext hE44 (fun hx => by have := hOl _ hx; omega)
        have hX := hX0.trans hE44 fun y hy hF => by have := hOn y hF; omega
        have hOn2 := newW hX0 hOn hB44
        have e3 : (be 1 x.kind.toNat ++ be 1 x.style.toNat ++ x.tree ++ be 1 x.parents.length ++ x.parents.flatten ++ x.base ++ be 1 x.rows.length ++ (x.rows.take i).flatMap chgB).length + (strB 1 (x.rows[i]).path).length = (be 1 x.kind.toNat ++ be 1 x.style.toNat ++ x.tree ++ be 1 x.parents.length ++ x.parents.flatten ++ x.base ++ be 1 x.rows.length ++ (x.rows.take i).flatMap chgB ++ strB 1 (x.rows[i]).path).length := by simp only [List.length_append, be_len, strB_len] <;> omega
        obtain ⟨q, k, e1, e2, hO2⟩ : ∃ q k, q = p44 ∧ k = c44 ∧ Own w44 q (be 1 x.kind.toNat ++ be 1 x.style.toNat ++ x.tree ++ be 1 x.parents.length ++ x.parents.flatten ++ x.base ++ be 1 x.rows.length ++ (x.rows.take i).flatMap chgB ++ strB 1 (x.rows[i]).path).length k 5 1 (bytesU (be 1 x.kind.toNat ++ be 1 x.style.toNat ++ x.tree ++ be 1 x.parents.length ++ x.parents.flatten ++ x.base ++ be 1 x.rows.length ++ (x.rows.take i).flatMap chgB ++ strB 1 (x.rows[i]).path)) := ⟨_, _, rfl, rfl, by
         rw [← e3, bytesU_append (be 1 x.kind.toNat ++ be 1 x.style.toNat ++ x.tree ++ be 1 x.parents.length ++ x.parents.flatten ++ x.base ++ be 1 x.rows.length ++ (x.rows.take i).flatMap chgB)]
         exact ho44⟩
        rw [← e1] at hOn2 hB44
        have hqs := fun y hy => (hB44 y hy).elim (hqs y) fun h => .inr (Nat.le_trans hC0.size h)
        have hO := hO2
        have hOn := hOn2
        rw [← e1, ← e2, e3]
        have hX0 := hX
        have hC0 := hC
        refine wd_l rfl (st_app I_ok rfl 1 1 rfl rfl rfl (by decide) hO (Src.slice (m := 1) ⟨rfl, .inr ⟨b104, 0, rfl, hb104.seg⟩⟩ OneC.h) (by dsimp only [maxLen]; simp only [List.length_append, be_len, strB_len]; omega) (by dsimp only; simp only [List.length_append, be_len, strB_len]; omega) fun p45 c45 w45 ho45 hE45 hB45 => ⟨hC.trans hE45 (fun y hy hF => (hqs y hF).elim id (fun h => absurd hy (Nat.not_lt.2 h))), ?_⟩)
        have hC := hC.trans hE45 (fun y hy hF => (hqs y hF).elim id (fun h => absurd hy (Nat.not_lt.2 h)))
        dsimp only at ho45 hE45 hB45 ⊢
        have hb1 := hb1.extOwn hO hE45 (show (5 : Nat) ≠ 48 from by decide)
        have hX := hX0.trans hE45 fun y hy hF => by have := hOn y hF; omega
        have hOn2 := newW hX0 hOn hB45
        have e3 : (be 1 x.kind.toNat ++ be 1 x.style.toNat ++ x.tree ++ be 1 x.parents.length ++ x.parents.flatten ++ x.base ++ be 1 x.rows.length ++ (x.rows.take i).flatMap chgB ++ strB 1 (x.rows[i]).path).length + 1 = (be 1 x.kind.toNat ++ be 1 x.style.toNat ++ x.tree ++ be 1 x.parents.length ++ x.parents.flatten ++ x.base ++ be 1 x.rows.length ++ (x.rows.take i).flatMap chgB ++ strB 1 (x.rows[i]).path ++ [isB (x.rows[i]).is]).length := by simp only [List.length_append, be_len, strB_len, List.length_cons, List.length_nil] <;> omega
        obtain ⟨q, k, e1, e2, hO2⟩ : ∃ q k, q = p45 ∧ k = c45 ∧ Own w45 q (be 1 x.kind.toNat ++ be 1 x.style.toNat ++ x.tree ++ be 1 x.parents.length ++ x.parents.flatten ++ x.base ++ be 1 x.rows.length ++ (x.rows.take i).flatMap chgB ++ strB 1 (x.rows[i]).path ++ [isB (x.rows[i]).is]).length k 5 1 (bytesU (be 1 x.kind.toNat ++ be 1 x.style.toNat ++ x.tree ++ be 1 x.parents.length ++ x.parents.flatten ++ x.base ++ be 1 x.rows.length ++ (x.rows.take i).flatMap chgB ++ strB 1 (x.rows[i]).path ++ [isB (x.rows[i]).is])) := ⟨_, _, rfl, rfl, by
         rw [← e3, bytesU_append (be 1 x.kind.toNat ++ be 1 x.style.toNat ++ x.tree ++ be 1 x.parents.length ++ x.parents.flatten ++ x.base ++ be 1 x.rows.length ++ (x.rows.take i).flatMap chgB ++ strB 1 (x.rows[i]).path)]
         exact ho45⟩
        rw [← e1] at hOn2 hB45
        have hqs := fun y hy => (hB45 y hy).elim (hqs y) fun h => .inr (Nat.le_trans hC0.size h)
        have hO := hO2
        have hOn := hOn2
        rw [← e1, ← e2, e3]
        refine wd_l rfl (st_call Tryz.call88 rfl rfl rfl rfl rfl rfl (some6_calls w45 (x.rows[i]).text 2 (by decide) (by omega)) fun v46 w46 hr46 => ⟨(by obtain ⟨qt, kt, rfl, hqt, hqtn, hE46⟩ := hr46; exact hC.thenNo hE46), ?_⟩)
        obtain ⟨qt, kt, rfl, hqt, hqtn, hE46⟩ := hr46
        have hb1 := hb1.extNo hE46
        have hO := hO.ext hE46 fun _ _ => id
        have hX := hX.thenNo hE46
        have hC := hC.thenNo hE46
        have hX0 := hX
        have hC0 := hC
        refine wd_l rfl (st_app I_ok rfl 1 1 rfl rfl rfl (by decide) hO (Src.slice hqt.sl OneC.h) (by dsimp only [maxLen]; simp only [List.length_append, be_len, strB_len, List.length_cons, List.length_nil]; omega) (by dsimp only; simp only [List.length_append, be_len, strB_len, List.length_cons, List.length_nil]; omega) fun p47 c47 w47 ho47 hE47 hB47 => ⟨hC.trans hE47 (fun y hy hF => (hqs y hF).elim id (fun h => absurd hy (Nat.not_lt.2 h))), ?_⟩)
        dsimp only at ho47 hE47 hB47 ⊢
        have hb1 := hb1.extOwn hO hE47 (show (5 : Nat) ≠ 48 from by decide)
        have hX := hX0.trans hE47 fun y hy hF => by have := hOn y hF; omega
        have hOn2 := newW hX0 hOn hB47
        have e3 : (be 1 x.kind.toNat ++ be 1 x.style.toNat ++ x.tree ++ be 1 x.parents.length ++ x.parents.flatten ++ x.base ++ be 1 x.rows.length ++ (x.rows.take i).flatMap chgB ++ strB 1 (x.rows[i]).path ++ [isB (x.rows[i]).is]).length + (strB 2 (x.rows[i]).text).length = (be 1 x.kind.toNat ++ be 1 x.style.toNat ++ x.tree ++ be 1 x.parents.length ++ x.parents.flatten ++ x.base ++ be 1 x.rows.length ++ (x.rows.take i).flatMap chgB ++ strB 1 (x.rows[i]).path ++ [isB (x.rows[i]).is] ++ strB 2 (x.rows[i]).text).length := by simp only [List.length_append, be_len, strB_len, List.length_cons, List.length_nil] <;> omega
        obtain ⟨q, k, e1, e2, hO2⟩ : ∃ q k, q = p47 ∧ k = c47 ∧ Own w47 q (be 1 x.kind.toNat ++ be 1 x.style.toNat ++ x.tree ++ be 1 x.parents.length ++ x.parents.flatten ++ x.base ++ be 1 x.rows.length ++ (x.rows.take i).flatMap chgB ++ strB 1 (x.rows[i]).path ++ [isB (x.rows[i]).is] ++ strB 2 (x.rows[i]).text).length k 5 1 (bytesU (be 1 x.kind.toNat ++ be 1 x.style.toNat ++ x.tree ++ be 1 x.parents.length ++ x.parents.flatten ++ x.base ++ be 1 x.rows.length ++ (x.rows.take i).flatMap chgB ++ strB 1 (x.rows[i]).path ++ [isB (x.rows[i]).is] ++ strB 2 (x.rows[i]).text)) := ⟨_, _, rfl, rfl, by
         rw [← e3, bytesU_append (be 1 x.kind.toNat ++ be 1 x.style.toNat ++ x.tree ++ be 1 x.parents.length ++ x.parents.flatten ++ x.base ++ be 1 x.rows.length ++ (x.rows.take i).flatMap chgB ++ strB 1 (x.rows[i]).path ++ [isB (x.rows[i]).is])]
         exact ho47⟩
        rw [← e1] at hOn2 hB47
        have hqs := fun y hy => (hB47 y hy).elim (hqs y) fun h => .inr (Nat.le_trans hC0.size h)
        have hO := hO2
        have hOn := hOn2
        rw [← e1, ← e2, e3]
        refine wd_k I_ok 1 rfl (wd_sw (wb_nil ?_))
        exact f_blockN (f_cut (q, k) rfl ⟨⟨hO, hOn⟩, hb1, hX⟩)
      ·refine st_bs I_ok rfl 1 rfl rfl rfl (by decide) (by decide) (by simp [partsOk]) (l' := bytesU [isB (x.rows[i]).is]) rfl fun b104 w48 hn104 hb104 hE48 hs48 => ⟨hC.thenNo hE48, ?_⟩
       have fr104 := Nat.le_trans hX.size hn104
       have frhC104 := Nat.le_trans hC.size hn104
       have hb1 := hb1.extNo hE48
       have hO := hO.ext hE48 fun _ _ => id
       have hX := hX.thenNo hE48
       have hC := hC.thenNo hE48
       refine wx_plan [(3, false), (4, false), (7, false), (10, false), (11, false), (12, true)] 0 rfl (by kernel_rfl) ?_
       refine wd_l rfl (st_call Tryz.call88 rfl rfl rfl rfl rfl rfl (some6_calls w48 (x.rows[i]).path 1 (by decide) (by omega)) fun v49 w49 hr49 => ⟨(by obtain ⟨qp, kp, rfl, hqp, hqpn, hE49⟩ := hr49; exact hC.thenNo hE49), ?_⟩)
       obtain ⟨qp, kp, rfl, hqp, hqpn, hE49⟩ := hr49
       have hb1 := hb1.extNo hE49
       have hb104 := hb104.extNo hE49
       have hO := hO.ext hE49 fun _ _ => id
       have hX := hX.thenNo hE49
       have hC := hC.thenNo hE49
       have hX0 := hX
       have hC0 := hC
       refine wd_l rfl (st_app I_ok rfl 1 1 rfl rfl rfl (by decide) hO (Src.slice hqp.sl OneC.h) (by dsimp only [maxLen]; simp only [List.length_append, be_len, strB_len]; omega) (by dsimp only; simp only [List.length_append, be_len, strB_len]; omega) fun p50 c50 w50 ho50 hE50 hB50 => ⟨hC.trans hE50 (fun y hy hF => (hqs y hF).elim id (fun h => absurd hy (Nat.not_lt.2 h))), ?_⟩)
       have hC := hC.trans hE50 (fun y hy hF => (hqs y hF).elim id (fun h => absurd hy (Nat.not_lt.2 h)))
       dsimp only at ho50 hE50 hB50 ⊢
       have hb1 := hb1.extOwn hO hE50 (show (5 : Nat) ≠ 48 from by decide)
       try have hb104 := hb104.ext hE50 (fun hx => by have := hOl _ hx; omega)
       have hX := hX0.trans hE50 fun y hy hF => by have := hOn y hF; omega
       have hOn2 := newW hX0 hOn hB50
       have e3 : (be 1 x.kind.toNat ++ be 1 x.style.toNat ++ x.tree ++ be 1 x.parents.length ++ x.parents.flatten ++ x.base ++ be 1 x.rows.length ++ (x.rows.take i).flatMap chgB).length + (strB 1 (x.rows[i]).path).length = (be 1 x.kind.toNat ++ be 1 x.style.toNat ++ x.tree ++ be 1 x.parents.length ++ x.parents.flatten ++ x.base ++ be 1 x.rows.length ++ (x.rows.take i).flatMap chgB ++ strB 1 (x.rows[i]).path).length := by simp only [List.length_append, be_len, strB_len] <;> omega
       obtain ⟨q, k, e1, e2, hO2⟩ : ∃ q k, q = p50 ∧ k = c50 ∧ Own w50 q (be 1 x.kind.toNat ++ be 1 x.style.toNat ++ x.tree ++ be 1 x.parents.length ++ x.parents.flatten ++ x.base ++ be 1 x.rows.length ++ (x.rows.take i).flatMap chgB ++ strB 1 (x.rows[i]).path).length k 5 1 (bytesU (be 1 x.kind.toNat ++ be 1 x.style.toNat ++ x.tree ++ be 1 x.parents.length ++ x.parents.flatten ++ x.base ++ be 1 x.rows.length ++ (x.rows.take i).flatMap chgB ++ strB 1 (x.rows[i]).path)) := ⟨_, _, rfl, rfl, by
        rw [← e3, bytesU_append (be 1 x.kind.toNat ++ be 1 x.style.toNat ++ x.tree ++ be 1 x.parents.length ++ x.parents.flatten ++ x.base ++ be 1 x.rows.length ++ (x.rows.take i).flatMap chgB)]
        exact ho50⟩
       rw [← e1] at hOn2 hB50
       have hqs := fun y hy => (hB50 y hy).elim (hqs y) fun h => .inr (Nat.le_trans hC0.size h)
       have hO := hO2
       have hOn := hOn2
       rw [← e1, ← e2, e3]
       have hX0 := hX
       have hC0 := hC
       refine wd_l rfl (st_app I_ok rfl 1 1 rfl rfl rfl (by decide) hO (Src.slice (m := 1) ⟨rfl, .inr ⟨b104, 0, rfl, hb104.seg⟩⟩ OneC.h) (by dsimp only [maxLen]; simp only [List.length_append, be_len, strB_len]; omega) (by dsimp only; simp only [List.length_append, be_len, strB_len]; omega) fun p51 c51 w51 ho51 hE51 hB51 => ⟨hC.trans hE51 (fun y hy hF => (hqs y hF).elim id (fun h => absurd hy (Nat.not_lt.2 h))), ?_⟩)
       have hC := hC.trans hE51 (fun y hy hF => (hqs y hF).elim id (fun h => absurd hy (Nat.not_lt.2 h)))
       dsimp only at ho51 hE51 hB51 ⊢
       have hb1 := hb1.extOwn hO hE51 (show (5 : Nat) ≠ 48 from by decide)
       have hX := hX0.trans hE51 fun y hy hF => by have := hOn y hF; omega
       have hOn2 := newW hX0 hOn hB51
       have e3 : (be 1 x.kind.toNat ++ be 1 x.style.toNat ++ x.tree ++ be 1 x.parents.length ++ x.parents.flatten ++ x.base ++ be 1 x.rows.length ++ (x.rows.take i).flatMap chgB ++ strB 1 (x.rows[i]).path).length + 1 = (be 1 x.kind.toNat ++ be 1 x.style.toNat ++ x.tree ++ be 1 x.parents.length ++ x.parents.flatten ++ x.base ++ be 1 x.rows.length ++ (x.rows.take i).flatMap chgB ++ strB 1 (x.rows[i]).path ++ [isB (x.rows[i]).is]).length := by simp only [List.length_append, be_len, strB_len, List.length_cons, List.length_nil] <;> omega
       obtain ⟨q, k, e1, e2, hO2⟩ : ∃ q k, q = p51 ∧ k = c51 ∧ Own w51 q (be 1 x.kind.toNat ++ be 1 x.style.toNat ++ x.tree ++ be 1 x.parents.length ++ x.parents.flatten ++ x.base ++ be 1 x.rows.length ++ (x.rows.take i).flatMap chgB ++ strB 1 (x.rows[i]).path ++ [isB (x.rows[i]).is]).length k 5 1 (bytesU (be 1 x.kind.toNat ++ be 1 x.style.toNat ++ x.tree ++ be 1 x.parents.length ++ x.parents.flatten ++ x.base ++ be 1 x.rows.length ++ (x.rows.take i).flatMap chgB ++ strB 1 (x.rows[i]).path ++ [isB (x.rows[i]).is])) := ⟨_, _, rfl, rfl, by
        rw [← e3, bytesU_append (be 1 x.kind.toNat ++ be 1 x.style.toNat ++ x.tree ++ be 1 x.parents.length ++ x.parents.flatten ++ x.base ++ be 1 x.rows.length ++ (x.rows.take i).flatMap chgB ++ strB 1 (x.rows[i]).path)]
        exact ho51⟩
       rw [← e1] at hOn2 hB51
       have hqs := fun y hy => (hB51 y hy).elim (hqs y) fun h => .inr (Nat.le_trans hC0.size h)
       have hO := hO2
       have hOn := hOn2
       rw [← e1, ← e2, e3]
       refine wd_l rfl (st_call Tryz.call88 rfl rfl rfl rfl rfl rfl (some6_calls w51 (x.rows[i]).text 2 (by decide) (by omega)) fun v52 w52 hr52 => ⟨(by obtain ⟨qt, kt, rfl, hqt, hqtn, hE52⟩ := hr52; exact hC.thenNo hE52), ?_⟩)
       obtain ⟨qt, kt, rfl, hqt, hqtn, hE52⟩ := hr52
       have hb1 := hb1.extNo hE52
       have hO := hO.ext hE52 fun _ _ => id
       have hX := hX.thenNo hE52
       have hC := hC.thenNo hE52
       have hX0 := hX
       have hC0 := hC
       refine wd_l rfl (st_app I_ok rfl 1 1 rfl rfl rfl (by decide) hO (Src.slice hqt.sl OneC.h) (by dsimp only [maxLen]; simp only [List.length_append, be_len, strB_len, List.length_cons, List.length_nil]; omega) (by dsimp only; simp only [List.length_append, be_len, strB_len, List.length_cons, List.length_nil]; omega) fun p53 c53 w53 ho53 hE53 hB53 => ⟨hC.trans hE53 (fun y hy hF => (hqs y hF).elim id (fun h => absurd hy (Nat.not_lt.2 h))), ?_⟩)
       dsimp only at ho53 hE53 hB53 ⊢
       have hb1 := hb1.extOwn hO hE53 (show (5 : Nat) ≠ 48 from by decide)
       have hX := hX0.trans hE53 fun y hy hF => by have := hOn y hF; omega
       have hOn2 := newW hX0 hOn hB53
       have e3 : (be 1 x.kind.toNat ++ be 1 x.style.toNat ++ x.tree ++ be 1 x.parents.length ++ x.parents.flatten ++ x.base ++ be 1 x.rows.length ++ (x.rows.take i).flatMap chgB ++ strB 1 (x.rows[i]).path ++ [isB (x.rows[i]).is]).length + (strB 2 (x.rows[i]).text).length = (be 1 x.kind.toNat ++ be 1 x.style.toNat ++ x.tree ++ be 1 x.parents.length ++ x.parents.flatten ++ x.base ++ be 1 x.rows.length ++ (x.rows.take i).flatMap chgB ++ strB 1 (x.rows[i]).path ++ [isB (x.rows[i]).is] ++ strB 2 (x.rows[i]).text).length := by simp only [List.length_append, be_len, strB_len, List.length_cons, List.length_nil] <;> omega
       obtain ⟨q, k, e1, e2, hO2⟩ : ∃ q k, q = p53 ∧ k = c53 ∧ Own w53 q (be 1 x.kind.toNat ++ be 1 x.style.toNat ++ x.tree ++ be 1 x.parents.length ++ x.parents.flatten ++ x.base ++ be 1 x.rows.length ++ (x.rows.take i).flatMap chgB ++ strB 1 (x.rows[i]).path ++ [isB (x.rows[i]).is] ++ strB 2 (x.rows[i]).text).length k 5 1 (bytesU (be 1 x.kind.toNat ++ be 1 x.style.toNat ++ x.tree ++ be 1 x.parents.length ++ x.parents.flatten ++ x.base ++ be 1 x.rows.length ++ (x.rows.take i).flatMap chgB ++ strB 1 (x.rows[i]).path ++ [isB (x.rows[i]).is] ++ strB 2 (x.rows[i]).text)) := ⟨_, _, rfl, rfl, by
        rw [← e3, bytesU_append (be 1 x.kind.toNat ++ be 1 x.style.toNat ++ x.tree ++ be 1 x.parents.length ++ x.parents.flatten ++ x.base ++ be 1 x.rows.length ++ (x.rows.take i).flatMap chgB ++ strB 1 (x.rows[i]).path ++ [isB (x.rows[i]).is])]
        exact ho53⟩
       rw [← e1] at hOn2 hB53
       have hqs := fun y hy => (hB53 y hy).elim (hqs y) fun h => .inr (Nat.le_trans hC0.size h)
       have hO := hO2
       have hOn := hOn2
       rw [← e1, ← e2, e3]
       refine wd_k I_ok 1 rfl (wd_sw (wb_nil ?_))
       exact f_blockN (f_cut (q, k) rfl ⟨⟨hO, hOn⟩, hb1, hX⟩)
     rintro ⟨q, k⟩ w54 ⟨⟨hO, hOn⟩, hb1, hX⟩
     try dsimp only
     dsimp only at hO hOn
     refine c_region (wl_p I_ok rfl ?_)
     rw [IntWalk.i64_in _ (by omega)]
     refine wl_nil ?_
     exact f_round (i + 1, q, k) (by rw [show be 1 x.kind.toNat ++ be 1 x.style.toNat ++ x.tree ++ be 1 x.parents.length ++ x.parents.flatten ++ x.base ++ be 1 x.rows.length ++ (x.rows.take (i + 1)).flatMap chgB = be 1 x.kind.toNat ++ be 1 x.style.toNat ++ x.tree ++ be 1 x.parents.length ++ x.parents.flatten ++ x.base ++ be 1 x.rows.length ++ (x.rows.take i).flatMap chgB ++ strB 1 (x.rows[i]).path ++ [isB (x.rows[i]).is] ++ strB 2 (x.rows[i]).text from by rw [flat_take hi, chgB]; simp]; rfl) ⟨⟨hi, by rw [show be 1 x.kind.toNat ++ be 1 x.style.toNat ++ x.tree ++ be 1 x.parents.length ++ x.parents.flatten ++ x.base ++ be 1 x.rows.length ++ (x.rows.take (i + 1)).flatMap chgB = be 1 x.kind.toNat ++ be 1 x.style.toNat ++ x.tree ++ be 1 x.parents.length ++ x.parents.flatten ++ x.base ++ be 1 x.rows.length ++ (x.rows.take i).flatMap chgB ++ strB 1 (x.rows[i]).path ++ [isB (x.rows[i]).is] ++ strB 2 (x.rows[i]).text from by rw [flat_take hi, chgB]; simp]; exact hO, hOn⟩, hb1, hX⟩ (by first | omega | (dsimp only; omega))
    ·have h0 : i = x.rows.length := by omega
     subst h0
     rw [List.take_length] at hO ⊢
     have hfl : (x.rows.flatMap chgB).length ≤ x.rows.length * 400 := flat_le fun r hr => chgB_le (hp48 r hr)
     refine c_exit (f_thenE (f_thenE (f_blockE (f_then (c_seq ?_)))))
     refine c_draw rfl 12 [(0, true), (1, true), (2, true), (3, true), (6, true), (7, true), (8, true), (4, false), (5, false), (9, false), (10, false), (11, true)] [] (OwnB q) (by kernel_rfl) fun w55 hE55 hs55 => ?_
     have hd1 := hb1
     have hOd := hO
     have hb1 := hb1.extNo hE55
     have hO := hO.ext hE55 fun _ _ => id
     have hX := hX.thenNo hE55
     have hC : Ext (OwnB q) _ w55 := hE55.no
     have hqs : ∀ y, OwnB q y → OwnB q y ∨ w32.heap.size ≤ y := fun y h => .inl h
     have hOl : ∀ y, OwnB q y → y < w32.heap.size := fun y h => hOd.lt h
     refine wd_k I_ok 2 rfl (wd_ld I_ok rfl rfl (fun w' hw' => ((hd1.ext (show Ext (OwnB q) _ w' from hw') fun hx' => hOd.neTy hx' hd1 (by decide) rfl).seg.obj hx).number) ?_)
     refine wd_k I_ok 1 rfl ?_
     rw [IntWalk.u64_in _ (by have := hx.number; omega)]
     refine wd_k I_ok 1 rfl (wd_ld I_ok rfl rfl (fun w' hw' => ((hd1.ext (show Ext (OwnB q) _ w' from hw') fun hx' => hOd.neTy hx' hd1 (by decide) rfl).seg.obj hx).author) ?_)
     refine wd_k I_ok 1 rfl ?_
     rw [IntWalk.u64_in _ (by have := hx.author; omega)]
     refine wd_l rfl (st_call Tryz.call89 rfl rfl rfl rfl rfl rfl (high_calls 4 (by decide) w55 x.number (by have := hx.number; omega)) fun v56 w56 hr56 => ⟨(by obtain ⟨qp, kp, rfl, hqp, hqpn, hE56⟩ := hr56; exact hC.thenNo hE56), ?_⟩)
     obtain ⟨qp, kp, rfl, hqp, hqpn, hE56⟩ := hr56
     have hb1 := hb1.extNo hE56
     have hO := hO.ext hE56 fun _ _ => id
     have hX := hX.thenNo hE56
     have hC := hC.thenNo hE56
     rw [show Value.slice qp 4 kp = .slice qp (be 4 x.number).length kp from by rw [be_len]]
     have hX0 := hX
     have hC0 := hC
     refine wd_l rfl (st_app I_ok rfl 1 1 rfl rfl rfl (by decide) hO (Src.slice (show Sl _ qp (be 4 x.number).length 1 _ from by rw [be_len]; exact hqp.sl) OneC.h) (by dsimp only [maxLen]; simp only [List.length_append, be_len]; omega) (by dsimp only; simp only [List.length_append, be_len]; omega) fun p57 c57 w57 ho57 hE57 hB57 => ⟨hC.trans hE57 (fun y hy hF => (hqs y hF).elim id (fun h => absurd hy (Nat.not_lt.2 h))), ?_⟩)
     have hC := hC.trans hE57 (fun y hy hF => (hqs y hF).elim id (fun h => absurd hy (Nat.not_lt.2 h)))
     dsimp only at ho57 hE57 hB57 ⊢
     have hb1 := hb1.extOwn hO hE57 (show (5 : Nat) ≠ 48 from by decide)
     have hX := hX0.trans hE57 fun y hy hF => by have := hOn y hF; omega
     have hOn2 := newW hX0 hOn hB57
     have e3 : (be 1 x.kind.toNat ++ be 1 x.style.toNat ++ x.tree ++ be 1 x.parents.length ++ x.parents.flatten ++ x.base ++ be 1 x.rows.length ++ x.rows.flatMap chgB).length + (be 4 x.number).length = (be 1 x.kind.toNat ++ be 1 x.style.toNat ++ x.tree ++ be 1 x.parents.length ++ x.parents.flatten ++ x.base ++ be 1 x.rows.length ++ x.rows.flatMap chgB ++ be 4 x.number).length := by simp only [List.length_append, be_len] <;> omega
     obtain ⟨q, k, e1, e2, hO2⟩ : ∃ q k, q = p57 ∧ k = c57 ∧ Own w57 q (be 1 x.kind.toNat ++ be 1 x.style.toNat ++ x.tree ++ be 1 x.parents.length ++ x.parents.flatten ++ x.base ++ be 1 x.rows.length ++ x.rows.flatMap chgB ++ be 4 x.number).length k 5 1 (bytesU (be 1 x.kind.toNat ++ be 1 x.style.toNat ++ x.tree ++ be 1 x.parents.length ++ x.parents.flatten ++ x.base ++ be 1 x.rows.length ++ x.rows.flatMap chgB ++ be 4 x.number)) := ⟨_, _, rfl, rfl, by
      rw [← e3, bytesU_append (be 1 x.kind.toNat ++ be 1 x.style.toNat ++ x.tree ++ be 1 x.parents.length ++ x.parents.flatten ++ x.base ++ be 1 x.rows.length ++ x.rows.flatMap chgB)]
      exact ho57⟩
     rw [← e1] at hOn2 hB57
     have hqs := fun y hy => (hB57 y hy).elim (hqs y) fun h => .inr (Nat.le_trans hC0.size h)
     have hO := hO2
     have hOn := hOn2
     rw [← e1, ← e2, e3]
     refine wd_l rfl (st_call Tryz.call89 rfl rfl rfl rfl rfl rfl (high_calls 4 (by decide) w57 x.author (by have := hx.author; omega)) fun v58 w58 hr58 => ⟨(by obtain ⟨qt, kt, rfl, hqt, hqtn, hE58⟩ := hr58; exact hC.thenNo hE58), ?_⟩)
     obtain ⟨qt, kt, rfl, hqt, hqtn, hE58⟩ := hr58
     have hb1 := hb1.extNo hE58
     have hO := hO.ext hE58 fun _ _ => id
     have hX := hX.thenNo hE58
     have hC := hC.thenNo hE58
     rw [show Value.slice qt 4 kt = .slice qt (be 4 x.author).length kt from by rw [be_len]]
     have hX0 := hX
     have hC0 := hC
     refine wd_l rfl (st_app I_ok rfl 1 1 rfl rfl rfl (by decide) hO (Src.slice (show Sl _ qt (be 4 x.author).length 1 _ from by rw [be_len]; exact hqt.sl) OneC.h) (by dsimp only [maxLen]; simp only [List.length_append, be_len]; omega) (by dsimp only; simp only [List.length_append, be_len]; omega) fun p59 c59 w59 ho59 hE59 hB59 => ⟨hC.trans hE59 (fun y hy hF => (hqs y hF).elim id (fun h => absurd hy (Nat.not_lt.2 h))), ?_⟩)
     dsimp only at ho59 hE59 hB59 ⊢
     have hb1 := hb1.extOwn hO hE59 (show (5 : Nat) ≠ 48 from by decide)
     have hX := hX0.trans hE59 fun y hy hF => by have := hOn y hF; omega
     have hOn2 := newW hX0 hOn hB59
     have e3 : (be 1 x.kind.toNat ++ be 1 x.style.toNat ++ x.tree ++ be 1 x.parents.length ++ x.parents.flatten ++ x.base ++ be 1 x.rows.length ++ x.rows.flatMap chgB ++ be 4 x.number).length + (be 4 x.author).length = (be 1 x.kind.toNat ++ be 1 x.style.toNat ++ x.tree ++ be 1 x.parents.length ++ x.parents.flatten ++ x.base ++ be 1 x.rows.length ++ x.rows.flatMap chgB ++ be 4 x.number ++ be 4 x.author).length := by simp only [List.length_append, be_len] <;> omega
     obtain ⟨q, k, e1, e2, hO2⟩ : ∃ q k, q = p59 ∧ k = c59 ∧ Own w59 q (be 1 x.kind.toNat ++ be 1 x.style.toNat ++ x.tree ++ be 1 x.parents.length ++ x.parents.flatten ++ x.base ++ be 1 x.rows.length ++ x.rows.flatMap chgB ++ be 4 x.number ++ be 4 x.author).length k 5 1 (bytesU (be 1 x.kind.toNat ++ be 1 x.style.toNat ++ x.tree ++ be 1 x.parents.length ++ x.parents.flatten ++ x.base ++ be 1 x.rows.length ++ x.rows.flatMap chgB ++ be 4 x.number ++ be 4 x.author)) := ⟨_, _, rfl, rfl, by
      rw [← e3, bytesU_append (be 1 x.kind.toNat ++ be 1 x.style.toNat ++ x.tree ++ be 1 x.parents.length ++ x.parents.flatten ++ x.base ++ be 1 x.rows.length ++ x.rows.flatMap chgB ++ be 4 x.number)]
      exact ho59⟩
     rw [← e1] at hOn2 hB59
     have hqs := fun y hy => (hB59 y hy).elim (hqs y) fun h => .inr (Nat.le_trans hC0.size h)
     have hO := hO2
     have hOn := hOn2
     rw [← e1, ← e2, e3]
     refine wd_k I_ok 1 rfl (wd_sw (wb_nil (f_then (c_seq (c_region (wl_p I_ok rfl (wl (st_ld I_ok rfl (hb1.seg.obj hx).note ?_))))))))
     refine wl (st_call Tryz.call88 rfl rfl rfl rfl rfl rfl (some6_calls w59 x.note 1 (by decide) (by omega)) fun v60 w60 hr60 => ?_)
     obtain ⟨qp, kp, rfl, hqp, hqpn, hE60⟩ := hr60
     have hO := hO.ext hE60 fun _ _ => id
     have hX := hX.thenNo hE60
     have hX0 := hX
     refine wl (st_app I_ok rfl 1 1 rfl rfl rfl (by decide) hO (Src.slice hqp.sl OneC.h) (by dsimp only [maxLen]; simp only [List.length_append, be_len, strB_len]; omega) (by dsimp only; simp only [List.length_append, be_len, strB_len]; omega) fun p61 c61 w61 ho61 hE61 hB61 => ?_)
     dsimp only at ho61 hE61 hB61 ⊢
     have hX := hX0.trans hE61 fun y hy hF => by have := hOn y hF; omega
     have hOn2 := newW hX0 hOn hB61
     have e3 : (be 1 x.kind.toNat ++ be 1 x.style.toNat ++ x.tree ++ be 1 x.parents.length ++ x.parents.flatten ++ x.base ++ be 1 x.rows.length ++ x.rows.flatMap chgB ++ be 4 x.number ++ be 4 x.author).length + (strB 1 x.note).length = (be 1 x.kind.toNat ++ be 1 x.style.toNat ++ x.tree ++ be 1 x.parents.length ++ x.parents.flatten ++ x.base ++ be 1 x.rows.length ++ x.rows.flatMap chgB ++ be 4 x.number ++ be 4 x.author ++ strB 1 x.note).length := by simp only [List.length_append, be_len, strB_len] <;> omega
     obtain ⟨q, k, e1, e2, hO2⟩ : ∃ q k, q = p61 ∧ k = c61 ∧ Own w61 q (be 1 x.kind.toNat ++ be 1 x.style.toNat ++ x.tree ++ be 1 x.parents.length ++ x.parents.flatten ++ x.base ++ be 1 x.rows.length ++ x.rows.flatMap chgB ++ be 4 x.number ++ be 4 x.author ++ strB 1 x.note).length k 5 1 (bytesU (be 1 x.kind.toNat ++ be 1 x.style.toNat ++ x.tree ++ be 1 x.parents.length ++ x.parents.flatten ++ x.base ++ be 1 x.rows.length ++ x.rows.flatMap chgB ++ be 4 x.number ++ be 4 x.author ++ strB 1 x.note)) := ⟨_, _, rfl, rfl, by
      rw [← e3, bytesU_append (be 1 x.kind.toNat ++ be 1 x.style.toNat ++ x.tree ++ be 1 x.parents.length ++ x.parents.flatten ++ x.base ++ be 1 x.rows.length ++ x.rows.flatMap chgB ++ be 4 x.number ++ be 4 x.author)]
      exact ho61⟩
     rw [← e1] at hOn2 hB61
     have hO := hO2
     have hOn := hOn2
     rw [← e1, ← e2, e3]
     refine wl_p I_ok rfl (wl_nil (f_then (c_ret (f_ret1 rfl rfl ?_))))
     have hlaid : laidB x = be 1 x.kind.toNat ++ be 1 x.style.toNat ++ x.tree ++ be 1 x.parents.length ++ x.parents.flatten ++ x.base ++ be 1 x.rows.length ++ x.rows.flatMap chgB ++ be 4 x.number ++ be 4 x.author ++ strB 1 x.note := by rw [laidB, if_neg h1, if_neg h2, comB]; simp only [List.append_assoc]
     exact ⟨q, k, by rw [hlaid], by rw [hlaid]; exact hO, hOn, hX⟩
end Go.Proofs.YtpcdihkcenfgkaaGreat
