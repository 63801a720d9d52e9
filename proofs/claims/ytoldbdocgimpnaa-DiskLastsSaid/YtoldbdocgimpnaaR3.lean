/- the document's disk: writing -/
import Derived.Test.YtoldbdocgimpnaaR2
namespace Go.Proofs.Ytoldbdocgimpnaa
open Go.Vc

/-- the row is as it was, or in new blocks -/
def NewOr (w : World) (p p' : Option Addr) (l l' : List Ent) : Prop := (p' = p ∧ l' = l) ∨ ∀ b off, p' = some ⟨b, off, none⟩ → w.heap.size ≤ b
theorem own_new {w w' : World} {p : Option Addr} {n c T sz : Nat} {xs : List Value} (h : Own w' p n c T sz xs) (hn : ∀ b, OwnB p b → w.heap.size ≤ b) : ∀ b off, p = some ⟨b, off, none⟩ → w.heap.size ≤ b := by
  intro b off hb
  rcases h with ⟨hp, _⟩ | ⟨b', l, hp, _⟩
  · rw [hp] at hb; cases hb
  · rw [hp] at hb
    simp at hb
    obtain ⟨rfl, rfl⟩ := hb
    exact hn _ hp
theorem one_ents {l : List Ent} : ∀ v ∈ entL l, v.oneCell' = true := by
  intro v hv
  simp only [entL, List.mem_flatten, List.mem_map] at hv
  obtain ⟨r, ⟨e, _, rfl⟩, hv⟩ := hv
  simp only [entRow, bytesL, List.mem_append, List.mem_singleton, List.mem_map] at hv
  rcases hv with (rfl | ⟨b, _, rfl⟩) | rfl <;> rfl

theorem Sl.ext0 {S : Nat → Prop} {w w' : World} {p : Option Addr} {n sz : Nat} {xs : List Value} (h : Sl w p n sz xs) (hE : Ext S w w') (hS : n ≠ 0 → ∀ b off, p = some ⟨b, off, none⟩ → ¬ S b) : Sl w' p n sz xs := by
  refine ⟨h.1, h.2.elim .inl fun ⟨b, off, hp, hs⟩ => ?_⟩
  by_cases hn : n = 0
  · exact .inl hn
  · exact .inr ⟨b, off, hp, hs.ext hE (hS hn b off hp)⟩
theorem RefW.lt {w : World} {p : Option Addr} {l : List Ent} (h : RefW w p l) (hl : l.length ≠ 0) : ∀ b off, p = some ⟨b, off, none⟩ → b < w.heap.size := by
  intro b off hb
  obtain ⟨b', off', hp, hs⟩ := h.1.2.resolve_left hl
  rw [hp] at hb
  simp at hb
  obtain ⟨rfl, rfl⟩ := hb
  exact hs.lt fun e => by have := h.1.1; rw [e] at this; simp at this; omega
theorem NewOr.ne {w wk : World} {p p' : Option Addr} {l l' : List Ent} (hN : NewOr wk p p' l l') (h : RefW w p l) (hl : l'.length ≠ 0) {x : Nat} (h1 : w.heap.size ≤ x) (h2 : x < wk.heap.size) : ∀ b off, p' = some ⟨b, off, none⟩ → b ≠ x := by
  intro b off hb e
  rcases hN with ⟨rfl, rfl⟩ | hN
  · have := h.lt hl b off hb
    omega
  · have := hN b off hb
    omega
theorem NewOr.wide {w wk : World} {p p' : Option Addr} {l l' : List Ent} (hN : NewOr wk p p' l l') (h : w.heap.size ≤ wk.heap.size) : NewOr w p p' l l' := hN.imp id fun hN b off hb => Nat.le_trans h (hN b off hb)
theorem z90_len : (cellsOf ti90.zero).length = 66 := rfl
theorem ent_put (i : Int) {b : List Int} (hb : b.length = 64) : putAll (cellsOf ti90.zero) [(0, 1, .int .i64 i), (1, 64, .agg (bytesL b).toArray)] = entRow ⟨i, b, false⟩ := by
  have e0 : cellsOf ti90.zero = [.int .i64 0] ++ bytesL zeros ++ [.bool false] := by simp [ti90, zeros, bytesL]
  have hl := bytesL_len hb
  have hz := bytesL_len zeros_length
  simp only [putAll, cellsOf_agg, cellsOf_int]
  rw [e0, put_eq _ _ _ (by rw [put_length]; simp [hl, hz]), put_eq _ _ _ (by simp)]
  simp [entRow, hl, hz]

theorem refWrite_calls (w : World) (x : RDsk) (p : Option Addr) (c : Nat) (hx : x.Fits) (h : RefW w p x.wr) (hn : x.wr.length < 1000000000) (i : Int) {b : List Int} (hb64 : b.length = 64) :
    CallsV Try.prog 40 [.agg (refL x p c).toArray, .int .i64 i, numA .u8 b] w fun v w' => ∃ p' c', v = .tuple #[.agg (refL (x.write i b).1 p' c').toArray, .int .i64 (x.write i b).2] ∧ RefW w' p' (x.write i b).1.wr ∧ NewOr w p p' x.wr (x.write i b).1.wr ∧ Ext No w w' := by
  have hwr := x.begin_wr i true
  have h0 := h
  refine calls_enter Try.func40 rfl rfl rfl rfl ?_
  have hX := Ext.refl No w
  refine c_seq (c_region (wl (st_al I_ok rfl fun b3 w1 hn3 hb3 hE1 => ?_)))
  have fr3 := Nat.le_trans hX.size hn3
  have hX := hX.thenNo hE1
  refine wl (st_al I_ok rfl fun b5 w2 hn5 hb5 hE2 => ?_)
  have ne3_5 : b3 ≠ b5 := Nat.ne_of_lt (Nat.lt_of_lt_of_le hb3.lt hn5)
  have hb3 := hb3.extNo hE2
  have hX := hX.thenNo hE2
  refine wl (st_al I_ok rfl fun b6 w3 hn6 hb6 hE3 => ?_)
  have ne3_6 : b3 ≠ b6 := Nat.ne_of_lt (Nat.lt_of_lt_of_le hb3.lt hn6)
  have fr6 := Nat.le_trans hX.size hn6
  have hb3 := hb3.extNo hE3
  have hb5 := hb5.extNo hE3
  have hX := hX.thenNo hE3
  have hb3 : Blk w3 b3 48 (refL x p c) := hb3
  have hb5 : Blk w3 b5 29 (bytesL b) := by rw [← cells_num]; exact hb5
  refine wl_p I_ok rfl (wl_nil (f_then (c_seq (c_region (wl (st_ldB I_ok hb3 rfl rfl (wl_p I_ok rfl (wl (st_call Try.call58 rfl rfl rfl rfl rfl rfl (begin_calls w3 x p c hx i true) fun v4 w4 hr4 => ?_)))))))))
  obtain ⟨rfl, hE4⟩ := hr4
  have hb3 := hb3.extNo hE4
  have hb5 := hb5.extNo hE4
  have hb6 := hb6.extNo hE4
  have hX := hX.thenNo hE4
  have hrd : x.write i b = (if (x.begin i true).2 = 0 then { (x.begin i true).1 with wr := (x.begin i true).1.wr ++ [⟨i, b, false⟩] } else (x.begin i true).1, (x.begin i true).2) := rfl
  rw [hrd]
  generalize x.begin i true = y at hwr
  obtain ⟨y, e⟩ := y
  dsimp only at hwr ⊢
  rw [← hwr] at h hn
  have hslice : Value.slice p x.wr.length c = Value.slice p y.wr.length c := by rw [hwr]
  refine wl_p I_ok rfl (wl (st_stW (l' := refL y p c) I_ok hb3 rfl rfl rfl rfl (ref_flat _ _ _) fun w5 hb3 hE5 hs5 => ?_))
  have hb5 := hb5.ext1 hE5 ne3_5.symm
  have hb6 := hb6.ext1 hE5 ne3_6.symm
  have hX := hX.thenNew hE5 fr3
  have h := h.extNo hX
  have hXw5 := hX
  refine wl_p I_ok rfl (wl_nil (f_then (c_cutK (α := RDsk × Option Addr × Nat) [3, 6, 8] rfl (fun z => []) (fun z u => z.1 = (if e = 0 then { y with wr := y.wr ++ [⟨i, b, false⟩] } else y) ∧ Blk u b3 48 (refL z.1 z.2.1 z.2.2) ∧ Blk u b6 48 (cellsOf ti48.zero) ∧ RefW u z.2.1 z.1.wr ∧ NewOr w p z.2.1 x.wr z.1.wr ∧ (z.1.wr.length ≠ 0 → ∀ b' off, z.2.1 = some ⟨b', off, none⟩ → b' ≠ b6) ∧ Ext No w u) ?_ ?_)))
  · refine c_seq ?_
    refine c_region (wl_p I_ok rfl (wl_nil (f_then (c_if rfl (fun hc => ?_) (fun hc => ?_)))))
    · have hsrc : Src Try.prog w5 66 (.slice p y.wr.length c) y.wr.length (entL y.wr) := Src.slice h.1 one_ents
      refine c_seq ?_
      refine c_region (wl_p I_ok rfl (wl_nil (f_then (c_seq (c_region (wl_p I_ok rfl (wl (st_ldb I_ok hb3 rfl rfl (wl (st_app I_ok rfl 66 80 rfl rfl rfl (by decide) (Own.nil _ 90 66) hsrc (by dsimp only [maxLen]; omega) (by dsimp only; omega) fun p6 c6 w6 ho6 hE6 hB6 => ?_))))))))))
      have ho6 : Own w6 p6 (0 + y.wr.length) c6 90 66 (entL y.wr) := ho6
      rw [Nat.zero_add] at ho6
      have hE6 : Ext No w5 w6 := hE6.mono fun x _ e => by cases e
      have hnew6 : ∀ x, OwnB p6 x → w5.heap.size ≤ x := fun x hx => (hB6 x hx).resolve_left (fun e => by cases e)
      have hb3 := hb3.extNo hE6
      have hb5 := hb5.extNo hE6
      have hb6 := hb6.extNo hE6
      have hX := hX.thenNo hE6
      refine wl_p I_ok rfl (wl_nil (f_then (c_region (wl_p I_ok rfl (wl (st_ldB I_ok hb5 rfl (bytesL_len hb64) (wl (st_bd I_ok rfl (by simp [partsOk, ti90, bytesL, hb64]) (l' := entRow ⟨i, b, false⟩) ?_ ?_))))))))
      · exact ent_put i hb64
      have h66 : (entRow ⟨i, b, false⟩).length = 66 := entRow_len hb64
      refine wl (st_bs I_ok rfl 66 rfl (zs := cellsOf ti90.zero) rfl rfl (by decide) (by decide) ⟨⟨h66, by decide⟩, trivial⟩ (l' := entRow ⟨i, b, false⟩) ?_ fun b26 w7 hn26 hb26 hE7 hs7 => ?_)
      · simp only [putAll, cellsOf_agg]
        rw [Nat.zero_mul, put_whole]
        rw [rep_length, h66, z90_len]
      dsimp only
      rw [Nat.zero_add]
      have hX6 := hX
      have hb3 := hb3.extNo hE7
      have hb6 := hb6.extNo hE7
      have hX := hX.thenNo hE7
      have ho6 := ho6.ext hE7 fun _ _ => id
      have e1 : entL [⟨i, b, false⟩] = entRow ⟨i, b, false⟩ := by simp [entL]
      have hsrc2 : Src Try.prog w7 66 (.slice (some ⟨b26, 0, none⟩) 1 1) 1 (entL [⟨i, b, false⟩]) := Src.slice ⟨by rw [e1, h66], .inr ⟨b26, 0, rfl, by rw [e1]; exact hb26.seg⟩⟩ one_ents
      refine wl (st_app I_ok rfl 66 80 rfl rfl rfl (by decide) ho6 hsrc2 (by dsimp only [maxLen]; omega) (by dsimp only; omega) fun p8 c8 w8 ho8 hE8 hB8 => ?_)
      have ho8 : Own w8 p8 (y.wr.length + 1) c8 90 66 (entL y.wr ++ entL [⟨i, b, false⟩]) := ho8
      have e2 : entL y.wr ++ entL [⟨i, b, false⟩] = entL (y.wr ++ [⟨i, b, false⟩]) := by simp [entL]
      rw [e2] at ho8
      have hb3' := hb3.ext hE8 fun e => (Own.ty ho6 e).ne hb3 (by decide) rfl
      have hb6' := hb6.ext hE8 fun e => (Own.ty ho6 e).ne hb6 (by decide) rfl
      have hX8 : Ext No w w8 := hX.trans hE8 fun x hx e => by have := hnew6 x e; have := hXw5.size; omega
      have hnew8 : ∀ x, OwnB p8 x → w.heap.size ≤ x := fun x hx => by
        have := hXw5.size
        rcases hB8 x hx with h' | h'
        · have := hnew6 x h'; omega
        · have := hX.size; omega
      refine wl_p I_ok rfl (wl (st_st I_ok hb3' rfl rfl rfl fun w9 hb39 hE9 hs9 => ?_))
      have hty8 : ∀ b' off, p8 = some ⟨b', off, none⟩ → TyB w8 b' 90 := fun b' off hb' => by
        rcases ho8 with ⟨hp, _⟩ | ⟨b'', l, hp, hbl, _⟩
        · rw [hp] at hb'; cases hb'
        · rw [hp] at hb'
          simp at hb'
          obtain ⟨rfl, rfl⟩ := hb'
          exact ⟨l, hbl⟩
      have hlen : (y.wr ++ [(⟨i, b, false⟩ : Ent)]).length = y.wr.length + 1 := by simp
      refine wl_nil (f_cut ({ y with wr := y.wr ++ [⟨i, b, false⟩] }, p8, c8) rfl ⟨by rw [if_pos hc], ?_, hb6'.ext1 hE9 ne3_6.symm, ⟨?_, ?_⟩, .inr (own_new ho8 hnew8), fun _ b' off hb' => (hty8 b' off hb').ne hb6' (by decide), hX8.thenNew hE9 fr3⟩)
      · have hb39 : Blk w9 b3 48 [.int .i64 y.n, .slice p8 (y.wr.length + 1) c8, .bool y.dead, .int .i64 y.fuse, .int .i64 y.fault, .int .i64 y.done] := hb39
        rw [← hlen] at hb39
        exact hb39
      · have := ho8.sl.ext hE9 fun b' off hb' e => (hty8 b' off hb').ne hb3' (by decide) e
        rw [← hlen] at this
        exact this
      · intro e he
        rcases List.mem_append.1 he with he | he
        · exact h.2 e he
        · simp at he; subst he; exact hb64
    · refine c_skip ?_
      refine f_cut (y, p, c) rfl ⟨by rw [if_neg hc], hb3, hb6, h, .inl ⟨rfl, hwr⟩, fun hl b' off hb' e => by have := h0.lt (by rw [← hwr]; exact hl) b' off hb'; omega, hX⟩
  rintro ⟨z, p', c'⟩ w6 ⟨hz, hb3, hb6, hR, hN, hb6n, hX⟩
  refine c_seq (c_region (wl (st_ldB I_ok hb3 rfl rfl (wl_p I_ok rfl (wl (st_stW (l' := refL z p' c') I_ok hb6 rfl rfl rfl rfl (ref_flat _ _ _) fun w6 hb6 hE6 hs6 => ?_))))))
  have hX := hX.thenNew hE6 fr6
  have hR6 : RefW w6 p' z.wr := ⟨Sl.ext0 hR.1 hE6 hb6n, hR.2⟩
  refine wl_p I_ok rfl (wl_nil (f_then (c_ret (f_ret [_, _] ⟨⟨b6, 0, rfl, ld_all I_ok rfl rfl hb6.seg rfl⟩, rfl, trivial⟩ ?_))))
  rw [← hz]
  refine ⟨p', c', rfl, ?_, hN, hX⟩
  exact hR6
end Go.Proofs.Ytoldbdocgimpnaa
