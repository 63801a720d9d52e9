/- writing a sector -/
import Derived.Test.YtoldbdocgimpnaaW3
namespace Go.Proofs.Ytoldbdocgimpnaa
open Go.Vc

/-- a disk's blocks and all that are new -/
def Grow (F : Nat → Prop) (w w' : World) : Nat → Prop := fun x => F x ∨ (w.heap.size ≤ x ∧ x < w'.heap.size)
theorem Grow.old {F : Nat → Prop} {w w' : World} {x : Nat} (h : F x) : Grow F w w' x := .inl h

theorem z29 : cellsOf ti29.zero = bytesL zeros := by simp [ti29, zeros, bytesL]
theorem bytesL_len {b : List Int} (h : b.length = 64) : (bytesL b).length = 64 := by simp [bytesL, h]

theorem orderL_snoc (l : List Nat) (i : Nat) : orderL (l ++ [i]) = orderL l ++ [.int .i64 (i : Int)] := by simp [orderL]

theorem writeIn_calls (w : World) {d sb oc m b1 b2 b3 : Nat} {F : Nat → Prop} {op : Option Addr} {D : Dsk} (h : DiskAt w d sb op oc F D) (hok : D.Ok m) (hm : m < 1000000000) {i : Nat} (hi : i < D.secs.length) {b : List Int} (hb64 : b.length = 64)
    (hb1 : Blk w b1 29 (bytesL b)) (hb2 : Blk w b2 24 [.pointer (some ⟨d, 0, none⟩)]) (hb3 : Blk w b3 3 [.int .i64 (i : Int)]) (hF3 : ¬ F b1 ∧ ¬ F b2 ∧ ¬ F b3) :
    CallsV Try.prog 57 ([.pointer (some ⟨sb, i * 65, none⟩)] ++ #[Value.pointer (some ⟨b1, 0, none⟩), .pointer (some ⟨b2, 0, none⟩), .pointer (some ⟨b3, 0, none⟩)].toList) w
      fun _ w' => ∃ op' oc', DiskAt w' d sb op' oc' (Grow F w w') (D.put i b) ∧ Ext F w w' := by
  obtain ⟨L, hL1, hL2⟩ := h.secs
  have hu := hL2.uni
  have hs : D.secs[i]? = some D.secs[i] := by simp [hi]
  have hiL : i < L.length := by rw [hL2.1]; exact hi
  have hr : L[i]? = some L[i] := by simp
  obtain ⟨p, c, hrow, hc, h64, hw64, hsl, hpF⟩ := hL2.2 _ _ _ hs hr
  generalize hsd : D.secs[i] = s at *
  generalize hrd : L[i] = r at *
  have hfew := waits_few hok hs
  have hcell : w.cell? ⟨sb, i * 65 + 64, none⟩ = some (.slice p s.waits.length c) := by
    refine hL1.cell ?_
    rw [rows_get hu hr (by decide), hrow]
    simp [secRow, bytesL, h64]
  refine calls_enter Try.func57 rfl rfl rfl rfl ?_
  have hX := Ext.refl F w
  refine c_seq ?_
  refine c_draw rfl 19 [(0, true), (1, true), (2, true), (3, true), (4, true), (5, true), (6, true), (7, true), (8, true), (9, true), (10, true), (11, true), (12, true), (13, true), (14, true), (15, true), (16, true), (17, false), (18, false)] [19, 20, 21] No (by kernel_rfl) fun w1 hE1 hs1 => ?_
  have hX := hX.thenNo hE1
  refine wd_p I_ok rfl (wd_ld I_ok rfl rfl (fun w' hw' => cell_ext hcell hw' id) ?_)
  refine wd_p I_ok rfl (wd_ld I_ok rfl rfl (fun w' hw' => cell_ext hcell hw' id) ?_)
  refine wd_p I_ok rfl (wd_ld I_ok rfl rfl (fun w' hw' => cell_ext hcell hw' id) ?_)
  refine wd_p I_ok rfl (wd_sl I_ok rfl rfl 0 s.waits.length s.waits.length 64 rfl (.inl ⟨rfl, rfl⟩) (.inl rfl) (.inr ⟨rfl, rfl⟩) (by omega) (by omega) (by simpa using hc) ?_)
  refine wd_ldN I_ok rfl rfl (fun w' hw' => (hb1.extNo hw').seg) (by simp [bytesL, hb64]) ?_
  refine wd_l rfl (st_bs I_ok rfl 64 rfl z29 (bytesL_len zeros_length) (by decide) (by decide) ⟨⟨bytesL_len hb64, by decide⟩, trivial⟩ (l' := bytesL b) ?_ fun b22 w2 hn22 hb22 hE2 hs2 => ⟨hE1.thenNo hE2, ?_⟩)
  · simp only [putAll, cellsOf_agg]
    rw [Nat.zero_mul, put_whole]
    rw [rep_length, bytesL_len hb64, bytesL_len zeros_length]
  have fr22 := Nat.le_trans hX.size hn22
  have hX := hX.thenNo hE2
  have hE12 := hE1.thenNo hE2
  have hsl2 : Sl w2 (slBase p 0 s.waits.length 64) (s.waits.length - 0) 64 (bl s.waits).flatten := by rw [slBase_zero]; exact hsl.extNo hE12
  have hsrc : Src Try.prog w2 64 (.slice (some ⟨b22, 0, none⟩) 1 1) 1 (bytesL b) := Src.slice ⟨by rw [bytesL_len hb64], .inr ⟨b22, 0, rfl, hb22.seg⟩⟩ one_ints
  refine wd_l rfl (st_appG I_ok rfl 64 64 rfl rfl (by rw [z29]; exact bytesL_len zeros_length) (by decide) hsl2 hsrc (by dsimp only [maxLen]; omega) (by dsimp only; omega) (by dsimp only; omega) fun b23 c3 w3 hn23 ho3 hE3 => ⟨hE12.thenNo hE3, ?_⟩)
  have ho3 : Own w3 (some ⟨b23, 0, none⟩) (s.waits.length + 1) c3 29 64 ((bl s.waits).flatten ++ bytesL b) := ho3
  have fr23 := Nat.le_trans hX.size hn23
  have hX := hX.thenNo hE3
  have hE13 := hE12.thenNo hE3
  have hL1' := hL1.extNo hE13
  have h' := h.extNo hE13
  have hL2' : RowsAt w3 F D.secs L := hL2.ext hE13 fun _ _ _ => id
  have hlen := rows_length hu
  refine wd_sw (wb rfl (st_p I_ok rfl rfl rfl (wb rfl (st_p I_ok rfl rfl rfl (wb rfl (st_set I_ok hL1' rfl rfl (by show i * 65 + 64 < _; rw [hlen]; have := Nat.mul_le_mul_right 65 hiL; omega) fun w4 hL4 hE4 hs4 => ?_))))))
  have hL4 : Blk w4 sb 94 (Vc.put L.flatten (i * 65 + 64) [Value.slice (some ⟨b23, 0, none⟩) (s.waits.length + 1) c3]) := hL4
  rw [rows_put hu hr _ (by simp)] at hL4
  have hX : Ext F w w4 := hX.trans hE4 fun x hx e => by rw [e]; exact h.own.2.1
  have hne : d ≠ sb := (h'.head.ne hL1' (by decide))
  have hhead := h'.head.ext1 hE4 hne
  have hord : Own w4 op D.order.length oc 3 1 (orderL D.order) := h'.order.ext hE4 fun x hx e => (Own.ty h'.order hx).ne hL1' (by decide) e
  have hb2' := (hb2.extNo hE13).ext1 hE4 fun e => hF3.2.1 (e ▸ h.own.2.1)
  have hb3' := (hb3.extNo hE13).ext1 hE4 fun e => hF3.2.2 (e ▸ h.own.2.1)
  have hop2 : ∀ x, OwnB op x → b2 ≠ x := fun x hx e => hF3.2.1 (e ▸ h.own.2.2 x hx)
  have hop3 : ∀ x, OwnB op x → b3 ≠ x := fun x hx e => hF3.2.2 (e ▸ h.own.2.2 x hx)
  have hopd : ∀ x, OwnB op x → d ≠ x := fun x hx e => (Own.ty h'.order hx).ne h'.head (by decide) e.symm
  refine wb_nil (f_then (c_draw rfl 8 [(0, true), (1, true), (2, true), (3, true), (4, true), (5, true), (6, false), (7, false)] [8, 9, 10] (OwnB op) (by kernel_rfl) fun w5 hE5 hs5 => ?_))
  have hX := hX.thenNo hE5
  refine wd_ld I_ok rfl rfl (fun w' hw' => (hb2'.ext hw' fun e => hop2 _ e rfl).cell rfl) ?_
  refine wd_ld I_ok rfl rfl (fun w' hw' => (hb2'.ext hw' fun e => hop2 _ e rfl).cell rfl) ?_
  refine wd_p I_ok rfl (wd_ld I_ok rfl rfl (fun w' hw' => (hhead.ext hw' fun e => hopd _ e rfl).cell rfl) ?_)
  refine wd_ld I_ok rfl rfl (fun w' hw' => (hb3'.ext hw' fun e => hop3 _ e rfl).cell rfl) ?_
  refine wd_l rfl (st_bs I_ok rfl 1 rfl rfl rfl (by decide) (by decide) ⟨⟨rfl, by decide⟩, trivial⟩ (l' := [.int .i64 (i : Int)]) rfl fun b32 w6 hn32 hb32 hE6 hs6 => ⟨(hE5.thenNo hE6).no, ?_⟩)
  have fr32 := Nat.le_trans hX.size hn32
  have hX := hX.thenNo hE6
  have hE56 := hE5.thenNo hE6
  have hord := hord.ext hE56 fun _ _ => id
  have hsrc2 : Src Try.prog w6 1 (.slice (some ⟨b32, 0, none⟩) 1 1) 1 [.int .i64 (i : Int)] := Src.slice ⟨rfl, .inr ⟨b32, 0, rfl, hb32.seg⟩⟩ (fun v hv => by simp at hv; subst hv; rfl)
  have hfo := hok.few
  refine wd_l rfl (st_app I_ok rfl 1 8 rfl rfl rfl (by decide) hord hsrc2 (by dsimp only [maxLen]; omega) (by dsimp only; omega) fun p7 c7 w7 ho7 hE7 hB7 => ⟨hE56.no.then hE7, ?_⟩)
  have ho7 : Own w7 p7 (D.order.length + 1) c7 3 1 (orderL D.order ++ [.int .i64 (i : Int)]) := ho7
  have hX : Ext F w w7 := hX.trans hE7 fun x hx e => h.own.2.2 x e
  have hhead := (hhead.extNo hE56).ext hE7 fun e => hopd _ e rfl
  have hhead7 := hhead
  refine wd_sw (wb rfl (st_p I_ok rfl rfl rfl (wb rfl (st_p I_ok rfl rfl rfl (wb rfl (st_st I_ok hhead rfl rfl rfl fun w8 hhead hE8 hs8 => ?_))))))
  have hX : Ext F w w8 := hX.trans hE8 fun x hx e => by rw [e]; exact h.own.1
  refine wb_nil (f_end0 rfl ?_)
  refine ⟨p7, c7, ?_, hX⟩
  have hsbd : sb ≠ d := hne.symm
  have hsbo : ∀ x, OwnB op x → sb ≠ x := fun x hx e => (Own.ty h'.order hx).ne hL1' (by decide) e.symm
  -- what has turned since w3
  have hE38 : Ext (fun x => x = sb ∨ OwnB op x ∨ x = d) w3 w8 :=
    ((hE4.mono fun _ _ e => .inl e).thenNo hE56).then ((hE7.mono fun _ _ e => .inr (.inl e)).then (hE8.mono fun _ _ e => .inr (.inr e)))
  have hS29 : ∀ x, TyB w3 x 29 → ¬ (x = sb ∨ OwnB op x ∨ x = d) := fun x hx e => by
    rcases e with e | e | e
    · exact hx.ne hL1' (by decide) e
    · obtain ⟨l, hl⟩ := Own.ty h'.order e
      exact hx.ne hl (by decide) rfl
    · exact hx.ne h'.head (by decide) e
  have hL8 : Blk w8 sb 94 (L.set i (Vc.put r 64 [Value.slice (some ⟨b23, 0, none⟩) (s.waits.length + 1) c3])).flatten :=
    ((hL4.extNo hE56).ext hE7 fun e => hsbo _ e rfl).ext1 hE8 hsbd
  have hord8 := ho7.ext hE8 fun x hx e => (Own.ty ho7 hx).ne hhead7 (by decide) e
  have h23 : TyB w3 b23 29 := Own.ty ho3 rfl
  have hrow' : Vc.put r 64 [Value.slice (some ⟨b23, 0, none⟩) (s.waits.length + 1) c3] = secRow s.safe (some ⟨b23, 0, none⟩) (s.waits.length + 1) c3 := by
    rw [hrow, put_eq _ _ _ (by simp [secRow, bytesL, h64])]
    have e1 : (secRow s.safe p s.waits.length c).take 64 = bytesL s.safe := by
      unfold secRow; rw [List.take_append_of_le_length (by simp [bytesL, h64]), List.take_of_length_le (by simp [bytesL, h64])]
    rw [e1, List.drop_eq_nil_of_le (by simp [secRow, bytesL, h64])]
    simp [secRow]
  refine ⟨?_, ⟨_, hL8, ?_, ?_⟩, ?_, ⟨.inl h.own.1, .inl h.own.2.1, fun x hx => ?_⟩, fun x hx => ?_⟩
  · have e : (D.put i b).secs.length = D.secs.length := by simp [Dsk.put]
    have e2 : (D.put i b).order.length = D.order.length + 1 := by simp [Dsk.put]
    rw [e, e2]
    exact hhead
  · simp [Dsk.put, hL2.1]
  · intro j s' r' hs' hr'
    simp only [Dsk.put, List.getElem?_modify] at hs'
    rw [List.getElem?_set] at hr'
    by_cases hij : i = j
    · subst hij
      rw [if_pos rfl, if_pos hiL] at hr'
      rw [hs] at hs'
      simp at hs' hr'
      subst hs'
      rw [hrow'] at hr'
      subst hr'
      refine ⟨some ⟨b23, 0, none⟩, c3, ?_, ?_, h64, ?_, ?_, ?_⟩
      · simp [writeSec]
      · have := ho3.cap
        simp only [writeSec, List.length_append, List.length_singleton]
        omega
      · intro x hx
        simp only [writeSec, List.mem_append, List.mem_singleton] at hx
        rcases hx with hx | rfl
        · exact hw64 x hx
        · exact hb64
      · have e3 := ho3.sl.ext hE38 fun x off hp => by
          simp only [Option.some.injEq, Addr.mk.injEq] at hp
          rw [← hp.1]
          exact hS29 _ h23
        have e4 : (bl (writeSec b s).waits).flatten = (bl s.waits).flatten ++ bytesL b := by simp [bl, writeSec]
        rw [e4]
        simpa [writeSec] using e3
      · intro x off hp
        simp only [Option.some.injEq, Addr.mk.injEq] at hp
        rw [← hp.1]
        have h8 := h23.ext hE38 (hS29 _ h23)
        obtain ⟨l, hl⟩ := h8
        exact ⟨.inr ⟨fr23, hl.lt⟩, l, hl⟩
    · rw [if_neg hij] at hr'
      have hs'' : D.secs[j]? = some s' := by
        cases hj : D.secs[j]? with
        | none => rw [hj] at hs'; simp at hs'
        | some t => rw [hj] at hs'; simpa [hij] using hs'
      exact ((hL2'.2 j s' r' hs'' hr').ext hE38 fun x _ hx => hS29 x hx).mono fun x hx => .inl hx
  · have e2 : (D.put i b).order.length = D.order.length + 1 := by simp [Dsk.put]
    rw [e2]
    simpa [Dsk.put, orderL] using hord8
  · rcases hB7 x hx with hx' | hx'
    · exact .inl (h.own.2.2 x hx')
    · refine .inr ⟨?_, hord8.lt hx⟩
      have := (hE13.thenNo (Ext.refl No w3)).size
      have := hE4.size
      have := hE56.size
      omega
  · rcases hx with hx | hx
    · exact Nat.lt_of_lt_of_le (h.lt x hx) hX.size
    · exact hx.2
end Go.Proofs.Ytoldbdocgimpnaa
