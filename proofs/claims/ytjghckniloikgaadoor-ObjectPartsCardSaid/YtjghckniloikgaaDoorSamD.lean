/-
  Walks and laws towards: ObjectSame: which objects are the same, for every two objects; the condition: the table of the digest reads as the card lists it (tied to the text of the program).
-/
import Derived.Test.YtjghckniloikgaaDoorSamC
namespace Go.Proofs.YtjghckniloikgaaDoor
open Go.Vc
theorem idK : IdKey Tryd.prog 26 := by
  refine ⟨deep_law (m := 10) (by omega) kId (by kernel_rfl) (by simp only [uId]), fun x hx => ?_⟩
  have h0 : Nat.blt 0 Tryd.prog.types.size = true := by kernel_rfl
  obtain ⟨d, hd⟩ : ∃ d, Tryd.prog.types.size + 1 = d + 2 := by
    generalize Tryd.prog.types.size = n at h0 ⊢
    cases n with
    | zero => cases h0
    | succ n => exact ⟨n, rfl⟩
  have h1 : Tryd.prog.keyType 26 = true := by kernel_rfl
  have h2 : Tryd.prog.keyLits (Tryd.prog.types.size + 1) 26 (bytesU x) = some (idLits x) := by rw [hd]; exact lits_bytes uId cId uByte cByte hx
  refine ⟨.string (keyBytes (idLits x)), ?_⟩
  unfold keyOf
  rw [uId]
  have h3 : (Tryd.prog.keyType 26 && (idV x).formed Tryd.prog 26) = true := by rw [h1, idForm hx]; rfl
  simp only [h3, if_true]
  show (Tryd.prog.keyLits (Tryd.prog.types.size + 1) 26 (bytesU x)).map _ = _
  rw [h2]
  rfl
theorem leaf_build {p : Str} {i : List UInt8} (hi : i.length = 32) : putAll (LeafD.cells ⟨[], idZ⟩) [(0, 1, strV p), (1, 32, .agg (bytesU i).toArray)] = LeafD.cells ⟨p, i⟩ := by
  have e : putAll (LeafD.cells ⟨[], idZ⟩) [(0, 1, strV p), (1, 32, .agg (bytesU i).toArray)] = put (LeafD.cells ⟨p, idZ⟩) 1 (bytesU i) := by simp only [putAll, cellsOf_agg]; rfl
  rw [e]
  exact leaf_put rfl hi
theorem objC_w {x : ObjD} {a : ObjP} (hx : ObjIn x) : (objC x a).length = 73 := objC_len hx
theorem heldZ_c : cellsOf ti68.zero = bytesU idZ ++ objC objZ noP := by kernel_rfl
theorem held_build {i : List UInt8} {o : ObjD} {a : ObjP} (hi : i.length = 32) (ho : ObjIn o) : putAll (bytesU idZ ++ objC objZ noP) [(0, 32, .agg (bytesU i).toArray), (32, 73, .agg (objC o a).toArray)] = heldC ⟨i, o, a⟩ := by
  simp only [putAll, cellsOf_agg, heldC]
  rw [put_eq _ 0 _ (by rw [List.length_append, bytesU_len, bytesU_len, hi, objC_len objZ_in]; decide), bytesU_len, hi]
  have e1 : (bytesU idZ ++ objC objZ noP).drop (0 + 32) = objC objZ noP := List.drop_left' (by rw [bytesU_len]; rfl)
  rw [e1, List.take_zero, List.nil_append]
  have l1 : (bytesU i).length = 32 := by rw [bytesU_len, hi]
  rw [put_eq _ 32 _ (by rw [List.length_append, l1, objC_len objZ_in, objC_len ho]; exact Nat.le_refl _), objC_len ho, List.take_left' l1, List.drop_of_length_le (by rw [List.length_append, l1, objC_len objZ_in]; exact Nat.le_refl _), List.append_nil]
theorem met_tell {l : List HeldT} {x : List UInt8} : tell Value.bool (.bool false) (metF l x) = .bool (decide (x ∈ l.map HeldT.id)) := by
  unfold metF
  by_cases h : x ∈ l.map HeldT.id
  · rw [if_pos h, decide_eq_true h]; rfl
  · rw [if_neg h, decide_eq_false h]; rfl
/-- what the consumer promises, and what it is promised -/
structure Cons (n1 N0 l : Nat) (J : List HeldT → World → Prop) : Prop where
  st : ∀ hs w w', J hs w → Ext (fun x => n1 ≤ x ∧ ItS 68 60 w x) w w' → J hs w'
  yield : ∀ hs h w, J hs w → hs.length ≤ 40 → h.id.length = 32 → ObjIn h.o → YieldAt Fence.wide 8 Tryd.prog l #[.agg (heldC h).toArray] w fun e w' => ∃ b, e = .returned (.bool b) ∧ b = true ∧ J (hs ++ [h]) w' ∧ Ext (fun x => N0 ≤ x ∧ CoS 68 60 w x) w w'
section
variable {n1 N0 l : Nat} {J : List HeldT → World → Prop} {hs : List HeldT} {w w' : World}
theorem Cons.no (h : Cons n1 N0 l J) (hJ : J hs w) (hE : Ext No w w') : J hs w' := h.st _ _ _ hJ hE.no
theorem Cons.one (h : Cons n1 N0 l J) (hJ : J hs w) {b T : Nat} {L : List Value} (hE : Ext (One b) w w') (hb : Blk w b T L) (hn : n1 ≤ b) (h1 : T ≠ 68) (h2 : T ≠ 60) : J hs w' :=
  h.st _ _ _ hJ (hE.mono fun x _ e => by have e : x = b := e; subst e; exact ⟨hn, .inl ⟨T, L, hb, h1, h2⟩⟩)
theorem Cons.own (h : Cons n1 N0 l J) (hJ : J hs w) {p : Option Addr} {n c T sz : Nat} {xs : List Value} (hE : Ext (OwnB p) w w') (ho : Own w p n c T sz xs) (hn : ∀ x, OwnB p x → n1 ≤ x) (h1 : T ≠ 68) (h2 : T ≠ 60) : J hs w' :=
  h.st _ _ _ hJ (hE.mono fun x _ hx => by obtain ⟨L, hL⟩ := ho.blkAt hx; exact ⟨hn x hx, .inl ⟨T, L, hL, h1, h2⟩⟩)
theorem Cons.map (h : Cons n1 N0 l J) (hJ : J hs w) {β : Type} {r : Nat} {enc : β → Value} {g : List UInt8 → Option β} (hE : Ext (One r) w w') (hm : MapB w r enc g) (hn : n1 ≤ r) : J hs w' :=
  h.st _ _ _ hJ (hE.mono fun x _ e => by have e : x = r := e; subst e; obtain ⟨es, c, h, _⟩ := hm; exact ⟨hn, .inr ⟨es, c, h⟩⟩)
end
theorem blob_sh (t : Str) : Short (blobO t) := ⟨objZ_sh.leaves, objZ_sh.parents, objZ_sh.rows, objZ_sh.leafP, objZ_sh.rowP⟩
theorem blob_l (w : World) (t : Str) : ObjL w (blobO t) noP := ⟨Sl.nil _ _ _, Sl.nil _ _ _, Sl.nil _ _ _⟩
theorem rows_at {l : List RowD} (h : RowsOk l) : l.length ≤ 32 ∧ ∀ r ∈ l, r.path.length ≤ 48 ∧ r.text.length ≤ 256 :=
  ⟨by have := h.2.1; rwa [List.length_map] at this, fun r hr => ⟨rises_at h.2 (List.mem_map.2 ⟨r, hr, rfl⟩), Nat.not_lt.1 fun ht => h.1 ⟨r, hr, ht⟩⟩⟩
end Go.Proofs.YtjghckniloikgaaDoor
namespace Go.Proofs.YtjghckniloikgaaDoor
open Go.Vc
theorem idB_len (x : ObjD) : (idB x).length = 32 := by
  unfold idB
  split
  · exact idOf_len _
  · rfl
theorem tree_sh {l : List LeafD} (h1 : l.length < 1000000000) (h2 : ∀ r ∈ l, r.path.length < 1000000000) : Short (treeO l) := ⟨h1, objZ_sh.parents, objZ_sh.rows, h2, objZ_sh.rowP⟩
abbrev lfP (p : Option Addr) (c : Nat) : ObjP := ⟨p, c, none, 0, none, 0⟩
theorem parts1_calls (w : World) {l n1 N0 b1 : Nat} {J : List HeldT → World → Prop} (hC : Cons n1 N0 l J) {p : Option Addr} {c : Nat} {rows : List RowD} (hrows : RowsOk rows) (hb : Blk w b1 58 [.slice p rows.length c]) (hs : Sl w p rows.length 2 (rows.flatMap RowD.cells))
    (hb1 : b1 < N0) (hps : ∀ x off, p = some ⟨x, off, none⟩ → rows ≠ [] → x < N0) (hN : N0 ≤ n1) (hn : n1 ≤ w.heap.size) (hr : Seg w 0 0 (wordsV rootsW)) (h0 : J [] w) :
    CallsV Tryd.prog 89 [.func (.yield l) #[] #[], .pointer (some ⟨b1, 0, none⟩)] w fun _v w' => ∃ lp lc, J (partsOf rows (lfP lp lc)) w' ∧ Own w' lp (leavesOf rows).length lc 76 33 ((leavesOf rows).flatMap LeafD.cells) ∧ (∀ x, OwnB lp x → n1 ≤ x) ∧ Ext (fun x => N0 ≤ x) w w' := by
  have hr32 := rows_at hrows
  have hll : (leavesOf rows).length = rows.length := by rw [leavesOf, List.length_map]
  refine calls_enter Tryd.func89 rfl rfl rfl rfl ?_
  have hX := Ext.refl ((fun x => N0 ≤ x)) w
  refine c_seq (c_region (wl (st_mm Value.bool rfl fun r3 w1 hn3 hM hE1 hs1 => ?_)))
  have hX := hX.thenNo hE1
  have hJ := hC.no h0 hE1
  refine wl_p I_ok rfl (wl_nil (f_then (c_seq (c_region (wl (st_bd I_ok rfl ⟨⟨rfl, by decide⟩, trivial⟩ (l' := objC (treeO []) noP) (by rw [← objZ_c]; rfl) (wl (st_al I_ok rfl fun b4 w2 hn4 hb4 hE2 => ?_))))))))
  have fr4 := Nat.le_trans hX.size hn4
  have hJ := hC.no hJ hE2
  have hM := hM.extNo hE2
  have hX := hX.thenNo hE2
  have hb4o := hb4
  refine wl (st_stW (l' := objC (treeO []) noP) I_ok hb4 rfl rfl rfl rfl OneC.h fun w3 hb4 hE3 hs3 => ?_)
  have hJ := hC.one hJ hE3 hb4o (by omega) (by decide) (by decide)
  have hM := hM.ext1 hE3 hb4o
  have hX := hX.thenNew hE3 fr4
  refine wl_nil (f_then (c_seq (c_seq (c_region (wl_p I_ok rfl (wl (st_ld I_ok rfl ((hb.ext hX (fun h => absurd h (Nat.not_le.2 hb1))).cell rfl) ?_)))))))
  refine wl_p I_ok rfl (wl_nil (f_then (c_block ?_)))
  refine c_loopK (α := Nat × Option Addr × Nat) [0, 3, 4, 15, 16] rfl (fun z => [(17, .int .i64 (z.1 : Int))]) (fun z u => (z.1 ≤ rows.length ∧ MapB u r3 Value.bool (metF (blobsOf (rows.take z.1))) ∧ Own u z.2.1 ((leavesOf rows).take z.1).length z.2.2 76 33 (((leavesOf rows).take z.1).flatMap LeafD.cells) ∧ (∀ x, OwnB z.2.1 x → n1 ≤ x) ∧ J (blobsOf (rows.take z.1)) u) ∧ Blk u b4 33 (objC (treeO ((leavesOf rows).take z.1)) (lfP z.2.1 z.2.2)) ∧ Ext ((fun x => N0 ≤ x)) w u) (fun z u => rows.length - z.1) (0, none, 0) rfl ⟨⟨Nat.zero_le _, by have e : metF (blobsOf (rows.take 0)) = fun _ => none := (by funext x; simp [metF, blobsOf]); rw [e]; exact hM, Own.nil _ _ _, noOwn, hJ⟩, hb4, hX⟩ ?_
  rintro ⟨i, lp, lc⟩ w4 ⟨⟨hi, hM, hq, hqn, hJ⟩, hb4, hX⟩
  try dsimp only
  dsimp only at hi hM hq hqn hJ
  refine c_seq (c_region (wl_p I_ok rfl (wl_nil (f_then (c_seq (c_if rfl (fun hc => ?_) (fun hc => ?_)))))))
  · have hi : i < rows.length := by omega
    obtain ⟨qb, qoff, hp, hsq⟩ := hs.rowAll (fun r _ => r.len) (by omega)
    rw [hp]
    have hqb := hps qb qoff hp (fun e => by rw [e] at hi; exact absurd hi (Nat.not_lt_zero _))
    have hri := hr32.2 _ (List.getElem_mem hi)
    have hbl := blobsOf_len (rows.take i)
    rw [List.length_take] at hbl
    have htl : ((leavesOf rows).take i).length = i := by rw [List.length_take, hll]; omega
    refine c_skip (f_then (c_seq (c_block (c_seq (c_region (wl (st_ix I_ok rfl 2 rfl i rfl (by omega) (qoff + i * 2) rfl (wl (st_ldN I_ok rfl ((hsq i hi).ext hX (fun h => absurd h (Nat.not_le.2 hqb))) rfl ?_)))))))))
    refine wl (st_al I_ok rfl fun b6 w5 hn6 hb6 hE5 => ?_)
    have ne4_6 : b4 ≠ b6 := Nat.ne_of_lt (Nat.lt_of_lt_of_le hb4.lt hn6)
    have fr6 := Nat.le_trans hX.size hn6
    have hb4 := hb4.extNo hE5
    have hJ := hC.no hJ hE5
    have hM := hM.extNo hE5
    have hq := hq.ext hE5 fun _ _ => id
    have hX := hX.thenNo hE5
    have hb6o := hb6
    refine wl (st_stW (l' := (rows[i]).cells) I_ok hb6 rfl rfl rfl rfl OneC.h fun w6 hb6 hE6 hs6 => ?_)
    have hb4 := hb4.ext1 hE6 ne4_6
    have hJ := hC.one hJ hE6 hb6o (by omega) (by decide) (by decide)
    have hM := hM.ext1 hE6 hb6o
    have hq := hq.extTy hE6 hb6o (by decide)
    have hX := hX.thenNew hE6 fr6
    refine wl_nil (f_then (c_seq (c_region (wl_p I_ok rfl (wl (st_ldb I_ok hb6 rfl rfl (wl (st_bd I_ok rfl ⟨⟨rfl, by decide⟩, ⟨rfl, by decide⟩, trivial⟩ (l' := objC (blobO (rows[i]).text) noP) (by rw [← objZ_c]; rfl) ?_))))))))
    refine wl (st_al I_ok rfl fun b7 w7 hn7 hb7 hE7 => ?_)
    have ne4_7 : b4 ≠ b7 := Nat.ne_of_lt (Nat.lt_of_lt_of_le hb4.lt hn7)
    have ne6_7 : b6 ≠ b7 := Nat.ne_of_lt (Nat.lt_of_lt_of_le hb6.lt hn7)
    have fr7 := Nat.le_trans hX.size hn7
    have hb4 := hb4.extNo hE7
    have hb6 := hb6.extNo hE7
    have hJ := hC.no hJ hE7
    have hM := hM.extNo hE7
    have hq := hq.ext hE7 fun _ _ => id
    have hX := hX.thenNo hE7
    have hb7o := hb7
    refine wl (st_stW (l' := objC (blobO (rows[i]).text) noP) I_ok hb7 rfl rfl rfl rfl OneC.h fun w8 hb7 hE8 hs8 => ?_)
    have hb4 := hb4.ext1 hE8 ne4_7
    have hb6 := hb6.ext1 hE8 ne6_7
    have hJ := hC.one hJ hE8 hb7o (by omega) (by decide) (by decide)
    have hM := hM.ext1 hE8 hb7o
    have hq := hq.extTy hE8 hb7o (by decide)
    have hX := hX.thenNew hE8 fr7
    refine wl_nil (f_then (c_seq (c_region (wl (st_ldB I_ok hb7 rfl rfl ?_)))))
    refine wl (st_call Tryd.call12 rfl rfl rfl rfl rfl rfl (idObj_calls w8 (blobO_in _) (blob_l _ _) (blob_sh _) (hr.ext hX (fun h => absurd h (Nat.not_le.2 (by omega))))) fun v9 w9 hr9 => ?_)
    obtain ⟨rfl, hE9⟩ := hr9
    have hb4 := hb4.extNo hE9
    have hb6 := hb6.extNo hE9
    have hb7 := hb7.extNo hE9
    have hJ := hC.no hJ hE9
    have hM := hM.extNo hE9
    have hq := hq.ext hE9 fun _ _ => id
    have hX := hX.thenNo hE9
    rw [show idB (blobO (rows[i]).text) = idOf (blobO (rows[i]).text) from if_pos (blob_ok hri.2)]
    refine wl_p I_ok rfl (wl (st_al I_ok rfl fun b8 w10 hn8 hb8 hE10 => ?_))
    have ne4_8 : b4 ≠ b8 := Nat.ne_of_lt (Nat.lt_of_lt_of_le hb4.lt hn8)
    have ne6_8 : b6 ≠ b8 := Nat.ne_of_lt (Nat.lt_of_lt_of_le hb6.lt hn8)
    have ne7_8 : b7 ≠ b8 := Nat.ne_of_lt (Nat.lt_of_lt_of_le hb7.lt hn8)
    have fr8 := Nat.le_trans hX.size hn8
    have hb4 := hb4.extNo hE10
    have hb6 := hb6.extNo hE10
    have hb7 := hb7.extNo hE10
    have hJ := hC.no hJ hE10
    have hM := hM.extNo hE10
    have hq := hq.ext hE10 fun _ _ => id
    have hX := hX.thenNo hE10
    have hb8o := hb8
    refine wl (st_stW (l' := bytesU (idOf (blobO (rows[i]).text))) I_ok hb8 rfl rfl (by rw [bytesU_len, idOf_len]) (by rw [bytesU_len, idOf_len]; rfl) OneC.h fun w11 hb8 hE11 hs11 => ?_)
    have hb4 := hb4.ext1 hE11 ne4_8
    have hb6 := hb6.ext1 hE11 ne6_8
    have hb7 := hb7.ext1 hE11 ne7_8
    have hJ := hC.one hJ hE11 hb8o (by omega) (by decide) (by decide)
    have hM := hM.ext1 hE11 hb8o
    have hq := hq.extTy hE11 hb8o (by decide)
    have hX := hX.thenNew hE11 fr8
    refine wl_p I_ok rfl (wl_nil (f_then (c_seq (c_region (wl_p I_ok rfl (wl (st_ldb I_ok hb4 rfl rfl (wl_p I_ok rfl (wl (st_ldb I_ok hb6 rfl rfl (wl (st_ldB I_ok hb8 rfl (by rw [bytesU_len, idOf_len]) ?_))))))))))))
    refine wl (st_bd I_ok rfl ⟨⟨rfl, by decide⟩, ⟨by rw [cellsOf_agg, bytesU_len, idOf_len], by decide⟩, trivial⟩ (l' := (leafOf rows[i]).cells) (by rw [leafZ_c]; exact leaf_build (idOf_len _)) ?_)
    refine wl (st_bs I_ok rfl 33 rfl leafZ_c (LeafD.len rfl) (by decide) (by decide) ⟨⟨by rw [cellsOf_agg]; exact (LeafD.len (idOf_len _)), by decide⟩, trivial⟩ (l' := (leafOf rows[i]).cells) (one_leaf (idOf_len _)) fun b35 w12 hn35 hb35 hE12 hs12 => ?_)
    have ne4_35 : b4 ≠ b35 := Nat.ne_of_lt (Nat.lt_of_lt_of_le hb4.lt hn35)
    have ne6_35 : b6 ≠ b35 := Nat.ne_of_lt (Nat.lt_of_lt_of_le hb6.lt hn35)
    have ne7_35 : b7 ≠ b35 := Nat.ne_of_lt (Nat.lt_of_lt_of_le hb7.lt hn35)
    have ne8_35 : b8 ≠ b35 := Nat.ne_of_lt (Nat.lt_of_lt_of_le hb8.lt hn35)
    have fr35 := Nat.le_trans hX.size hn35
    have hb4 := hb4.extNo hE12
    have hb6 := hb6.extNo hE12
    have hb7 := hb7.extNo hE12
    have hb8 := hb8.extNo hE12
    have hJ := hC.no hJ hE12
    have hM := hM.extNo hE12
    have hq := hq.ext hE12 fun _ _ => id
    have hX := hX.thenNo hE12
    have hX1 := hX
    refine wl (st_app I_ok rfl 33 48 rfl rfl rfl (by decide) hq (Src.slice (m := 1) ⟨LeafD.len (idOf_len _), .inr ⟨b35, 0, rfl, hb35.seg⟩⟩ OneC.h) (by dsimp only [maxLen]; omega) (by dsimp only; omega) fun p13 c13 w13 ho13 hE13 hB13 => ?_)
    dsimp only at ho13 hE13 hB13 ⊢
    have hX := hX1.trans hE13 fun y hy hF => by have := hqn y hF; omega
    have hb4 := hb4.extOwn hq hE13 (by decide)
    have hb6 := hb6.extOwn hq hE13 (by decide)
    have hb7 := hb7.extOwn hq hE13 (by decide)
    have hb8 := hb8.extOwn hq hE13 (by decide)
    have hM := hM.extOwn hq hE13
    have hJ := hC.own hJ hE13 hq hqn (by decide) (by decide)
    have e3 : ((leavesOf rows).take (i + 1)).length = ((leavesOf rows).take i).length + 1 := by rw [leavesOf_take hi, List.length_append]; rfl
    have hsz1 := hX1.size
    obtain ⟨lp2, lc2, e1, e2, hq2⟩ : ∃ lp2 lc2, lp2 = p13 ∧ lc2 = c13 ∧ Own w13 lp2 ((leavesOf rows).take (i + 1)).length lc2 76 33 (((leavesOf rows).take (i + 1)).flatMap LeafD.cells) := ⟨_, _, rfl, rfl, by
      rw [e3, leavesOf_take hi, List.flatMap_append]
      simpa using ho13⟩
    rw [← e1] at hB13
    rw [← e1, ← e2]
    have hqn2 : ∀ x, OwnB lp2 x → n1 ≤ x := fun x hx => (hB13 x hx).elim (fun h => hqn x h) fun h => by omega
    refine wl_p I_ok rfl ?_
    have hb4o := hb4
    refine wl (st_st I_ok hb4 rfl rfl rfl fun w14 hb4 hE14 hs14 => ?_)
    have hb6 := hb6.ext1 hE14 ne4_6.symm
    have hb7 := hb7.ext1 hE14 ne4_7.symm
    have hb8 := hb8.ext1 hE14 ne4_8.symm
    have hJ := hC.one hJ hE14 hb4o (by omega) (by decide) (by decide)
    have hM := hM.ext1 hE14 hb4o
    have hq2 := hq2.extTy hE14 hb4o (by decide)
    have hX := hX.thenNew hE14 fr4
    have hb4 : Blk w14 b4 33 (objC (treeO ((leavesOf rows).take (i + 1))) (lfP lp2 lc2)) := (by
      have e : objC (treeO ((leavesOf rows).take (i + 1))) (lfP lp2 lc2) = (objC (treeO ((leavesOf rows).take i)) (lfP lp lc)).set 2 (.slice lp2 (((leavesOf rows).take i).length + 1) lc2) := by simp only [objC, e3]; rfl
      rw [e]
      exact hb4)
    refine wl_nil (f_then (c_seq ?_))
    refine c_cutK (α := Bool) [0, 3, 4, 8, 15, 16, 17] rfl (fun z => [(49, .bool z)]) (fun z u => (z = false ∧ MapB u r3 Value.bool (metF (blobsOf (rows.take i))) ∧ Own u lp2 ((leavesOf rows).take (i + 1)).length lc2 76 33 (((leavesOf rows).take (i + 1)).flatMap LeafD.cells) ∧ J (addB (blobsOf (rows.take i)) rows[i]) u) ∧ Blk u b4 33 (objC (treeO ((leavesOf rows).take (i + 1))) (lfP lp2 lc2)) ∧ Blk u b8 26 (bytesU (idOf (blobO (rows[i]).text))) ∧ Ext ((fun x => N0 ≤ x)) w u) ?_ ?_
    · refine c_regionI ?_
      refine wlw_p rfl I_ok rfl (wlw rfl (st_ldB I_ok hb8 rfl (by rw [bytesU_len, idOf_len]) (wlw rfl (st_lu I_ok rfl idK (idOf_len _) rfl hM ?_))))
      simp only [Bool.false_eq_true, if_false]
      rw [show tell Value.bool ti4.zero (metF (blobsOf (rows.take i)) (idOf (blobO (rows[i]).text))) = .bool (decide (idOf (blobO (rows[i]).text) ∈ (blobsOf (rows.take i)).map HeldT.id)) from met_tell]
      refine wlw_p rfl I_ok rfl (wlw_case 42 rfl (fun hg => ?_) (fun hg => ?_))
      · have hnm : ¬ idOf (blobO (rows[i]).text) ∈ (blobsOf (rows.take i)).map HeldT.id := by simpa using hg
        refine wlw_pk rfl I_ok 1 rfl (wlw rfl (st_ldB I_ok hb8 rfl (by rw [bytesU_len, idOf_len]) (wlw rfl (st_ldB I_ok hb7 rfl rfl ?_))))
        refine wlw rfl (st_bd I_ok rfl ⟨⟨by rw [cellsOf_agg, bytesU_len, idOf_len _], by decide⟩, ⟨by rw [cellsOf_agg]; exact objC_len (blobO_in _), by decide⟩, trivial⟩ (l' := heldC ⟨idOf (blobO (rows[i]).text), blobO (rows[i]).text, noP⟩) (by rw [heldZ_c]; exact held_build (idOf_len _) (blobO_in _)) ?_)
        refine wli_yield rfl rfl rfl rfl rfl rfl (hC.yield _ ⟨idOf (blobO (rows[i]).text), blobO (rows[i]).text, noP⟩ w14 hJ (by omega) (idOf_len _) (blobO_in _)) ?_
        rintro b9 w15 ⟨rfl, hJ, hE15⟩
        have hb4 := hb4.extCo hE15 (by decide) (by decide)
        have hb8 := hb8.extCo hE15 (by decide) (by decide)
        have hM := hM.extCo hE15
        have hq2 := hq2.extCo hE15 (by decide) (by decide)
        have hX := hX.then (hE15.mono fun _ _ h => h.1)
        refine wlw_pk rfl I_ok 2 rfl (wli_nil ?_)
        exact f_cut (_) rfl ⟨⟨rfl, hM, hq2, by rw [addB, if_neg hnm]; exact hJ⟩, hb4, hb8, hX⟩
      · have hnm : idOf (blobO (rows[i]).text) ∈ (blobsOf (rows.take i)).map HeldT.id := by simpa using hg
        refine wlw_pk rfl I_ok 7 rfl (wli_nil ?_)
        exact f_cut (_) rfl ⟨⟨rfl, hM, hq2, by rw [addB, if_pos hnm]; exact hJ⟩, hb4, hb8, hX⟩
    rintro z w16 ⟨⟨rfl, hM, hq2, hJ⟩, hb4, hb8, hX⟩
    refine c_condF rfl (c_skip (f_then (c_region (wl_p I_ok rfl (wl (st_ldB I_ok hb8 rfl (by rw [bytesU_len, idOf_len]) (wl (st_mu I_ok rfl idK (idOf_len _) rfl hM (b := true) rfl fun w17 hM2 hE17 hs17 => ?_))))))))
    rw [metF_step] at hM2
    have hb4 := hb4.extMap hM hE17
    have hq2 := hq2.extMap hM hE17
    have hJ := hC.map hJ hE17 hM (by omega)
    have hX := hX.thenNew hE17 hn3
    refine wl_nil (f_blockN (f_then (c_region (wl_p I_ok rfl ?_))))
    rw [IntWalk.i64_in _ (by omega)]
    refine wl_nil ?_
    exact f_round (i + 1, lp2, lc2) rfl ⟨⟨hi, by rw [blobsOf_take hi]; exact hM2, hq2, hqn2, by rw [blobsOf_take hi]; exact hJ⟩, hb4, hX⟩ (by first | omega | (dsimp only; omega))
  · have h0 : i = rows.length := by omega
    subst h0
    have et : (leavesOf rows).take rows.length = leavesOf rows := List.take_of_length_le (by rw [hll]; exact Nat.le_refl _)
    rw [List.take_length] at hM hJ
    rw [et] at hq hb4
    have hbl := blobsOf_len rows
    have hlin := leavesOf_in (l := rows) fun r hr => by have := (hr32.2 r hr).1; have := maxLen_big; omega
    refine c_exit (f_thenE (f_thenE (f_blockE (f_then (c_seq (c_region (wl (st_ldB I_ok hb4 rfl (objC_len (treeO_in hlin)) ?_))))))))
    refine wl (st_call Tryd.call12 rfl rfl rfl rfl rfl rfl (idObj_calls w4 (treeO_in hlin) (a := lfP lp lc) ⟨hq.sl, Sl.nil _ _ _, Sl.nil _ _ _⟩ (tree_sh (by omega) (fun r hr => by obtain ⟨y, hy, rfl⟩ := List.mem_map.1 hr; have := (hr32.2 y hy).1; show y.path.length < _; omega)) (hr.ext hX (fun h => absurd h (Nat.not_le.2 (by omega))))) fun v18 w18 hr18 => ?_)
    obtain ⟨rfl, hE18⟩ := hr18
    have hb4 := hb4.extNo hE18
    have hJ := hC.no hJ hE18
    have hM := hM.extNo hE18
    have hq := hq.ext hE18 fun _ _ => id
    have hX := hX.thenNo hE18
    refine wl_p I_ok rfl (wl (st_al I_ok rfl fun b10 w19 hn10 hb10 hE19 => ?_))
    have ne4_10 : b4 ≠ b10 := Nat.ne_of_lt (Nat.lt_of_lt_of_le hb4.lt hn10)
    have fr10 := Nat.le_trans hX.size hn10
    have hb4 := hb4.extNo hE19
    have hJ := hC.no hJ hE19
    have hM := hM.extNo hE19
    have hq := hq.ext hE19 fun _ _ => id
    have hX := hX.thenNo hE19
    have hb10o := hb10
    refine wl (st_stW (l' := bytesU (idB (treeO (leavesOf rows)))) I_ok hb10 rfl rfl (by rw [bytesU_len, idB_len]) (by rw [bytesU_len, idB_len]; rfl) OneC.h fun w20 hb10 hE20 hs20 => ?_)
    have hb4 := hb4.ext1 hE20 ne4_10
    have hJ := hC.one hJ hE20 hb10o (by omega) (by decide) (by decide)
    have hM := hM.ext1 hE20 hb10o
    have hq := hq.extTy hE20 hb10o (by decide)
    have hX := hX.thenNew hE20 fr10
    refine wl_p I_ok rfl (wl_nil (f_then (c_seq (c_region (wl_p I_ok rfl (wl_nil (f_then (c_if rfl (fun hc => ?_) (fun hc => ?_)))))))))
    · have hok : ObjOk (treeO (leavesOf rows)) := (if_zero (by decide)).1 hc
      refine c_regionI (wlw_p rfl I_ok rfl (wlw rfl (st_ldB I_ok hb10 rfl (by rw [bytesU_len, idB_len]) (wlw rfl (st_ldB I_ok hb4 rfl (objC_len (treeO_in hlin)) ?_)))))
      refine wlw rfl (st_bd I_ok rfl ⟨⟨by rw [cellsOf_agg, bytesU_len, idB_len _], by decide⟩, ⟨by rw [cellsOf_agg]; exact objC_len (treeO_in hlin), by decide⟩, trivial⟩ (l' := heldC ⟨idB (treeO (leavesOf rows)), treeO (leavesOf rows), lfP lp lc⟩) (by rw [heldZ_c]; exact held_build (idB_len _) (treeO_in hlin)) ?_)
      refine wli_yield rfl rfl rfl rfl rfl rfl (hC.yield _ ⟨idB (treeO (leavesOf rows)), treeO (leavesOf rows), lfP lp lc⟩ w20 hJ (by omega) (idB_len _) (treeO_in hlin)) ?_
      rintro b9 w21 ⟨rfl, hJ, hE21⟩
      have hq := hq.extCo hE21 (by decide) (by decide)
      have hX := hX.then (hE21.mono fun _ _ h => h.1)
      refine wli_nil (f_end0 rfl ?_)
      exact ⟨lp, lc, by rw [partsOf, if_pos hok]; rw [show idB (treeO (leavesOf rows)) = idOf (treeO (leavesOf rows)) from if_pos hok] at hJ; exact hJ, hq, hqn, hX⟩
    · have hok : ¬ ObjOk (treeO (leavesOf rows)) := fun h => hc (if_pos h)
      refine c_skip (f_end0 rfl ?_)
      exact ⟨lp, lc, by rw [partsOf, if_neg hok, List.append_nil]; exact hJ, hq, hqn, hX⟩
end Go.Proofs.YtjghckniloikgaaDoor
namespace Go.Proofs.YtjghckniloikgaaDoor
open Go.Vc
/-- what the consumer has between two rounds -/
structure Col (w0 : World) (b3 l D : Nat) (r : Loop) (hs : List HeldT) (W : World) : Prop where
  row : ∃ q k, Blk W b3 60 [.slice q hs.length k] ∧ Own W q hs.length k 68 105 (hs.flatMap heldC) ∧ ∀ x, OwnB q x → w0.heap.size ≤ x
  lp : W.heap[l]? = some (.loop r)
  mark : W.heap[D]? = some (.deferred (some []))
  X : Ext No w0 W
theorem heap_ne_blk {W : World} {x : Nat} {o : Obj} (h : W.heap[x]? = some o) (ho : notCells o = true) {T : Nat} {L : List Value} (hb : Blk W x T L) : False := by
  rw [Blk, h] at hb
  cases hb
  cases ho
theorem lt_of_heap {W : World} {x : Nat} {o : Obj} (h : W.heap[x]? = some o) : x < W.heap.size := (Array.getElem?_eq_some_iff.1 h).1
theorem Col.st {w0 : World} {b3 l D : Nat} {r : Loop} {hs : List HeldT} {n1 : Nat} (hn1 : w0.heap.size ≤ n1) {w w' : World} (h : Col w0 b3 l D r hs w) (hE : Ext (fun x => n1 ≤ x ∧ ItS 68 60 w x) w w') : Col w0 b3 l D r hs w' := by
  obtain ⟨⟨q, k, hb, ho, hn⟩, hr, hm, hX⟩ := h
  refine ⟨⟨q, k, hb.ext hE ?_, ho.ext hE ?_, hn⟩, (hE.same _ (lt_of_heap hr) ?_).trans hr, (hE.same _ (lt_of_heap hm) ?_).trans hm, hX.trans hE fun x hx ⟨h, _⟩ => by omega⟩
  · rintro ⟨_, ⟨T, L, hT, _, h2⟩ | ⟨es, c, hM⟩⟩
    · exact h2 (hT.uniq hb).2
    · exact heap_ne_blk hM rfl hb
  · rintro x hx ⟨_, ⟨T, L, hT, h1, _⟩ | ⟨es, c, hM⟩⟩
    · obtain ⟨L', hL⟩ := ho.blkAt hx
      exact h1 (hT.uniq hL).2
    · obtain ⟨L', hL⟩ := ho.blkAt hx
      exact heap_ne_blk hM rfl hL
  · rintro ⟨_, ⟨T, L, hT, _, _⟩ | ⟨es, c, hM⟩⟩
    · exact heap_ne_blk hr rfl hT
    · rw [hr] at hM; cases hM
  · rintro ⟨_, ⟨T, L, hT, _, _⟩ | ⟨es, c, hM⟩⟩
    · exact heap_ne_blk hm rfl hT
    · rw [hm] at hM; cases hM
theorem one_held {h : HeldT} (hl : (heldC h).length = 105) : putAll (rep 1 (bytesU idZ ++ objC objZ noP)) [(0 * (0 + 105), 0 + 105, .agg (heldC h).toArray)] = heldC h := by
  simp only [putAll, cellsOf_agg]
  rw [Nat.zero_mul, put_whole (by rw [rep_length, hl]; rfl)]
theorem collected_calls (w : World) {b1 : Nat} {p : Option Addr} {c : Nat} {rows : List RowD} (hrows : RowsOk rows) (hb : Blk w b1 58 [.slice p rows.length c]) (hs : Sl w p rows.length 2 (rows.flatMap RowD.cells)) (hr : Seg w 0 0 (wordsV rootsW)) :
    CallsV Tryd.prog 55 [.func (.func 89) #[] #[.pointer (some ⟨b1, 0, none⟩)]] w fun v w' => ∃ q k lp lc, v = .slice q (partsOf rows (lfP lp lc)).length k ∧ Own w' q (partsOf rows (lfP lp lc)).length k 68 105 ((partsOf rows (lfP lp lc)).flatMap heldC) ∧ (∀ x, OwnB q x → w.heap.size ≤ x) ∧
      Own w' lp (leavesOf rows).length lc 76 33 ((leavesOf rows).flatMap LeafD.cells) ∧ (∀ x, OwnB lp x → w.heap.size ≤ x) ∧ Ext No w w' := by
  refine calls_enterM Tryd.func55 rfl rfl rfl rfl ?_
  have hX := Ext.refl No w
  refine c_seq (c_region (wl_p I_ok rfl (wl_nil (f_then (c_seq (c_region (wl (st_al I_ok rfl fun b3 w1 hn3 hb3 hE1 => ?_))))))))
  have fr3 := Nat.le_trans hX.size hn3
  have hX := hX.thenNo hE1
  have hb3o := hb3
  have hX1 := hX
  refine wl_nil (f_then (c_seq (c_seq (c_region (wl_p I_ok rfl (wl_nil (f_then (c_block (c_range rfl Tryd.call89 (fun fnn ac hag rec hrec w2 hE2 hL2 hD2 hs2 => ?_))))))))))
  obtain ⟨r0, hr0⟩ : ∃ r0 : Loop, r0 = rec .ready none := ⟨_, rfl⟩
  rw [← hr0] at hL2 ⊢
  have hst : r0.state = .ready := by rw [hr0, hrec]
  have hpe : r0.pending = none := by rw [hr0, hrec]
  have hb3' := hb3.extNo hE2
  have hX2 := hX.thenNo hE2
  have hX2s := hX2.size
  have hw1s := hX1.size
  have hb3l := hb3.lt
  have hcons : Cons w2.heap.size w.heap.size (w1.heap.size + 1) (Col w b3 (w1.heap.size + 1) w1.heap.size r0) := by
    refine ⟨fun hs u u' h hE => h.st hX2s hE, fun hs h u hJ hlen hid hin => ?_⟩
    obtain ⟨⟨q, k, hb4, ho4, hn4⟩, hL4, hD4, hX4⟩ := hJ
    have hcl := heldC_len hid hin
    have hsu := hX4.size
    refine round_of hL4 hst (by rw [hr0, hrec]) (by rw [hr0, hrec]) hag (by decide) ?_
    have hA : r0.assign = (rec .ready none).assign := by rw [hr0]
    have hB : r0.body = (rec .ready none).body := by rw [hr0]
    rw [hA, hB, hrec]
    refine ci_region (wli (.round _) rfl (st_al I_ok rfl fun b5 u1 hn5 hb5 hF1 => ?_))
    refine wli (.round _) rfl (st_stW (l' := heldC h) I_ok hb5 rfl rfl hcl hcl OneC.h fun u2 hb5 hF2 hs2' => ?_)
    have ne45 : b3 ≠ b5 := Nat.ne_of_lt (Nat.lt_of_lt_of_le hb4.lt hn5)
    have nl5 : w1.heap.size + 1 ≠ b5 := Nat.ne_of_lt (Nat.lt_of_lt_of_le (lt_of_heap hL4) hn5)
    have nd5 : w1.heap.size ≠ b5 := Nat.ne_of_lt (Nat.lt_of_lt_of_le (lt_of_heap hD4) hn5)
    have hE01 : Ext No u u2 := (hF1).thenNew hF2 hn5
    have hL5 := (hE01.same _ (lt_of_heap hL4) id).trans hL4
    refine wli_nil fun a5 ha5 => begin_round hL5 hst fun u3 hF3 hL6 => ?_
    have hcoL : Ext (fun x => w.heap.size ≤ x ∧ CoS 68 60 u x) u u3 := hE01.no.trans hF3 fun x hx e => by
      have e : x = w1.heap.size + 1 := e
      subst e
      exact ⟨by omega, .inr (.inr ⟨_, hL4⟩)⟩
    have hb6 := (hb4.extNo hE01).ext1 hF3 (fun e => by rw [e] at hb4; exact heap_ne_blk hL4 rfl hb4)
    have hbv := hb5.ext1 hF3 nl5.symm
    have ho6 := (ho4.ext hE01 fun _ _ => id).ext hF3 fun x hx e => by
      have e : x = w1.heap.size + 1 := e
      obtain ⟨L, hL⟩ := ho4.blkAt hx
      rw [e] at hL
      exact heap_ne_blk hL4 rfl hL
    have hD6 := (hF3.same _ (Nat.lt_of_lt_of_le (lt_of_heap hD4) hE01.size) (fun e => by have e : w1.heap.size = w1.heap.size + 1 := e; omega)).trans ((hE01.same _ (lt_of_heap hD4) id).trans hD4)
    refine (show WCI (Fence.wide.inRound (w1.heap.size + 1)) 8 Tryd.prog ⟨_, []⟩ _ _ _ u3 from ci_block (ci_region ?_)) a5 ha5
    refine wli (.round _) rfl (st_ldb I_ok hb6 rfl rfl (wli (.round _) rfl (st_ldB I_ok hbv rfl hcl ?_)))
    refine wli (.round _) rfl (st_bs I_ok rfl 105 rfl heldZ_c (by rw [List.length_append, bytesU_len, objC_len objZ_in]; rfl) (by decide) (by decide) ⟨⟨by rw [cellsOf_agg]; exact hcl, by decide⟩, trivial⟩ (l' := heldC h) (one_held hcl) fun b9 u4 hn9 hb9 hF4 hs4 => ?_)
    have ho7 := ho6.ext hF4 fun _ _ => id
    have hb7 := hb6.extNo hF4
    refine wli (.round _) rfl (st_app I_ok rfl 105 224 rfl rfl rfl (by decide) ho7 (Src.slice (m := 1) ⟨hcl, .inr ⟨b9, 0, rfl, hb9.seg⟩⟩ OneC.h) (by dsimp only [maxLen]; omega) (by dsimp only; omega) fun p5 c5 u5 ho8 hF5 hB5 => ?_)
    dsimp only at ho8 hF5 hB5 ⊢
    have hb8 := hb7.extOwn ho7 hF5 (by decide)
    refine wli (.round _) rfl (st_st I_ok hb8 rfl rfl rfl fun u6 hb9 hF6 hs6 => ?_)
    have ho9 := ho8.extTy hF6 hb8 (by decide)
    have nlb : w1.heap.size + 1 ≠ b3 := fun e => by rw [← e] at hb4; exact heap_ne_blk hL4 rfl hb4
    have ndb : w1.heap.size ≠ b3 := fun e => by rw [← e] at hb4; exact heap_ne_blk hD4 rfl hb4
    have nlq : ∀ x, OwnB q x → x ≠ w1.heap.size + 1 := fun x hx e => by
      obtain ⟨L, hL⟩ := ho4.blkAt hx
      rw [e] at hL
      exact heap_ne_blk hL4 rfl hL
    have ndq : ∀ x, OwnB q x → x ≠ w1.heap.size := fun x hx e => by
      obtain ⟨L, hL⟩ := ho4.blkAt hx
      rw [e] at hL
      exact heap_ne_blk hD4 rfl hL
    have hL7 := (hF4.same _ (lt_of_heap hL6) id).trans hL6
    have hL8 := (hF5.same _ (lt_of_heap hL7) fun hx => nlq _ hx rfl).trans hL7
    have hL9 := (hF6.same _ (lt_of_heap hL8) nlb).trans hL8
    have hD7 := (hF4.same _ (lt_of_heap hD6) id).trans hD6
    have hD8 := (hF5.same _ (lt_of_heap hD7) fun hx => ndq _ hx rfl).trans hD7
    have hD9 := (hF6.same _ (lt_of_heap hD8) ndb).trans hD8
    have hco6 : Ext (fun x => w.heap.size ≤ x ∧ CoS 68 60 u x) u u6 := ((hcoL.thenNo hF4).trans hF5 fun x hx hF => ⟨hn4 x hF, .inl (ho4.blkAt hF)⟩).trans hF6 fun x hx e => by
      have e : x = b3 := e
      subst e
      exact ⟨fr3, .inr (.inl ⟨_, hb4⟩)⟩
    refine wli_nil (f_blockN fun a6 ha6 => end_round hL9 hst hpe fun u7 hF7 hL10 => ⟨rfl, ⟨⟨p5, c5, ?_, ?_, ?_⟩, hL10, ?_, ?_⟩, ?_⟩)
    · rw [List.length_append]
      exact hb9.ext1 hF7 nlb.symm
    · rw [List.length_append, List.flatMap_append, List.flatMap_cons, List.flatMap_nil, List.append_nil]
      exact ho9.ext hF7 fun x hx e => by
        have e : x = w1.heap.size + 1 := e
        obtain ⟨L, hL⟩ := ho9.blkAt hx
        rw [e] at hL
        exact heap_ne_blk hL9 rfl hL
    · exact fun x hx => (hB5 x hx).elim (fun h => hn4 x h) fun h => by
        have := hE01.size
        have := hF3.size
        have := hF4.size
        omega
    · exact (hF7.same _ (lt_of_heap hD9) fun e => by have e : w1.heap.size = w1.heap.size + 1 := e; omega).trans hD9
    · exact (hX4.trans hco6 fun x hx h => by have := h.1; omega).trans hF7 fun x hx e => by have e : x = w1.heap.size + 1 := e; omega
    · exact hco6.trans hF7 fun x hx e => by
        have e : x = w1.heap.size + 1 := e
        subst e
        exact ⟨by omega, .inr (.inr ⟨_, hL4⟩)⟩
  refine (parts1_calls w2 hcons hrows ((hb.extNo hX2)) (hs.extNo hX2) hb.lt (fun x off e hne => hs.lt e (fun e0 => hne (by cases rows; rfl; cases e0))) hX2s (Nat.le_refl _) (hr.extNo hX2) ⟨⟨none, 0, hb3', Own.nil _ _ _, noOwn⟩, hL2, hD2, hX2⟩).mono ?_
  rintro _ w7 ⟨lp, lc, ⟨⟨q, k, hb7, ho7, hn7⟩, hL7, hD7, hX7⟩, hq7, hqn7, hE7⟩
  refine ⟨hL7, hD7, fun w9 hE9 hD9 => ?_⟩
  have nb9 : b3 ≠ w1.heap.size + 1 := by omega
  have hb3 := hb7.ext1 hE9 nb9
  have hlo : ∀ x, OwnB q x → x ≠ w1.heap.size + 1 := fun x hx e => by
    obtain ⟨L, hL⟩ := ho7.blkAt hx
    rw [e] at hL
    exact heap_ne_blk hL7 rfl hL
  have hlq : ∀ x, OwnB lp x → x ≠ w1.heap.size + 1 := fun x hx e => by
    obtain ⟨L, hL⟩ := hq7.blkAt hx
    rw [e] at hL
    exact heap_ne_blk hL7 rfl hL
  have ho9 := ho7.ext hE9 fun x hx e => hlo x hx e
  have hq9 := hq7.ext hE9 fun x hx e => hlq x hx e
  have hX := hX7.trans hE9 fun y hy e => by have e : y = w1.heap.size + 1 := e; omega
  refine f_blockN (f_then (c_seq (c_region (wl (st_ldb I_ok hb3 rfl rfl (wl_p I_ok rfl (wl_nil (f_then (c_ret (f_retM rfl rfl hD9 fun w10 hE10 => ?_))))))))))
  have hoD : ∀ x, OwnB q x → x ≠ w1.heap.size := fun x hx e => by
    obtain ⟨L, hL⟩ := ho9.blkAt hx
    rw [e] at hL
    exact heap_ne_blk hD9 rfl hL
  have hqD : ∀ x, OwnB lp x → x ≠ w1.heap.size := fun x hx e => by
    obtain ⟨L, hL⟩ := hq9.blkAt hx
    rw [e] at hL
    exact heap_ne_blk hD9 rfl hL
  exact ⟨q, k, lp, lc, rfl, ho9.ext hE10 fun x hx e => hoD x hx e, hn7, hq9.ext hE10 fun x hx e => hqD x hx e, fun x hx => by have := hqn7 x hx; omega, hX.trans hE10 fun y hy e => by have e : y = w1.heap.size := e; omega⟩
end Go.Proofs.YtjghckniloikgaaDoor
namespace Go.Proofs.YtjghckniloikgaaDoor
open Go.Vc
/-- which text has an Id -/
def textF (l : List RowD) : List UInt8 → Option Str := l.foldl (fun f r => setM f (idOf (blobO r.text)) r.text) (fun _ => none)
theorem textF_take {l : List RowD} {i : Nat} (h : i < l.length) : textF (l.take (i + 1)) = setM (textF (l.take i)) (idOf (blobO (l[i]).text)) (l[i]).text := by
  rw [List.take_succ_eq_append_getElem h, textF, List.foldl_append]
  rfl
def tellS (o : Option Str) : ByteArray := match o with | some s => strU s | none => .empty
theorem tellS_eq (o : Option Str) : tell strV (.string .empty) o = .string (tellS o) := by cases o <;> rfl
/-- a row whose Id another text has already -/
def TwinAt (l : List RowD) (i : Nat) : Prop := ∃ (hi : i < l.length) (s : Str), textF (l.take i) (idOf (blobO (l[i]).text)) = some s ∧ s ≠ (l[i]).text
abbrev treeOf (l : List RowD) : ObjD := treeO (leavesOf l)
def Twin (l : List RowD) : Prop := (∃ i, TwinAt l i) ∨ (textF l (idOf (treeOf l))).isSome = true
open Classical in
/-- a map's parts' error -/
noncomputable def partsE (l : List RowD) : Int := if ¬ RowsOk l then 150 else if ¬ ObjOk (treeOf l) then 6 else if Twin l then 161 else 0
open Classical in
noncomputable def partsL (l : List RowD) (lp : Option Addr) (lc : Nat) : List HeldT := if partsE l = 0 then partsOf l (lfP lp lc) else []
theorem partsE0 {l : List RowD} (h1 : ¬ RowsOk l) : partsE l = 150 := if_pos h1
theorem partsE1 {l : List RowD} (h1 : RowsOk l) (h2 : ¬ ObjOk (treeOf l)) : partsE l = 6 := (if_neg (fun h => h h1)).trans (if_pos h2)
theorem partsE2 {l : List RowD} (h1 : RowsOk l) (h2 : ObjOk (treeOf l)) (h3 : Twin l) : partsE l = 161 := (if_neg (fun h => h h1)).trans ((if_neg (fun h => h h2)).trans (if_pos h3))
theorem partsE3 {l : List RowD} (h1 : RowsOk l) (h2 : ObjOk (treeOf l)) (h3 : ¬ Twin l) : partsE l = 0 := (if_neg (fun h => h h1)).trans ((if_neg (fun h => h h2)).trans (if_neg h3))
theorem partsL0 {l : List RowD} {lp : Option Addr} {lc : Nat} {e : Int} (h : partsE l = e) (he : e ≠ 0) : partsL l lp lc = [] := if_neg (by rw [h]; exact he)
theorem partsL1 {l : List RowD} {lp : Option Addr} {lc : Nat} (h : partsE l = 0) : partsL l lp lc = partsOf l (lfP lp lc) := if_pos h
theorem blobs_kind {l : List RowD} : ∀ h ∈ blobsOf l, h.o.kind = 1 ∧ h.id.length = 32 ∧ ObjIn h.o := by
  have : ∀ (l : List RowD) (acc : List HeldT), (∀ h ∈ acc, h.o.kind = 1 ∧ h.id.length = 32 ∧ ObjIn h.o) → ∀ h ∈ l.foldl addB acc, h.o.kind = 1 ∧ h.id.length = 32 ∧ ObjIn h.o := by
    intro l
    induction l with
    | nil => intro acc h; exact h
    | cons r l ih =>
      intro acc h
      rw [List.foldl_cons]
      refine ih _ fun x hx => ?_
      unfold addB at hx
      split at hx
      · exact h x hx
      · rcases List.mem_append.1 hx with hx | hx
        · exact h x hx
        · rw [List.mem_singleton.1 hx]; exact ⟨rfl, idOf_len _, blobO_in _⟩
  exact this l [] fun _ h => absurd h List.not_mem_nil
theorem parts_in {l : List RowD} (hr : RowsOk l) {a : ObjP} : ∀ h ∈ partsOf l a, (heldC h).length = 105 := fun h hh => by
  have hlin := leavesOf_in (l := l) fun r hr' => by have := ((rows_at hr).2 r hr').1; have := maxLen_big; omega
  rcases List.mem_append.1 hh with hh | hh
  · exact heldC_len (blobs_kind h hh).2.1 (blobs_kind h hh).2.2
  · split at hh
    · rw [List.mem_singleton.1 hh]; exact heldC_len (idOf_len _) (treeO_in hlin)
    · cases hh
theorem parts_id {l : List RowD} {a : ObjP} : ∀ h ∈ partsOf l a, h.id.length = 32 := fun h hh => by
  rcases List.mem_append.1 hh with hh | hh
  · exact (blobs_kind h hh).2.1
  · split at hh
    · rw [List.mem_singleton.1 hh]; exact idOf_len _
    · cases hh
theorem parts_len {l : List RowD} {a : ObjP} : (partsOf l a).length ≤ l.length + 1 := by
  have := blobsOf_len l
  rw [partsOf, List.length_append]
  split <;> simp <;> omega
theorem held_kind {w : World} {b off : Nat} {h : HeldT} (hs : Seg w b off (heldC h)) (hid : h.id.length = 32) : w.cell? ⟨b, off + 32, none⟩ = some (.int .i64 h.o.kind) := by
  have h1 := (Seg.append.1 hs).2
  rw [bytesU_len, hid] at h1
  exact h1 0 _ rfl
theorem held_id {w : World} {b off : Nat} {h : HeldT} (hs : Seg w b off (heldC h)) : Seg w b off (bytesU h.id) := (Seg.append.1 hs).1
theorem parts_last {l : List RowD} {a : ObjP} {i : Nat} (hi : i < (partsOf l a).length) (he : i + 1 = (partsOf l a).length) : ((partsOf l a)[i].o.kind ≠ 2 ↔ ¬ ObjOk (treeOf l)) ∧ (ObjOk (treeOf l) → (partsOf l a)[i] = ⟨idOf (treeOf l), treeOf l, a⟩) := by
  by_cases h : ObjOk (treeOf l)
  · have e : partsOf l a = blobsOf l ++ [⟨idOf (treeOf l), treeOf l, a⟩] := by rw [partsOf, if_pos h]
    have e2 : (partsOf l a)[i] = ⟨idOf (treeOf l), treeOf l, a⟩ := by
      rw [List.getElem_of_eq e]
      rw [List.getElem_append_right (by rw [e, List.length_append] at he; simp at he; omega)]
      simp
    exact ⟨by rw [e2]; simp [h], fun _ => e2⟩
  · have e : partsOf l a = blobsOf l := by rw [partsOf, if_neg h, List.append_nil]
    have hm : (partsOf l a)[i] ∈ blobsOf l := by rw [← e]; exact List.getElem_mem hi
    exact ⟨by rw [(blobs_kind _ hm).1]; simp [h], fun h' => absurd h' h⟩
theorem parts_none {l : List RowD} {a : ObjP} (h : (partsOf l a).length = 0) : ¬ ObjOk (treeOf l) := fun hk => by
  rw [partsOf, if_pos hk, List.length_append] at h
  simp at h
structure PartsAt (w0 w : World) (l : List RowD) (q : Option Addr) (k : Nat) (lp : Option Addr) (lc : Nat) : Prop where
  own : Own w q (partsOf l (lfP lp lc)).length k 68 105 ((partsOf l (lfP lp lc)).flatMap heldC)
  new : ∀ x, OwnB q x → w0.heap.size ≤ x
  lf : Own w lp (leavesOf l).length lc 76 33 ((leavesOf l).flatMap LeafD.cells)
  lnew : ∀ x, OwnB lp x → w0.heap.size ≤ x
section
variable {w0 w w' : World} {l : List RowD} {q : Option Addr} {k : Nat} {lp : Option Addr} {lc : Nat}
theorem PartsAt.extNo (h : PartsAt w0 w l q k lp lc) (hE : Ext No w w') : PartsAt w0 w' l q k lp lc := ⟨h.own.ext hE fun _ _ => id, h.new, h.lf.ext hE fun _ _ => id, h.lnew⟩
theorem PartsAt.ext1 (h : PartsAt w0 w l q k lp lc) {b T : Nat} {L : List Value} (hE : Ext (One b) w w') (hb : Blk w b T L) (h1 : 68 ≠ T) (h2 : 76 ≠ T) : PartsAt w0 w' l q k lp lc := ⟨h.own.extTy hE hb h1, h.new, h.lf.extTy hE hb h2, h.lnew⟩
theorem PartsAt.extMap (h : PartsAt w0 w l q k lp lc) {β : Type} {r : Nat} {enc : β → Value} {g : List UInt8 → Option β} (hm : MapB w r enc g) (hE : Ext (One r) w w') : PartsAt w0 w' l q k lp lc := ⟨h.own.extMap hm hE, h.new, h.lf.extMap hm hE, h.lnew⟩
end
theorem parts_calls (w : World) {p : Option Addr} {c n : Nat} :
    CallsV Tryd.prog 56 [.agg #[.slice p n c]] w fun v w' => ∃ b, v = .func (.func 89) #[] #[.pointer (some ⟨b, 0, none⟩)] ∧ Blk w' b 58 [.slice p n c] ∧ Ext No w w' := by
  refine calls_enter Tryd.func56 rfl rfl rfl rfl ?_
  have hX := Ext.refl No w
  refine c_seq (c_region (wl (st_al I_ok rfl fun b1 w1 hn1 hb1 hE1 => ?_)))
  have fr1 := Nat.le_trans hX.size hn1
  have hX := hX.thenNo hE1
  have hb1 : Blk w1 b1 58 ([.slice p n c]) := hb1
  refine wl_p I_ok rfl (wl_nil (f_then (c_seq (c_region (wl (st_mf rfl (wl_p I_ok rfl (wl_nil (f_then (c_ret (f_ret1 rfl rfl ?_)))))))))))
  exact ⟨b1, rfl, hb1, hX⟩

theorem twin_step {rows : List RowD} {i : Nat} (hi : i < rows.length) (hg : (textF (rows.take i) (idOf (blobO (rows[i]).text))).isSome = true) : tellS (textF (rows.take i) (idOf (blobO (rows[i]).text))) ≠ strU (rows[i]).text ↔ TwinAt rows i := by
  obtain ⟨s, hs⟩ := Option.isSome_iff_exists.1 hg
  constructor
  · intro h
    exact ⟨hi, s, hs, fun e => h (by rw [hs, e]; rfl)⟩
  · rintro ⟨_, s', hs', hne⟩ e
    rw [hs] at hs' e
    cases hs'
    exact hne (strU_inj e)
theorem twin_none {rows : List RowD} {i : Nat} (hi : i < rows.length) (hg : (textF (rows.take i) (idOf (blobO (rows[i]).text))).isSome = false) : ¬ TwinAt rows i := by
  rintro ⟨_, s, hs, _⟩
  rw [hs] at hg
  cases hg
theorem objParts_calls (w : World) {p : Option Addr} {c : Nat} {rows : List RowD} (hs : Sl w p rows.length 2 (rows.flatMap RowD.cells)) (hl : rows.length < 1000000000) (hlen : ∀ r ∈ rows, r.path.length < 1000000000) (hr : Seg w 0 0 (wordsV rootsW)) :
    CallsV Tryd.prog 26 [.agg #[.slice p rows.length c]] w fun v w' => ∃ q k lp lc, v = .tuple #[.slice q (partsL rows lp lc).length k, .int .i64 (partsE rows)] ∧ Own w' q (partsL rows lp lc).length k 68 105 ((partsL rows lp lc).flatMap heldC) ∧ (∀ x, OwnB q x → w.heap.size ≤ x) ∧
      (partsE rows = 0 → Own w' lp (leavesOf rows).length lc 76 33 ((leavesOf rows).flatMap LeafD.cells)) ∧ (∀ x, OwnB lp x → w.heap.size ≤ x) ∧ Ext No w w' := by
  refine calls_enter Tryd.func26 rfl rfl rfl rfl ?_
  have hX := Ext.refl No w
  refine c_seq (c_region (wl (st_al I_ok rfl fun b1 w1 hn1 hb1 hE1 => ?_)))
  have fr1 := Nat.le_trans hX.size hn1
  have hX := hX.thenNo hE1
  have hb1 : Blk w1 b1 58 ([.slice p rows.length c]) := hb1
  refine wl_p I_ok rfl (wl_nil (f_then (c_seq (c_seq (c_region (wl (st_ldB I_ok hb1 rfl rfl (wl (st_call Tryd.call54 rfl rfl rfl rfl rfl rfl (check_calls w1 (hs.extNo hX) hl hlen) fun v2 w2 hr2 => ?_)))))))))
  obtain ⟨rfl, hE2⟩ := hr2
  have hb1 := hb1.extNo hE2
  have hX := hX.thenNo hE2
  refine wl_p I_ok rfl (wl_nil (f_then (c_seq (c_region (wl_p I_ok rfl (wl_nil (f_then (c_if rfl (fun hc => ?_) (fun hc => ?_)))))))))
  · have h1 : ¬ RowsOk rows := fun h => hc (if_pos h)
    have e1 := partsE0 h1
    rw [if_neg h1]
    refine c_seq (c_region (wl_p I_ok rfl (wl_nil (f_then (c_ret (f_thenR (f_ret [_, _] ⟨rfl, rfl, trivial⟩ ?_)))))))
    exact ⟨none, 0, none, 0, by rw [e1, partsL0 e1 (by decide)]; rfl, by rw [partsL0 e1 (by decide)]; exact Own.nil _ _ _, noOwn, fun h => absurd (h.symm.trans e1) (by decide), noOwn, hX⟩
  · have h1 : RowsOk rows := (if_zero (by decide)).1 (Decidable.not_not.1 hc)
    have hr32 := rows_at h1
    have hpin := fun a => parts_in h1 (a := a)
    refine c_skip (f_then (c_seq (c_region (wl (st_ldB I_ok hb1 rfl rfl (wl (st_call Tryd.call56 rfl rfl rfl rfl rfl rfl (parts_calls w2) fun v3 w3 hr3 => ?_)))))))
    obtain ⟨bp, rfl, hbp, hE3⟩ := hr3
    have hb1 := hb1.extNo hE3
    have hX := hX.thenNo hE3
    have hX0 := hX
    refine wl (st_call Tryd.call55 rfl rfl rfl rfl rfl rfl (collected_calls w3 h1 hbp (hs.extNo hX) (hr.extNo hX)) fun v4 w4 hr4 => ?_)
    obtain ⟨q, k, lp, lc, rfl, ho, hn, hlf, hln, hE4⟩ := hr4
    have hb1 := hb1.extNo hE4
    have hX := hX.thenNo hE4
    have hP : PartsAt w w4 rows q k lp lc := ⟨ho, fun x hx => Nat.le_trans hX0.size (hn x hx), hlf, fun x hx => Nat.le_trans hX0.size (hln x hx)⟩
    refine wl_p I_ok rfl (wl_nil (f_then (c_seq (c_seq (c_region (wl_p I_ok rfl (wl_nil (f_then ?_))))))))
    refine c_cutK (α := Bool) [1, 5] rfl (fun z => [(37, .bool z)]) (fun z u => (z = decide (¬ ObjOk (treeOf rows)) ∧ PartsAt w u rows q k lp lc) ∧ Blk u b1 58 ([.slice p rows.length c]) ∧ Ext No w u) ?_ ?_
    · refine c_region ?_
      refine wl_p I_ok rfl (wl_caseD 28 rfl (fun hg => ?_) (fun hg => ?_))
      · refine wl_pk I_ok 9 rfl ?_
        refine wl_nil ?_
        exact f_cut (true) rfl ⟨⟨by symm; rw [decide_eq_true_eq]; exact parts_none (a := lfP lp lc) (by omega), hP⟩, hb1, hX⟩
      · have hn0 : 0 < (partsOf rows (lfP lp lc)).length := by omega
        have hn1 := parts_len (l := rows) (a := lfP lp lc)
        obtain ⟨bq, qoff, hq, hsq⟩ := hP.own.sl.rowAll (hpin _) hn0
        rw [hq] at hP ⊢
        obtain ⟨m, hm⟩ : ∃ m, m + 1 = (partsOf rows (lfP lp lc)).length := ⟨(partsOf rows (lfP lp lc)).length - 1, by omega⟩
        have hml : m < (partsOf rows (lfP lp lc)).length := by omega
        have hlast := parts_last hml hm
        refine wl_pk I_ok 3 rfl ?_
        rw [IntWalk.i64_in _ (by omega)]
        refine wl (st_ix I_ok rfl 105 rfl m (by omega) (by omega) (qoff + m * 105) rfl (wl_pk I_ok 2 rfl (wl (st_ld I_ok rfl (held_kind (hsq m hml) (parts_id _ (List.getElem_mem hml))) (wl_pk I_ok 2 rfl (wl_nil ?_))))))
        exact f_cut (_) rfl ⟨⟨by rw [decide_eq_decide]; exact hlast.1, hP⟩, hb1, hX⟩
    rintro z w5 ⟨⟨rfl, hP⟩, hb1, hX⟩
    refine c_if rfl (fun hc => ?_) (fun hc => ?_)
    · have h2 : ¬ ObjOk (treeOf rows) := hc
      have e2 := partsE1 h1 h2
      refine c_seq (c_region (wl_p I_ok rfl (wl_nil (f_then (c_ret (f_thenR (f_ret [_, _] ⟨rfl, rfl, trivial⟩ ?_)))))))
      exact ⟨none, 0, none, 0, by rw [e2, partsL0 e2 (by decide)]; rfl, by rw [partsL0 e2 (by decide)]; exact Own.nil _ _ _, noOwn, fun h => absurd (h.symm.trans e2) (by decide), noOwn, hX⟩
    · have h2 : ObjOk (treeOf rows) := Decidable.not_not.1 hc
      refine c_skip (f_then (c_seq (c_region (wl (st_mm strV rfl fun r3 w6 hn3 hM hE6 hs6 => ?_)))))
      have hb1 := hb1.extNo hE6
      have hX0 := hX
      have hX := hX.thenNo hE6
      have fr3 := Nat.le_trans hX0.size hn3
      have hP := hP.extNo hE6
      refine wl_p I_ok rfl (wl_nil (f_then (c_seq (c_seq (c_region (wl_p I_ok rfl (wl (st_ldb I_ok hb1 rfl rfl (wl_p I_ok rfl (wl_nil (f_then (c_block ?_))))))))))))
      refine c_loopK (α := Nat) [5, 7, 40, 41] rfl (fun z => [(42, .int .i64 (z : Int))]) (fun z u => (z ≤ rows.length ∧ MapB u r3 strV (textF (rows.take z)) ∧ (∀ k, k < z → ¬ TwinAt rows k) ∧ PartsAt w u rows q k lp lc) ∧ Blk u b1 58 ([.slice p rows.length c]) ∧ Ext No w u) (fun z u => rows.length - z) (0) rfl ⟨⟨Nat.zero_le _, hM, fun _ h => absurd h (Nat.not_lt_zero _), hP⟩, hb1, hX⟩ ?_
      rintro i w7 ⟨⟨hi, hM, hno, hP⟩, hb1, hX⟩
      refine c_seq (c_region (wl_p I_ok rfl (wl_nil (f_then (c_seq (c_if rfl (fun hc => ?_) (fun hc => ?_)))))))
      · have hi : i < rows.length := by omega
        obtain ⟨qb, qoff, hp, hsq⟩ := hs.rowAll (fun r _ => r.len) (by omega)
        rw [hp] at hb1 ⊢
        have hri := hr32.2 _ (List.getElem_mem hi)
        refine c_skip (f_then (c_seq (c_block (c_seq (c_region (wl (st_ix I_ok rfl 2 rfl i rfl (by omega) (qoff + i * 2) rfl (wl (st_ldN I_ok rfl ((hsq i hi).extNo hX) rfl (wl (st_al I_ok rfl fun b9 w8 hn9 hb9 hE8 => ?_)))))))))))
        have ne1_9 : b1 ≠ b9 := Nat.ne_of_lt (Nat.lt_of_lt_of_le hb1.lt hn9)
        have fr9 := Nat.le_trans hX.size hn9
        have hb1 := hb1.extNo hE8
        have hP := hP.extNo hE8
        have hM := hM.extNo hE8
        have hX := hX.thenNo hE8
        have hb9o := hb9
        refine wl (st_stW (l' := (rows[i]).cells) I_ok hb9 rfl rfl rfl rfl OneC.h fun w9 hb9 hE9 hs9 => ?_)
        have hb1 := hb1.ext1 hE9 ne1_9
        have hP := hP.ext1 hE9 hb9o (by decide) (by decide)
        have hM := hM.ext1 hE9 hb9o
        have hX := hX.thenNew hE9 fr9
        refine wl_nil (f_then (c_seq (c_region (wl_p I_ok rfl (wl (st_ldb I_ok hb9 rfl rfl (wl (st_bd I_ok rfl ⟨⟨rfl, by decide⟩, ⟨rfl, by decide⟩, trivial⟩ (l' := objC (blobO (rows[i]).text) noP) (by rw [← objZ_c]; rfl) ?_))))))))
        refine wl (st_call Tryd.call12 rfl rfl rfl rfl rfl rfl (idObj_calls w9 (blobO_in _) (blob_l _ _) (blob_sh _) (hr.extNo hX)) fun v10 w10 hr10 => ?_)
        obtain ⟨rfl, hE10⟩ := hr10
        have hb1 := hb1.extNo hE10
        have hb9 := hb9.extNo hE10
        have hP := hP.extNo hE10
        have hM := hM.extNo hE10
        have hX := hX.thenNo hE10
        rw [show idB (blobO (rows[i]).text) = idOf (blobO (rows[i]).text) from if_pos (blob_ok hri.2)]
        refine wl_p I_ok rfl (wl (st_al I_ok rfl fun b10 w11 hn10 hb10 hE11 => ?_))
        have ne1_10 : b1 ≠ b10 := Nat.ne_of_lt (Nat.lt_of_lt_of_le hb1.lt hn10)
        have ne9_10 : b9 ≠ b10 := Nat.ne_of_lt (Nat.lt_of_lt_of_le hb9.lt hn10)
        have fr10 := Nat.le_trans hX.size hn10
        have hb1 := hb1.extNo hE11
        have hb9 := hb9.extNo hE11
        have hP := hP.extNo hE11
        have hM := hM.extNo hE11
        have hX := hX.thenNo hE11
        have hb10o := hb10
        refine wl (st_stW (l' := bytesU (idOf (blobO (rows[i]).text))) I_ok hb10 rfl rfl (by rw [bytesU_len, idOf_len]) (by rw [bytesU_len, idOf_len]; rfl) OneC.h fun w12 hb10 hE12 hs12 => ?_)
        have hb1 := hb1.ext1 hE12 ne1_10
        have hb9 := hb9.ext1 hE12 ne9_10
        have hP := hP.ext1 hE12 hb10o (by decide) (by decide)
        have hM := hM.ext1 hE12 hb10o
        have hX := hX.thenNew hE12 fr10
        refine wl_p I_ok rfl (wl_nil (f_then (c_seq (c_seq (c_region (wl_p I_ok rfl (wl (st_ldB I_ok hb10 rfl (by rw [bytesU_len, idOf_len]) (wl (st_lu I_ok rfl idK (idOf_len _) rfl hM ?_))))))))))
        simp only [if_true]
        rw [show tell strV ti9.zero (textF (rows.take i) (idOf (blobO (rows[i]).text))) = .string (tellS (textF (rows.take i) (idOf (blobO (rows[i]).text)))) from tellS_eq _]
        refine wl_p I_ok rfl (wl_nil (f_then (c_cutK (α := Bool) [5, 7, 9, 10, 40, 41, 42] rfl (fun z => [(65, .bool z)]) (fun z u => u = w12 ∧ (z = true ↔ TwinAt rows i)) ?_ ?_)))
        · refine c_region ?_
          refine wl_p I_ok rfl (wl_case 60 rfl (fun hg => ?_) (fun hg => ?_))
          · refine wl_pk I_ok 2 rfl ?_
            refine wl (st_ldb I_ok hb9 rfl rfl (wl_pk I_ok 2 rfl (wl_nil ?_)))
            exact f_cut (_) rfl ⟨rfl, decide_eq_true_iff.trans (twin_step hi hg)⟩
          · refine wl_pk I_ok 5 rfl ?_
            refine wl_nil ?_
            exact f_cut (false) rfl ⟨rfl, ⟨fun h => absurd h (by decide), fun h => absurd h (twin_none hi hg)⟩⟩
        rintro z w13 ⟨hu, hz⟩
        have hu := hu.symm
        subst hu
        refine c_cond rfl (fun hc => ?_) (fun hc => ?_)
        · have h3 : Twin rows := .inl ⟨i, hz.1 hc⟩
          have e3 := partsE2 h1 h2 h3
          refine c_seq (c_region (wl_p I_ok rfl (wl_nil (f_then (c_ret (f_thenR (f_blockR (f_thenR (f_thenR (f_blockR (f_thenR (f_ret [_, _] ⟨rfl, rfl, trivial⟩ ?_))))))))))))
          exact ⟨none, 0, none, 0, by rw [e3, partsL0 e3 (by decide)]; rfl, by rw [partsL0 e3 (by decide)]; exact Own.nil _ _ _, noOwn, fun h => absurd (h.symm.trans e3) (by decide), noOwn, hX⟩
        · have hnt : ¬ TwinAt rows i := fun h => by rw [hz.2 h] at hc; cases hc
          refine c_skip (f_then (c_region (wl_p I_ok rfl (wl (st_ldB I_ok hb10 rfl (by rw [bytesU_len, idOf_len]) (wl_p I_ok rfl (wl (st_ldb I_ok hb9 rfl rfl ?_))))))))
          refine wl (st_mu I_ok rfl idK (idOf_len _) rfl hM (b := (rows[i]).text) rfl fun w14 hM2 hE14 hs14 => ?_)
          have hb1 := hb1.extMap hM hE14
          have hP := hP.extMap hM hE14
          have hX := hX.thenNew hE14 fr3
          refine wl_nil (f_blockN (f_then (c_region (wl_p I_ok rfl ?_))))
          rw [IntWalk.i64_in _ (by omega)]
          refine wl_nil ?_
          exact f_round (i + 1) rfl ⟨⟨hi, by rw [textF_take hi]; exact hM2, fun k hk => by rcases Nat.lt_or_ge k i with h | h; exact hno k h; rw [show k = i from by omega]; exact hnt, hP⟩, hb1, hX⟩ (by first | omega | (dsimp only; omega))
      · have h0 : i = rows.length := by omega
        subst h0
        rw [List.take_length] at hM
        have hn0 : 0 < (partsOf rows (lfP lp lc)).length := Nat.pos_of_ne_zero fun e => parts_none e h2
        have hn1 := parts_len (l := rows) (a := lfP lp lc)
        obtain ⟨bq, qoff, hq, hsq⟩ := hP.own.sl.rowAll (hpin _) hn0
        obtain ⟨m, hm⟩ : ∃ m, m + 1 = (partsOf rows (lfP lp lc)).length := ⟨(partsOf rows (lfP lp lc)).length - 1, by omega⟩
        have hml : m < (partsOf rows (lfP lp lc)).length := by omega
        have hlast := (parts_last hml hm).2 h2
        rw [hq] at hP ⊢
        refine c_exit (f_thenE (f_thenE (f_blockE (f_then (c_seq (c_seq (c_region (wl_p I_ok rfl ?_))))))))
        rw [IntWalk.i64_in _ (by omega)]
        refine wl (st_ix I_ok rfl 105 rfl m (by omega) (by omega) (qoff + m * 105) rfl (wl_p I_ok rfl (wl (st_ldN I_ok rfl (by have h5 := held_id (hsq m hml); rw [hlast] at h5; exact h5) (by rw [bytesU_len, idOf_len]) ?_))))
        refine wl (st_lu I_ok rfl idK (idOf_len _) rfl hM ?_)
        simp only [if_true]
        refine wl_p I_ok rfl (wl_nil (f_then (c_seq (c_region (wl_p I_ok rfl (wl_nil (f_then (c_cond rfl (fun hc => ?_) (fun hc => ?_)))))))))
        · have h3 : Twin rows := .inr hc
          have e4 := partsE2 h1 h2 h3
          refine c_seq (c_region (wl_p I_ok rfl (wl_nil (f_then (c_ret (f_thenR (f_ret [_, _] ⟨rfl, rfl, trivial⟩ ?_)))))))
          exact ⟨none, 0, none, 0, by rw [e4, partsL0 e4 (by decide)]; rfl, by rw [partsL0 e4 (by decide)]; exact Own.nil _ _ _, noOwn, fun h => absurd (h.symm.trans e4) (by decide), noOwn, hX⟩
        · have h3 : ¬ Twin rows := fun h => h.elim (fun ⟨j, hj⟩ => by obtain ⟨hj1, _⟩ := id hj; exact hno j hj1 hj) fun h => by rw [h] at hc; cases hc
          have e5 := partsE3 h1 h2 h3
          refine c_skip (f_then (c_seq (c_region (wl_p I_ok rfl (wl_nil (f_then (c_ret (f_ret [_, _] ⟨rfl, rfl, trivial⟩ ?_))))))))
          exact ⟨_, k, lp, lc, by rw [e5, partsL1 e5]; rfl, by rw [partsL1 e5]; exact hP.own, hP.new, fun _ => hP.lf, hP.lnew, hX⟩
end Go.Proofs.YtjghckniloikgaaDoor
namespace Go.Proofs.YtjghckniloikgaaDoor
open Go.Vc
theorem nilS {t : Str} : strU t = ByteArray.mk #[] ↔ t = [] := ⟨fun h => strU_inj (b := []) h, fun h => by rw [h]; rfl⟩
theorem none6_calls (w : World) {x : ObjD} {a : ObjP} (hx : ObjIn x) (_hxl : ObjL w x a) (_hsx : Short x) :
    CallsV Tryd.prog 72 [.agg (objC x a).toArray] w fun v w' => v = .bool (decide (NoCom x)) ∧ Ext No w w' := by
  refine calls_enter Tryd.func72 rfl rfl rfl rfl ?_
  have hX := Ext.refl No w
  refine c_seq (c_region (wl (st_al I_ok rfl fun b1 w1 hn1 hb1 hE1 => ?_)))
  have fr1 := Nat.le_trans hX.size hn1
  have hX := hX.thenNo hE1
  have hb1 : Blk w1 b1 33 (objC x a) := hb1
  have oa := hb1.seg.obj hx
  refine wl_p I_ok rfl (wl_nil (f_then (c_cutK (α := Bool) [] rfl (fun z => [(2, .bool z)]) (fun z u => (z = decide (NoCom x)) ∧ Ext No w u) ?_ ?_)))
  · refine c_region ?_
    refine wl_p I_ok rfl (wl (st_ld I_ok rfl oa.style (wl_p I_ok rfl (wl_caseD 6 rfl (fun hg => ?_) (fun hg => ?_)))))
    · have n1 : x.style = 0 := by first | exact hg | omega
      refine wl_pk I_ok 1 rfl (wl (st_ldN I_ok rfl oa.tree (IdIn.len hx.tree) (wl (st_bd I_ok rfl trivial (l' := bytesU idZ) idZ_c.symm ?_))))
      refine wl (st_eqK rfl gId 10 (by decide) kId (idForm hx.tree) (idForm idZ_in) (idKey hx.tree) (idKey idZ_in) idLits_inj ?_)
      simp only [if_true]
      refine wl_p I_ok rfl (wl_caseD 12 rfl (fun hg => ?_) (fun hg => ?_))
      · have n2 : x.tree = idZ := by first | exact hg | omega
        refine wl_pk I_ok 1 rfl (wl (st_ldN I_ok rfl oa.base (IdIn.len hx.base) (wl (st_bd I_ok rfl trivial (l' := bytesU idZ) idZ_c.symm ?_))))
        refine wl (st_eqK rfl gId 10 (by decide) kId (idForm hx.base) (idForm idZ_in) (idKey hx.base) (idKey idZ_in) idLits_inj ?_)
        simp only [if_true]
        refine wl_p I_ok rfl (wl_caseD 18 rfl (fun hg => ?_) (fun hg => ?_))
        · have n3 : x.base = idZ := by first | exact hg | omega
          refine wl_pk I_ok 1 rfl (wl (st_ld I_ok rfl oa.parents (wl_pk I_ok 4 rfl (wl_caseD 24 rfl (fun hg => ?_) (fun hg => ?_)))))
          · have n4 : x.parents.length = 0 := by first | exact hg | omega
            refine wl_pk I_ok 2 rfl (wl (st_ld I_ok rfl oa.rows (wl_pk I_ok 4 rfl (wl_caseD 31 rfl (fun hg => ?_) (fun hg => ?_)))))
            · have n5 : x.rows.length = 0 := by first | exact hg | omega
              refine wl_pk I_ok 1 rfl (wl (st_ld I_ok rfl oa.number (wl_pk I_ok 3 rfl (wl_caseD 36 rfl (fun hg => ?_) (fun hg => ?_)))))
              · have n6 : x.number = 0 := by first | exact hg | omega
                refine wl_pk I_ok 1 rfl (wl (st_ld I_ok rfl oa.author (wl_pk I_ok 3 rfl (wl_caseD 41 rfl (fun hg => ?_) (fun hg => ?_)))))
                · have n7 : x.author = 0 := by first | exact hg | omega
                  refine wl_pk I_ok 1 rfl (wl (st_ld I_ok rfl oa.note (wl_pk I_ok 3 rfl (wl_nil ?_))))
                  exact f_cut (_) rfl ⟨by rw [decide_eq_decide, nilS]; exact ⟨fun h => ⟨n1, n2, n3, n4, n5, n6, n7, h⟩, fun h => h.2.2.2.2.2.2.2⟩, hX⟩
                · have n7 : ¬ x.author = 0 := by first | exact hg | omega
                  refine wl_pk I_ok 5 rfl (wl_nil ?_)
                  exact f_cut (false) rfl ⟨by symm; rw [decide_eq_false_iff_not]; exact fun h => n7 h.2.2.2.2.2.2.1, hX⟩
              · have n6 : ¬ x.number = 0 := by first | exact hg | omega
                refine wl_pk I_ok 10 rfl (wl_nil ?_)
                exact f_cut (false) rfl ⟨by symm; rw [decide_eq_false_iff_not]; exact fun h => n6 h.2.2.2.2.2.1, hX⟩
            · have n5 : ¬ x.rows.length = 0 := by first | exact hg | omega
              refine wl_pk I_ok 15 rfl (wl_nil ?_)
              exact f_cut (false) rfl ⟨by symm; rw [decide_eq_false_iff_not]; exact fun h => n5 h.2.2.2.2.1, hX⟩
          · have n4 : ¬ x.parents.length = 0 := by first | exact hg | omega
            refine wl_pk I_ok 22 rfl (wl_nil ?_)
            exact f_cut (false) rfl ⟨by symm; rw [decide_eq_false_iff_not]; exact fun h => n4 h.2.2.2.1, hX⟩
        · have n3 : ¬ x.base = idZ := by first | exact hg | omega
          refine wl_pk I_ok 28 rfl (wl_nil ?_)
          exact f_cut (false) rfl ⟨by symm; rw [decide_eq_false_iff_not]; exact fun h => n3 h.2.2.1, hX⟩
      · have n2 : ¬ x.tree = idZ := by first | exact hg | omega
        refine wl_pk I_ok 34 rfl (wl_nil ?_)
        exact f_cut (false) rfl ⟨by symm; rw [decide_eq_false_iff_not]; exact fun h => n2 h.2.1, hX⟩
    · have n1 : ¬ x.style = 0 := by first | exact hg | omega
      refine wl_pk I_ok 40 rfl (wl_nil ?_)
      exact f_cut (false) rfl ⟨by symm; rw [decide_eq_false_iff_not]; exact fun h => n1 h.1, hX⟩
  rintro z w2 ⟨rfl, hX⟩
  refine c_ret (f_ret1 rfl rfl ?_)
  exact ⟨rfl, hX⟩
theorem style_no {o : ObjD} (h : idZ ∈ o.parents) : ¬ StyleOk o := fun hs => hs.1 h
theorem style1 {o : ObjD} (h : idZ ∉ o.parents) (hs : o.style = 1) : StyleOk o ↔ o.parents.length = 0 ∧ o.base = idZ ∧ o.rows.length = 0 ∧ o.number = 0 := by
  constructor
  · rintro ⟨_, h1 | h1 | h1⟩
    · exact h1.2
    · exact absurd (hs.symm.trans h1.1) (by decide)
    · exact absurd (hs.symm.trans h1.1) (by decide)
  · exact fun h1 => ⟨h, .inl ⟨hs, h1⟩⟩
theorem style2 {o : ObjD} (h : idZ ∉ o.parents) (hs : o.style = 2) : StyleOk o ↔ o.parents.length = 1 ∧ o.base = idZ ∧ 0 < o.number := by
  constructor
  · rintro ⟨_, h1 | h1 | h1⟩
    · exact absurd (hs.symm.trans h1.1) (by decide)
    · exact h1.2
    · exact absurd (hs.symm.trans h1.1) (by decide)
  · exact fun h1 => ⟨h, .inr (.inl ⟨hs, h1⟩)⟩
theorem style3 {o : ObjD} (h : idZ ∉ o.parents) (hs : o.style = 3) : StyleOk o ↔ o.parents.length = 2 ∧ o.parents.getD 0 [] ≠ o.parents.getD 1 [] ∧ 0 < o.number := by
  constructor
  · rintro ⟨_, h1 | h1 | h1⟩
    · exact absurd (hs.symm.trans h1.1) (by decide)
    · exact absurd (hs.symm.trans h1.1) (by decide)
    · exact h1.2
  · exact fun h1 => ⟨h, .inr (.inr ⟨hs, h1⟩)⟩
theorem style0 {o : ObjD} (h1 : ¬ o.style = 1) (h2 : ¬ o.style = 2) (h3 : ¬ o.style = 3) : ¬ StyleOk o := fun h => h.2.elim (fun h => h1 h.1) fun h => h.elim (fun h => h2 h.1) fun h => h3 h.1
theorem style6_calls (w : World) {x : ObjD} {a : ObjP} (hx : ObjIn x) (hxl : ObjL w x a) (hsx : Short x) :
    CallsV Tryd.prog 75 [.agg (objC x a).toArray] w fun v w' => v = .bool (decide (StyleOk x)) ∧ Ext No w w' := by
  refine calls_enter Tryd.func75 rfl rfl rfl rfl ?_
  have hX := Ext.refl No w
  refine c_seq (c_region (wl (st_al I_ok rfl fun b1 w1 hn1 hb1 hE1 => ?_)))
  have fr1 := Nat.le_trans hX.size hn1
  have hX := hX.thenNo hE1
  have hb1 : Blk w1 b1 33 (objC x a) := hb1
  have oa := hb1.seg.obj hx
  refine wl_p I_ok rfl (wl_nil (f_then (c_seq (c_seq (c_region (wl_p I_ok rfl (wl (st_ld I_ok rfl oa.parents (wl_p I_ok rfl (wl_nil (f_then (c_block ?_))))))))))))
  refine c_loopK (α := Nat) [1, 6, 7] rfl (fun z => [(8, .int .i64 (z : Int))]) (fun z u => (z ≤ x.parents.length ∧ ∀ k (hk : k < x.parents.length), k < z → ¬ x.parents[k] = idZ) ∧ Blk u b1 33 (objC x a) ∧ Ext No w u) (fun z u => x.parents.length - z) (0) rfl ⟨⟨Nat.zero_le _, fun k _ h => absurd h (Nat.not_lt_zero _)⟩, hb1, hX⟩ ?_
  rintro i w2 ⟨⟨hi, hno⟩, hb1, hX⟩
  have oa := hb1.seg.obj hx
  refine c_seq (c_region (wl_p I_ok rfl (wl_nil (f_then (c_seq (c_if rfl (fun hc => ?_) (fun hc => ?_)))))))
  · have hi : i < x.parents.length := by omega
    obtain ⟨qb, qoff, hp, hsq⟩ := hxl.parents.rowAll (fun r hr => IdIn.len (hx.parents r hr)) (by omega)
    rw [hp]
    have hpl := hsx.parents
    have ha1 : IdIn x.parents[i] := hx.parents _ (List.getElem_mem hi)
    refine c_skip (f_then (c_seq (c_block (c_seq (c_region (wl (st_ix I_ok rfl 32 rfl i rfl (by omega) (qoff + i * 32) rfl (wl (st_ldN I_ok rfl ((hsq i hi).extNo hX) ha1.len (wl (st_al I_ok rfl fun b4 w3 hn4 hb4 hE3 => ?_)))))))))))
    have ne1_4 : b1 ≠ b4 := Nat.ne_of_lt (Nat.lt_of_lt_of_le hb1.lt hn4)
    have fr4 := Nat.le_trans hX.size hn4
    have hb1 := hb1.extNo hE3
    have oa := oa.extNo hE3
    have hX := hX.thenNo hE3
    have hb4o := hb4
    refine wl (st_stW (l' := bytesU x.parents[i]) I_ok hb4 rfl rfl ha1.len ha1.len OneC.h fun w4 hb4 hE4 hs4 => ?_)
    have hb1 := hb1.ext1 hE4 ne1_4
    have oa := (hb1.seg.obj hx)
    have hX := hX.thenNew hE4 fr4
    refine wl_nil (f_then (c_seq (c_region (wl (st_ldB I_ok hb4 rfl ha1.len (wl (st_bd I_ok rfl trivial (l' := bytesU idZ) idZ_c.symm (wl (st_eqK rfl gId 10 (by decide) kId (idForm ha1) (idForm idZ_in) (idKey ha1) (idKey idZ_in) idLits_inj ?_)))))))))
    simp only [if_true]
    refine wl_nil (f_then (c_if rfl (fun hc => ?_) (fun hc => ?_)))
    · have hz : idZ ∈ x.parents := hc ▸ List.getElem_mem hi
      refine c_seq (c_region (wl_p I_ok rfl (wl_nil (f_then (c_ret (f_blockR (f_thenR (f_thenR (f_blockR (f_thenR (f_ret1 rfl rfl ?_)))))))))))
      exact ⟨congrArg Value.bool (decide_eq_false (style_no hz)).symm, hX⟩
    · refine c_skip ?_
      refine f_blockN (f_then (c_region (wl_p I_ok rfl ?_)))
      rw [IntWalk.i64_in _ (by omega)]
      refine wl_nil ?_
      exact f_round (i + 1) rfl ⟨⟨by omega, allStep (p := fun y => ¬ y = idZ) hno hi hc⟩, hb1, hX⟩ (by first | omega | (dsimp only; omega))
  · have h0 : idZ ∉ x.parents := fun hr => by
      obtain ⟨k, hk, e⟩ := List.mem_iff_getElem.1 hr
      exact hno k hk (by omega) e
    refine c_exit (f_thenE (f_thenE (f_blockE (f_then (c_seq (c_seq (c_region (wl_p I_ok rfl (wl (st_ld I_ok rfl oa.style (wl_nil (f_then (c_block (c_seq (c_region (wl_p I_ok rfl (wl_nil (f_then ?_))))))))))))))))))
    refine c_if rfl (fun hc => ?_) (fun hc => ?_)
    · have h1 : x.style = 1 := hc
      refine c_cutK (α := Bool) [] rfl (fun z => [(2, .bool z)]) (fun z u => (z = decide (StyleOk x)) ∧ Ext No w u) ?_ ?_
      · refine c_region ?_
        refine wl_p I_ok rfl (wl (st_ld I_ok rfl oa.parents (wl_p I_ok rfl (wl_caseD 24 rfl (fun hg => ?_) (fun hg => ?_)))))
        · refine wl_pk I_ok 1 rfl ?_
          refine wl (st_ldN I_ok rfl oa.base (IdIn.len hx.base) (wl (st_bd I_ok rfl trivial (l' := bytesU idZ) idZ_c.symm (wl (st_eqK rfl gId 10 (by decide) kId (idForm hx.base) (idForm idZ_in) (idKey hx.base) (idKey idZ_in) idLits_inj ?_)))))
          simp only [if_true]
          refine wl_p I_ok rfl (wl_caseD 30 rfl (fun hg => ?_) (fun hg => ?_))
          · have hb := hg
            refine wl_pk I_ok 2 rfl (wl (st_ld I_ok rfl oa.rows (wl_pk I_ok 4 rfl (wl_caseD 37 rfl (fun hg => ?_) (fun hg => ?_)))))
            · refine wl_pk I_ok 1 rfl ?_
              refine wl (st_ld I_ok rfl oa.number (wl_pk I_ok 3 rfl (wl_nil ?_)))
              exact f_cut (_) rfl ⟨by rw [decide_eq_decide, style1 h0 h1]; exact ⟨fun h => ⟨by omega, hb, by omega, by omega⟩, fun h => by omega⟩, hX⟩
            · refine wl_pk I_ok 5 rfl ?_
              refine wl_nil ?_
              exact f_cut (false) rfl ⟨by symm; rw [decide_eq_false_iff_not, style1 h0 h1]; intro h; omega, hX⟩
          · have hb := hg
            refine wl_pk I_ok 12 rfl (wl_nil ?_)
            exact f_cut (false) rfl ⟨by symm; rw [decide_eq_false_iff_not, style1 h0 h1]; intro h; exact hb h.2.1, hX⟩
        · refine wl_pk I_ok 18 rfl ?_
          refine wl_nil ?_
          exact f_cut (false) rfl ⟨by symm; rw [decide_eq_false_iff_not, style1 h0 h1]; intro h; omega, hX⟩
      rintro z w5 ⟨rfl, hX⟩
      refine c_ret (f_blockR (f_thenR (f_ret1 rfl rfl ?_)))
      exact ⟨rfl, hX⟩
    · have h1 : ¬ x.style = 1 := hc
      refine c_seq (c_region (wl_p I_ok rfl (wl_nil (f_then (c_if rfl (fun hc => ?_) (fun hc => ?_))))))
      · have h2 : x.style = 2 := hc
        refine c_cutK (α := Bool) [] rfl (fun z => [(2, .bool z)]) (fun z u => (z = decide (StyleOk x)) ∧ Ext No w u) ?_ ?_
        · refine c_region ?_
          refine wl_p I_ok rfl (wl (st_ld I_ok rfl oa.parents (wl_p I_ok rfl (wl_caseD 48 rfl (fun hg => ?_) (fun hg => ?_)))))
          · refine wl_pk I_ok 1 rfl ?_
            refine wl (st_ldN I_ok rfl oa.base (IdIn.len hx.base) (wl (st_bd I_ok rfl trivial (l' := bytesU idZ) idZ_c.symm (wl (st_eqK rfl gId 10 (by decide) kId (idForm hx.base) (idForm idZ_in) (idKey hx.base) (idKey idZ_in) idLits_inj ?_)))))
            simp only [if_true]
            refine wl_p I_ok rfl (wl_caseD 54 rfl (fun hg => ?_) (fun hg => ?_))
            · have hb := hg
              refine wl_pk I_ok 1 rfl (wl (st_ld I_ok rfl oa.number (wl_pk I_ok 3 rfl (wl_nil ?_))))
              exact f_cut (_) rfl ⟨by rw [decide_eq_decide, style2 h0 h2]; exact ⟨fun h => ⟨by omega, hb, by omega⟩, fun h => by omega⟩, hX⟩
            · have hb := hg
              refine wl_pk I_ok 5 rfl (wl_nil ?_)
              exact f_cut (false) rfl ⟨by symm; rw [decide_eq_false_iff_not, style2 h0 h2]; intro h; exact hb h.2.1, hX⟩
          · refine wl_pk I_ok 11 rfl ?_
            refine wl_nil ?_
            exact f_cut (false) rfl ⟨by symm; rw [decide_eq_false_iff_not, style2 h0 h2]; intro h; omega, hX⟩
        rintro z w6 ⟨rfl, hX⟩
        refine c_ret (f_blockR (f_thenR (f_ret1 rfl rfl ?_)))
        exact ⟨rfl, hX⟩
      · have h2 : ¬ x.style = 2 := hc
        refine c_seq (c_region (wl_p I_ok rfl (wl_nil (f_then (c_if rfl (fun hc => ?_) (fun hc => ?_))))))
        · have h3 : x.style = 3 := hc
          refine c_cutK (α := Bool) [] rfl (fun z => [(2, .bool z)]) (fun z u => (z = decide (StyleOk x)) ∧ Ext No w u) ?_ ?_
          · refine c_draw rfl 21 [(0, true), (1, true), (2, true), (3, true), (4, true), (5, true), (6, true), (7, true), (8, true), (9, true), (10, true), (11, true), (12, true), (13, true), (14, true), (15, true), (16, true), (17, true), (18, true), (19, true), (20, true)] [] (No) (by kernel_rfl) fun w7 hE7 hs7 => ?_
            have hd1 := hb1
            have oad := oa
            have hXd := hX
            have hb1 := hb1.extNo hE7
            have oa := oa.extNo hE7
            have hX := hX.thenNo hE7
            have hC : Ext (No) _ w7 := hE7.no
            refine wd_k I_ok 1 rfl (wd_ld I_ok rfl rfl (fun w' hw' => (oad.extNo hw').parents) ?_)
            refine wd_k I_ok 3 rfl (wd_caseD 65 rfl (fun hg => ?_) (fun hg => ?_))
            · have hl2 : x.parents.length = 2 := by omega
              obtain ⟨b, off, hp, hsa⟩ := hxl.parents.rowAll (fun r hr => IdIn.len (hx.parents r hr)) (by omega)
              have ha0 := hx.parents _ (List.getElem_mem (show 0 < x.parents.length by omega))
              have ha1 := hx.parents _ (List.getElem_mem (show 1 < x.parents.length by omega))
              refine wd_k I_ok 1 rfl (wd_ld I_ok rfl rfl (fun w' hw' => (oad.extNo hw').parents) ?_)
              rw [hp]
              refine wd_ix I_ok rfl rfl 32 rfl 0 rfl (by omega) (off + 0 * 32) rfl (wd_ldN I_ok rfl rfl (fun w' hw' => ((hsa 0 (by omega)).extNo (hXd.thenNo hw'))) (IdIn.len ha0) ?_)
              refine wd_k I_ok 1 rfl (wd_ld I_ok rfl rfl (fun w' hw' => (oad.extNo hw').parents) ?_)
              rw [hp]
              refine wd_ix I_ok rfl rfl 32 rfl 1 rfl (by omega) (off + 1 * 32) rfl (wd_ldN I_ok rfl rfl (fun w' hw' => ((hsa 1 (by omega)).extNo (hXd.thenNo hw'))) (IdIn.len ha1) ?_)
              refine wd_eqK rfl rfl gId 10 (by decide) kId (idForm ha0) (idForm ha1) (idKey ha0) (idKey ha1) idLits_inj ?_
              simp only [Bool.false_eq_true, if_false]
              refine wd_k I_ok 2 rfl (wd_caseD 76 rfl (fun hg => ?_) (fun hg => ?_))
              · have hne := hg
                refine wd_k I_ok 1 rfl (wd_ld I_ok rfl rfl (fun w' hw' => (oad.extNo hw').number) ?_)
                refine wd_k I_ok 3 rfl (wd_sw (wb_nil ?_))
                exact f_cut (_) rfl ⟨by rw [decide_eq_decide, style3 h0 h3, getD_get (by omega), getD_get (by omega)]; exact ⟨fun h => ⟨hl2, hne, by omega⟩, fun h => by omega⟩, hX⟩
              · have hne := hg
                refine wd_k I_ok 5 rfl (wd_sw (wb_nil ?_))
                exact f_cut (false) rfl ⟨by symm; rw [decide_eq_false_iff_not, style3 h0 h3, getD_get (by omega), getD_get (by omega)]; intro h; exact hne h.2.1, hX⟩
            · refine wd_k I_ok 16 rfl ?_
              refine wd_sw (wb_nil ?_)
              exact f_cut (false) rfl ⟨by symm; rw [decide_eq_false_iff_not, style3 h0 h3]; intro h; omega, hX⟩
          rintro z w8 ⟨rfl, hX⟩
          refine c_ret (f_blockR (f_thenR (f_ret1 rfl rfl ?_)))
          exact ⟨rfl, hX⟩
        · have h3 : ¬ x.style = 3 := hc
          refine c_skip (f_blockN (f_then (c_seq (c_region (wl_p I_ok rfl (wl_nil (f_then (c_ret (f_ret1 rfl rfl ?_)))))))))
          exact ⟨congrArg Value.bool (decide_eq_false (style0 h1 h2 h3)).symm, hX⟩
def LeafGood (l : List LeafD) (i : Nat) (hi : i < l.length) : Prop := PathOk l[i].path ∧ l[i].id ≠ idZ ∧ (0 < i → SLt (strU (l[i - 1]'(by omega)).path) (strU l[i].path))
instance (l : List LeafD) (i : Nat) (hi : i < l.length) : Decidable (LeafGood l i hi) := inferInstanceAs (Decidable (_ ∧ _))
theorem leaved_iff {l : List LeafD} : Leaved l ↔ l.length ≤ 32 ∧ ∀ i (hi : i < l.length), LeafGood l i hi := by
  constructor
  · rintro ⟨⟨h1, h2⟩, h3⟩
    rw [List.length_map] at h1
    refine ⟨h1, fun i hi => ?_⟩
    have := h2 i (by rw [List.length_map]; exact hi)
    simp only [List.getElem_map] at this
    exact ⟨this.1, h3 _ (List.getElem_mem hi), this.2⟩
  · rintro ⟨h1, h2⟩
    refine ⟨⟨by rw [List.length_map]; exact h1, fun i hi => ?_⟩, fun x hx => ?_⟩
    · rw [List.length_map] at hi
      have := h2 i hi
      simp only [List.getElem_map]
      exact ⟨this.1, this.2.2⟩
    · obtain ⟨i, hi, rfl⟩ := List.mem_iff_getElem.1 hx
      exact (h2 i hi).2.1
theorem fields6_calls (w : World) {x : ObjD} {a : ObjP} (hx : ObjIn x) (hxl : ObjL w x a) (hsx : Short x) :
    CallsV Tryd.prog 36 [.agg (objC x a).toArray] w fun v w' => v = .bool (decide (FieldsOk x)) ∧ Ext No w w' := by
  have hs : (strU x.text).size = x.text.length := rfl
  have hsn : (strU x.note).size = x.note.length := rfl
  have hll := hsx.leaves
  refine calls_enter Tryd.func36 rfl rfl rfl rfl ?_
  have hX := Ext.refl No w
  refine c_seq (c_region (wl (st_al I_ok rfl fun b1 w1 hn1 hb1 hE1 => ?_)))
  have fr1 := Nat.le_trans hX.size hn1
  have hX := hX.thenNo hE1
  have hb1 : Blk w1 b1 33 (objC x a) := hb1
  have oa := hb1.seg.obj hx
  refine wl_p I_ok rfl (wl_nil (f_then (c_seq (c_seq (c_region (wl_p I_ok rfl (wl (st_ld I_ok rfl oa.kind (wl_nil (f_then (c_block (c_seq (c_region (wl_p I_ok rfl (wl_nil (f_then (c_if rfl (fun hc => ?_) (fun hc => ?_))))))))))))))))))
  · have h1 : x.kind = 1 := hc
    refine c_cutK (α := Bool) [] rfl (fun z => [(2, .bool z)]) (fun z u => (z = decide (FieldsOk x)) ∧ Ext No w u) ?_ ?_
    · refine c_region ?_
      refine wl_p I_ok rfl (wl (st_ld I_ok rfl oa.text (wl_p I_ok rfl (wl_caseD 13 rfl (fun hg => ?_) (fun hg => ?_)))))
      · refine wl_pk I_ok 1 rfl ?_
        refine wl (st_ld I_ok rfl oa.leaves (wl_pk I_ok 4 rfl (wl_caseD 19 rfl (fun hg => ?_) (fun hg => ?_))))
        · refine wl (st_ldB I_ok hb1 rfl (objC_len hx) ?_)
          refine wl (st_call Tryd.call72 rfl rfl rfl rfl rfl rfl (none6_calls w1 hx (hxl.extNo hX) hsx) fun v2 w2 hr2 => ?_)
          obtain ⟨rfl, hE2⟩ := hr2
          have hb1 := hb1.extNo hE2
          have oa := oa.extNo hE2
          have hX := hX.thenNo hE2
          refine wl_p I_ok rfl (wl_nil ?_)
          exact f_cut (_) rfl ⟨by rw [decide_eq_decide, fields1 h1]; exact ⟨fun h => ⟨by omega, by omega, h⟩, fun h => h.2.2⟩, hX⟩
        · refine wl_pk I_ok 4 rfl ?_
          refine wl_nil ?_
          exact f_cut (false) rfl ⟨by symm; rw [decide_eq_false_iff_not, fields1 h1]; intro h; exact absurd h.2.1 (by omega), hX⟩
      · refine wl_pk I_ok 10 rfl ?_
        refine wl_nil ?_
        exact f_cut (false) rfl ⟨by symm; rw [decide_eq_false_iff_not, fields1 h1]; intro h; exact absurd h.1 (by omega), hX⟩
    rintro z w3 ⟨rfl, hX⟩
    refine c_ret (f_blockR (f_thenR (f_ret1 rfl rfl ?_)))
    exact ⟨rfl, hX⟩
  · have h1 : ¬ x.kind = 1 := hc
    refine c_seq (c_region (wl_p I_ok rfl (wl_nil (f_then (c_if rfl (fun hc => ?_) (fun hc => ?_))))))
    · have h2 : x.kind = 2 := hc
      refine c_seq (c_seq (c_region (wl_p I_ok rfl (wl (st_ld I_ok rfl oa.leaves (wl_p I_ok rfl (wl_nil (f_then (c_block ?_)))))))))
      refine c_loopK (α := Nat) [1, 26, 27] rfl (fun z => [(28, .int .i64 (z : Int))]) (fun z u => (z ≤ x.leaves.length ∧ ∀ k (hk : k < x.leaves.length), k < z → LeafGood x.leaves k hk) ∧ Blk u b1 33 (objC x a) ∧ Ext No w u) (fun z u => x.leaves.length - z) (0) rfl ⟨⟨Nat.zero_le _, fun k _ h => absurd h (Nat.not_lt_zero _)⟩, hb1, hX⟩ ?_
      rintro i w4 ⟨⟨hi, hok⟩, hb1, hX⟩
      have oa := hb1.seg.obj hx
      refine c_seq (c_region (wl_p I_ok rfl (wl_nil (f_then (c_seq (c_if rfl (fun hc => ?_) (fun hc => ?_)))))))
      · have hi : i < x.leaves.length := by omega
        obtain ⟨qb, qoff, hp, hsq⟩ := hxl.leaves.rowAll (fun r hr => LeafD.len (hx.leaves r hr).2) (by omega)
        rw [hp]
        have ha1 := hx.leaves _ (List.getElem_mem hi)
        have hi1 : IdIn x.leaves[i].id := ha1.2
        refine c_skip (f_then (c_seq (c_block (c_seq (c_region (wl_p I_ok rfl (wl (st_ix I_ok rfl 33 rfl i rfl (by omega) (qoff + i * 33) rfl (wl (st_ldN I_ok rfl ((hsq i hi).extNo hX) (LeafD.len ha1.2) ?_))))))))))
        refine wl (st_al I_ok rfl fun b4 w5 hn4 hb4 hE5 => ?_)
        have ne1_4 : b1 ≠ b4 := Nat.ne_of_lt (Nat.lt_of_lt_of_le hb1.lt hn4)
        have fr4 := Nat.le_trans hX.size hn4
        have hb1 := hb1.extNo hE5
        have oa := oa.extNo hE5
        have hX := hX.thenNo hE5
        refine wl_p I_ok rfl (wl (st_stW (l' := (x.leaves[i]).cells) I_ok hb4 rfl rfl (LeafD.len ha1.2) (LeafD.len ha1.2) OneC.h fun w6 hb4 hE6 hs6 => ?_))
        have hb1 := hb1.ext1 hE6 ne1_4
        have oa := (hb1.seg.obj hx)
        have hX := hX.thenNew hE6 fr4
        refine wl_nil (f_then (c_cutK (α := Bool) [1, 26, 27, 28] rfl (fun z => [(58, .bool z)]) (fun z u => (z = decide (¬ LeafGood x.leaves i hi)) ∧ Blk u b1 33 (objC x a) ∧ Ext No w u) ?_ ?_))
        · refine c_draw rfl 26 [(0, true), (1, true), (2, false), (3, true), (4, true), (5, true), (6, true), (7, true), (8, true), (9, true), (10, true), (11, true), (12, true), (13, true), (14, true), (15, true), (16, true), (17, true), (18, true), (19, true), (20, true), (21, true), (22, true), (23, true), (24, true), (25, true)] [] (No) (by kernel_rfl) fun w7 hE7 hs7 => ?_
          have hd1 := hb1
          have hd4 := hb4
          have oad := oa
          have hXd := hX
          have hb1 := hb1.extNo hE7
          have hb4 := hb4.extNo hE7
          have oa := oa.extNo hE7
          have hX := hX.thenNo hE7
          have hC : Ext (No) _ w7 := hE7.no
          refine wd_k I_ok 1 rfl (wd_ld I_ok rfl rfl (fun w' hw' => (hd4.extNo hw').cell rfl) ?_)
          refine wd_l rfl (st_call Tryd.call73 rfl rfl rfl rfl rfl rfl (path6_calls w7 (x.leaves[i]).path (hsx.leafP _ (List.getElem_mem hi))) fun v8 w8 hr8 => ⟨(by obtain ⟨rfl, rfl⟩ := hr8; exact hC), ?_⟩)
          obtain ⟨rfl, rfl⟩ := hr8
          have hC := hC
          refine wd_k I_ok 2 rfl (wd_case 37 rfl (fun hg => ?_) (fun hg => ?_))
          · have hnp : ¬ PathOk (x.leaves[i]).path := by simpa using hg
            refine wd_k I_ok 21 rfl (wd_sw (wb_nil ?_))
            exact f_cut (true) rfl ⟨by symm; rw [decide_eq_true_eq]; exact fun h => hnp h.1, hb1, hX⟩
          · have hnp : PathOk (x.leaves[i]).path := by simpa using hg
            refine wd_k I_ok 1 rfl (wd_ldN I_ok rfl rfl (fun w' hw' => (by have := (hd4.extNo hw').seg.drop 1; exact this)) hi1.len ?_)
            refine wd_bd I_ok rfl rfl trivial (l' := bytesU idZ) idZ_c.symm (wd_eqK rfl rfl gId 10 (by decide) kId (idForm hi1) (idForm idZ_in) (idKey hi1) (idKey idZ_in) idLits_inj ?_)
            simp only [if_true]
            refine wd_k I_ok 2 rfl (wd_caseD 43 rfl (fun hg => ?_) (fun hg => ?_))
            · have hiz := hg
              refine wd_k I_ok 15 rfl (wd_sw (wb_nil ?_))
              exact f_cut (true) rfl ⟨by symm; rw [decide_eq_true_eq]; exact fun h => h.2.1 hiz, hb1, hX⟩
            · have hiz := hg
              refine wd_k I_ok 3 rfl (wd_caseD 46 rfl (fun hg => ?_) (fun hg => ?_))
              · refine wd_k I_ok 1 rfl ?_
                refine wd_ld I_ok rfl rfl (fun w' hw' => ((hd1.extNo hw').seg.obj hx).leaves) ?_
                rw [hp]
                refine wd_k I_ok 2 rfl ?_
                rw [IntWalk.i64_in _ (by omega)]
                refine wd_ix I_ok rfl rfl 33 rfl (i - 1) (by omega) (by omega) (qoff + (i - 1) * 33) rfl (wd_k I_ok 1 rfl (wd_ld I_ok rfl rfl (fun w' hw' => (((hsq (i - 1) (by omega)).extNo (hXd.thenNo hw')) 0 _ rfl)) ?_))
                refine wd_k I_ok 1 rfl (wd_ld I_ok rfl rfl (fun w' hw' => (hd4.extNo hw').cell rfl) ?_)
                refine wd_k I_ok 3 rfl (wd_sw (wb_nil ?_))
                exact f_cut (_) rfl ⟨by rw [decide_eq_decide]; exact ⟨fun h1 h2 => h1 (h2.2.2 (by omega)), fun h1 h2 => h1 ⟨hnp, hiz, fun _ => h2⟩⟩, hb1, hX⟩
              · refine wd_k I_ok 12 rfl ?_
                refine wd_sw (wb_nil ?_)
                exact f_cut (_) rfl ⟨by symm; rw [decide_eq_false_iff_not]; exact fun h => h ⟨hnp, hiz, fun h0 => absurd h0 (by omega)⟩, hb1, hX⟩
        rintro z w9 ⟨rfl, hb1, hX⟩
        have oa := hb1.seg.obj hx
        refine c_if rfl (fun hc => ?_) (fun hc => ?_)
        · refine c_seq ?_
          refine c_region (wl_p I_ok rfl (wl_nil (f_then (c_ret (f_blockR (f_thenR (f_thenR (f_blockR (f_thenR (f_blockR (f_thenR (f_ret1 rfl rfl ?_))))))))))))
          exact ⟨congrArg Value.bool (by symm; rw [decide_eq_false_iff_not, fields2 h2]; exact fun h => hc ((leaved_iff.1 h.1).2 i hi)), hX⟩
        · have hki := Decidable.not_not.1 hc
          refine c_skip (f_blockN (f_then (c_region (wl_p I_ok rfl ?_))))
          rw [IntWalk.i64_in _ (by omega)]
          refine wl_nil ?_
          exact f_round (i + 1) rfl ⟨⟨by omega, fun k hk hlt => (by
    rcases Nat.lt_or_ge k i with h' | h'
    · exact hok k hk h'
    · obtain rfl : k = i := by omega
      exact hki)⟩, hb1, hX⟩ (by first | omega | (dsimp only; omega))
      · have hall : ∀ k (hk : k < x.leaves.length), LeafGood x.leaves k hk := fun k hk => hok k hk (by omega)
        refine c_exit (f_thenE (f_thenE (f_blockE (f_then (c_cutK (α := Bool) [] rfl (fun z => [(2, .bool z)]) (fun z u => (z = decide (FieldsOk x)) ∧ Ext No w u) ?_ ?_)))))
        · refine c_region ?_
          refine wl_p I_ok rfl (wl (st_ld I_ok rfl oa.leaves (wl_p I_ok rfl (wl_caseD 64 rfl (fun hg => ?_) (fun hg => ?_)))))
          · refine wl_pk I_ok 1 rfl ?_
            refine wl (st_ld I_ok rfl oa.text (wl_pk I_ok 3 rfl (wl_caseD 69 rfl (fun hg => ?_) (fun hg => ?_))))
            · have e1 : x.text = [] := nilS.1 hg
              refine wl (st_ldB I_ok hb1 rfl (objC_len hx) (wl (st_call Tryd.call72 rfl rfl rfl rfl rfl rfl (none6_calls w4 hx (hxl.extNo hX) hsx) fun v10 w10 hr10 => ?_)))
              obtain ⟨rfl, hE10⟩ := hr10
              have hb1 := hb1.extNo hE10
              have oa := oa.extNo hE10
              have hX := hX.thenNo hE10
              refine wl_p I_ok rfl (wl_nil ?_)
              exact f_cut (_) rfl ⟨by rw [decide_eq_decide, fields2 h2]; exact ⟨fun h => ⟨leaved_iff.2 ⟨by omega, hall⟩, e1, h⟩, fun h => h.2.2⟩, hX⟩
            · have e1 : ¬ x.text = [] := fun e => hg (nilS.2 e)
              refine wl_pk I_ok 4 rfl (wl_nil ?_)
              exact f_cut (false) rfl ⟨by symm; rw [decide_eq_false_iff_not, fields2 h2]; intro h; exact e1 h.2.1, hX⟩
          · refine wl_pk I_ok 9 rfl ?_
            refine wl_nil ?_
            exact f_cut (false) rfl ⟨by symm; rw [decide_eq_false_iff_not, fields2 h2]; intro h; exact absurd (leaved_iff.1 h.1).1 (by omega), hX⟩
        rintro z w11 ⟨rfl, hX⟩
        refine c_ret (f_blockR (f_thenR (f_ret1 rfl rfl ?_)))
        exact ⟨rfl, hX⟩
    · have h2 : ¬ x.kind = 2 := hc
      refine c_seq (c_region (wl_p I_ok rfl (wl_nil (f_then (c_if rfl (fun hc => ?_) (fun hc => ?_))))))
      · have h3 : x.kind = 3 := hc
        refine c_cutK (α := Bool) [] rfl (fun z => [(2, .bool z)]) (fun z u => (z = decide (FieldsOk x)) ∧ Ext No w u) ?_ ?_
        · refine c_region ?_
          refine wl_p I_ok rfl (wl (st_ld I_ok rfl oa.text (wl_p I_ok rfl (wl_caseD 78 rfl (fun hg => ?_) (fun hg => ?_)))))
          · have e1 : x.text = [] := nilS.1 hg
            refine wl_pk I_ok 1 rfl (wl (st_ld I_ok rfl oa.leaves (wl_pk I_ok 4 rfl (wl_caseD 84 rfl (fun hg => ?_) (fun hg => ?_)))))
            · refine wl_pk I_ok 1 rfl ?_
              refine wl (st_ldN I_ok rfl oa.tree (IdIn.len hx.tree) (wl (st_bd I_ok rfl trivial (l' := bytesU idZ) idZ_c.symm (wl (st_eqK rfl gId 10 (by decide) kId (idForm hx.tree) (idForm idZ_in) (idKey hx.tree) (idKey idZ_in) idLits_inj ?_)))))
              simp only [Bool.false_eq_true, if_false]
              refine wl_p I_ok rfl (wl_caseD 90 rfl (fun hg => ?_) (fun hg => ?_))
              · have e2 : x.tree ≠ idZ := hg
                refine wl_pk I_ok 1 rfl (wl (st_ldN I_ok rfl (Seg.one oa.rows) rfl (wl (st_call Tryd.call74 rfl rfl rfl rfl rfl rfl (rightEdit5_calls w1 (hxl.rows.extNo hX) hsx.rows hsx.rowP) fun v12 w12 hr12 => ?_))))
                obtain ⟨rfl, hE12⟩ := hr12
                have hb1 := hb1.extNo hE12
                have oa := oa.extNo hE12
                have hX := hX.thenNo hE12
                refine wl_p I_ok rfl (wl_caseD 95 rfl (fun hg => ?_) (fun hg => ?_))
                · have e3 := hg
                  refine wl_pk I_ok 1 rfl (wl (st_ld I_ok rfl oa.note (wl_pk I_ok 4 rfl (wl_caseD 101 rfl (fun hg => ?_) (fun hg => ?_)))))
                  · refine wl (st_ldB I_ok hb1 rfl (objC_len hx) ?_)
                    refine wl (st_call Tryd.call75 rfl rfl rfl rfl rfl rfl (style6_calls w12 hx (hxl.extNo hX) hsx) fun v13 w13 hr13 => ?_)
                    obtain ⟨rfl, hE13⟩ := hr13
                    have hb1 := hb1.extNo hE13
                    have oa := oa.extNo hE13
                    have hX := hX.thenNo hE13
                    refine wl_p I_ok rfl (wl_nil ?_)
                    exact f_cut (_) rfl ⟨by rw [decide_eq_decide, fields3 h3]; exact ⟨fun h => ⟨e1, by omega, by omega, e3, e2, h⟩, fun h => h.2.2.2.2.2⟩, hX⟩
                  · refine wl_pk I_ok 4 rfl ?_
                    refine wl_nil ?_
                    exact f_cut (false) rfl ⟨by symm; rw [decide_eq_false_iff_not, fields3 h3]; intro h; exact absurd h.2.2.1 (by omega), hX⟩
                · have e3 := hg
                  refine wl_pk I_ok 10 rfl (wl_nil ?_)
                  exact f_cut (false) rfl ⟨by symm; rw [decide_eq_false_iff_not, fields3 h3]; intro h; exact e3 h.2.2.2.1, hX⟩
              · have e2 : ¬ x.tree ≠ idZ := hg
                refine wl_pk I_ok 15 rfl (wl_nil ?_)
                exact f_cut (false) rfl ⟨by symm; rw [decide_eq_false_iff_not, fields3 h3]; intro h; exact e2 h.2.2.2.2.1, hX⟩
            · refine wl_pk I_ok 21 rfl ?_
              refine wl_nil ?_
              exact f_cut (false) rfl ⟨by symm; rw [decide_eq_false_iff_not, fields3 h3]; intro h; exact absurd h.2.1 (by omega), hX⟩
          · have e1 : ¬ x.text = [] := fun e => hg (nilS.2 e)
            refine wl_pk I_ok 27 rfl (wl_nil ?_)
            exact f_cut (false) rfl ⟨by symm; rw [decide_eq_false_iff_not, fields3 h3]; intro h; exact e1 h.1, hX⟩
        rintro z w14 ⟨rfl, hX⟩
        refine c_ret (f_blockR (f_thenR (f_ret1 rfl rfl ?_)))
        exact ⟨rfl, hX⟩
      · have h3 : ¬ x.kind = 3 := hc
        refine c_skip (f_blockN (f_then (c_seq (c_region (wl_p I_ok rfl (wl_nil (f_then (c_ret (f_ret1 rfl rfl ?_)))))))))
        exact ⟨congrArg Value.bool (decide_eq_false (fields0 h1 h2 h3)).symm, hX⟩
end Go.Proofs.YtjghckniloikgaaDoor
namespace Go.Proofs.YtjghckniloikgaaDoor
open Go.Vc
theorem some6_calls (w : World) (s : Str) (n : Nat) (hn : n < 100) (hl : s.length < 900000000) :
    CallsV Tryd.prog 37 [strV s, .int .i64 (n : Int)] w fun v w' => ∃ q k, v = .slice q (strB n s).length k ∧ Own w' q (strB n s).length k 5 1 (bytesU (strB n s)) ∧ (∀ x, OwnB q x → w.heap.size ≤ x) ∧ Ext No w w' := by
  have hsz : (strU s).size = s.length := rfl
  refine calls_enter Tryd.func37 rfl rfl rfl rfl ?_
  have hX := Ext.refl No w
  refine c_seq (c_region (wl_p I_ok rfl (wl_nil (f_then (c_seq (c_region (wl_p I_ok rfl ?_)))))))
  rw [IntWalk.u64_in _ (by omega)]
  refine wl_p I_ok rfl (wl (st_call Tryd.call38 rfl rfl rfl rfl rfl rfl (high_calls n hn w s.length (by omega)) fun v1 w1 hr1 => ?_))
  obtain ⟨q, k, rfl, hq, hqn, hE1⟩ := hr1
  have hX := hX.thenNo hE1
  refine wl_p I_ok rfl ?_
  have hX0 := hX
  refine wl (st_app I_ok rfl 1 1 rfl rfl rfl (by decide) hq Src.string (by dsimp only [maxLen]; omega) (by dsimp only; omega) fun p2 c2 w2 ho2 hE2 hB2 => ?_)
  dsimp only at ho2 hE2 hB2 ⊢
  have hX := hX0.trans hE2 fun y hy hF => by have := hqn y hF; omega
  have hqn2 := newW hX0 hqn hB2
  have e3 : n + (strU s).size = (strB n s).length := by rw [strB_len]; omega
  have ho2 : Own w2 p2 (strB n s).length c2 5 1 (bytesU (strB n s)) := by
    rw [← e3, strB, bytesU_append]
    exact ho2
  rw [e3]
  refine wl_p I_ok rfl (wl_nil (f_then (c_ret (f_ret1 rfl rfl ?_))))
  exact ⟨_, _, rfl, ho2, hqn2, hX⟩
theorem leafB_len (r : LeafD) : (leafB r).length = 1 + r.path.length + r.id.length := by rw [leafB, List.length_append, strB_len]
theorem chgB_len (r : ChgD) : (chgB r).length = 1 + r.path.length + 1 + (2 + r.text.length) := by rw [chgB, List.length_append, List.length_append, strB_len, strB_len]; rfl
theorem bytes6_calls (w : World) {x : ObjD} {a : ObjP} (hx : ObjIn x) (hxl : ObjL w x a) (hf : FieldsOk x) :
    CallsV Tryd.prog 18 [.agg (objC x a).toArray] w fun v w' => ∃ q k, v = .slice q (laidB x).length k ∧ Own w' q (laidB x).length k 5 1 (bytesU (laidB x)) ∧ (∀ b, OwnB q b → w.heap.size ≤ b) ∧ Ext No w w' := by
  have hk0 := kind_at hf
  refine calls_enter Tryd.func18 rfl rfl rfl rfl ?_
  have hX := Ext.refl No w
  refine c_seq (c_region (wl (st_al I_ok rfl fun b1 w1 hn1 hb1 hE1 => ?_)))
  have fr1 := Nat.le_trans hX.size hn1
  have hX := hX.thenNo hE1
  have hb1 : Blk w1 b1 33 (objC x a) := hb1
  refine wl_p I_ok rfl (wl_nil (f_then (c_seq (c_region (wl_p I_ok rfl (wl (st_ld I_ok rfl (hb1.seg.obj hx).kind (wl_p I_ok rfl ?_))))))))
  rw [wrap_byteI hk0]
  refine wl (st_bs I_ok rfl 1 rfl rfl rfl (by decide) (by decide) (by simp [partsOk]) (l' := bytesU [UInt8.ofNat x.kind.toNat]) rfl fun b14 w2 hn14 hb14 hE2 hs2 => ?_)
  have ne1_14 : b1 ≠ b14 := Nat.ne_of_lt (Nat.lt_of_lt_of_le hb1.lt hn14)
  have fr14 := Nat.le_trans hX.size hn14
  have hb1 := hb1.extNo hE2
  have hX := hX.thenNo hE2
  have hX14 := hX.size
  have hO : Own w2 (some ⟨b14, 0, none⟩) (be 1 x.kind.toNat).length 1 5 1 (bytesU (be 1 x.kind.toNat)) := Own.blk (n := 1) (c := 1) hb14 1 rfl (Nat.le_refl _) (by decide)
  have hOn : ∀ y, OwnB (some ⟨b14, 0, none⟩) y → w.heap.size ≤ y := fun y hy => by have e : b14 = y := congrArg Addr.block (Option.some.inj hy); omega
  obtain ⟨q, hq⟩ : ∃ q : Option Addr, q = some ⟨b14, 0, none⟩ := ⟨_, rfl⟩
  rw [← hq] at hO hOn ⊢
  obtain ⟨k, hk⟩ : ∃ k, k = 1 := ⟨_, rfl⟩
  rw [show Value.slice q 1 1 = .slice q (be 1 x.kind.toNat).length k from by rw [hk]; rfl]
  rw [show Own w2 q (be 1 x.kind.toNat).length 1 _ 1 _ = Own w2 q (be 1 x.kind.toNat).length k 5 1 (bytesU (be 1 x.kind.toNat)) from by rw [hk]] at hO
  refine wl_p I_ok rfl (wl_nil (f_then (c_seq (c_seq (c_region (wl_p I_ok rfl (wl (st_ld I_ok rfl (hb1.seg.obj hx).kind (wl_nil (f_then (c_block (c_seq (c_region (wl_p I_ok rfl (wl_nil (f_then (c_if rfl (fun hc => ?_) (fun hc => ?_))))))))))))))))))
  · have h1 : x.kind = 1 := hc
    have hB := (fields1 h1).1 hf
    have hBl := hB.1
    refine c_seq (c_region (wl_p I_ok rfl (wl (st_ld I_ok rfl (hb1.seg.obj hx).text (wl (st_call Tryd.call37 rfl rfl rfl rfl rfl rfl (some6_calls w2 x.text 2 (by decide) (by omega)) fun v3 w3 hr3 => ?_))))))
    obtain ⟨qp, kp, rfl, hqp, hqpn, hE3⟩ := hr3
    have hb1 := hb1.extNo hE3
    have hO := hO.ext hE3 fun _ _ => id
    have hX := hX.thenNo hE3
    have hX0 := hX
    refine wl (st_app I_ok rfl 1 1 rfl rfl rfl (by decide) hO (Src.slice hqp.sl OneC.h) (by dsimp only [maxLen]; simp only [be_len, strB_len]; omega) (by dsimp only; simp only [be_len, strB_len]; omega) fun p4 c4 w4 ho4 hE4 hB4 => ?_)
    dsimp only at ho4 hE4 hB4 ⊢
    have hX := hX0.trans hE4 fun y hy hF => by have := hOn y hF; omega
    have hOn2 := newW hX0 hOn hB4
    have e3 : (be 1 x.kind.toNat).length + (strB 2 x.text).length = (be 1 x.kind.toNat ++ strB 2 x.text).length := by simp only [List.length_append, be_len, strB_len] <;> omega
    obtain ⟨q, k, e1, e2, hO2⟩ : ∃ q k, q = p4 ∧ k = c4 ∧ Own w4 q (be 1 x.kind.toNat ++ strB 2 x.text).length k 5 1 (bytesU (be 1 x.kind.toNat ++ strB 2 x.text)) := ⟨_, _, rfl, rfl, by
      rw [← e3, bytesU_append (be 1 x.kind.toNat)]
      exact ho4⟩
    rw [← e1] at hOn2 hB4
    have hO := hO2
    have hOn := hOn2
    rw [← e1, ← e2, e3]
    refine wl_p I_ok rfl (wl_nil (f_then (c_ret (f_blockR (f_thenR (f_ret1 rfl rfl ?_))))))
    exact ⟨q, k, by rw [laidB, if_pos h1], by rw [laidB, if_pos h1]; exact hO, hOn, hX⟩
  · have h1 : ¬ x.kind = 1 := hc
    refine c_seq (c_region (wl_p I_ok rfl (wl_nil (f_then (c_if rfl (fun hc => ?_) (fun hc => ?_))))))
    · have h2 : x.kind = 2 := hc
      have hB := (fields2 h2).1 hf
      obtain ⟨hl32, hp48⟩ := leaved_at hB.1
      refine c_seq (c_region (wl_p I_ok rfl (wl (st_ld I_ok rfl (hb1.seg.obj hx).leaves (wl_p I_ok rfl ?_)))))
      rw [wrap_byte]
      refine wl (st_bs I_ok rfl 1 rfl rfl rfl (by decide) (by decide) (by simp [partsOk]) (l' := bytesU [UInt8.ofNat x.leaves.length]) rfl fun b31 w5 hn31 hb31 hE5 hs5 => ?_)
      have ne1_31 : b1 ≠ b31 := Nat.ne_of_lt (Nat.lt_of_lt_of_le hb1.lt hn31)
      have fr31 := Nat.le_trans hX.size hn31
      have hb1 := hb1.extNo hE5
      have hO := hO.ext hE5 fun _ _ => id
      have hX := hX.thenNo hE5
      have hX0 := hX
      refine wl (st_app I_ok rfl 1 1 rfl rfl rfl (by decide) hO (Src.slice (m := 1) ⟨rfl, .inr ⟨b31, 0, rfl, hb31.seg⟩⟩ OneC.h) (by dsimp only [maxLen]; simp only [be_len]; omega) (by dsimp only; simp only [be_len]; omega) fun p6 c6 w6 ho6 hE6 hB6 => ?_)
      dsimp only at ho6 hE6 hB6 ⊢
      have hb1 := hb1.extOwn hO hE6 (show (5 : Nat) ≠ 33 from by decide)
      have hX := hX0.trans hE6 fun y hy hF => by have := hOn y hF; omega
      have hOn2 := newW hX0 hOn hB6
      have e3 : (be 1 x.kind.toNat).length + 1 = (be 1 x.kind.toNat ++ be 1 x.leaves.length).length := by simp only [List.length_append, be_len] <;> omega
      obtain ⟨q, k, e1, e2, hO2⟩ : ∃ q k, q = p6 ∧ k = c6 ∧ Own w6 q (be 1 x.kind.toNat ++ be 1 x.leaves.length).length k 5 1 (bytesU (be 1 x.kind.toNat ++ be 1 x.leaves.length)) := ⟨_, _, rfl, rfl, by
        rw [← e3, bytesU_append (be 1 x.kind.toNat)]
        exact ho6⟩
      rw [← e1] at hOn2 hB6
      have hO := hO2
      have hOn := hOn2
      rw [← e1, ← e2, e3]
      refine wl_p I_ok rfl (wl_nil (f_then (c_seq (c_seq (c_region (wl_p I_ok rfl (wl (st_ld I_ok rfl (hb1.seg.obj hx).leaves (wl_p I_ok rfl (wl_nil (f_then (c_block ?_))))))))))))
      refine c_loopK (α := Nat × Option Addr × Nat) [34, 35] rfl (fun z => [(3, .slice z.2.1 (be 1 x.kind.toNat ++ be 1 x.leaves.length ++ (x.leaves.take z.1).flatMap leafB).length z.2.2), (36, .int .i64 (z.1 : Int))]) (fun z u => (z.1 ≤ x.leaves.length ∧ Own u z.2.1 (be 1 x.kind.toNat ++ be 1 x.leaves.length ++ (x.leaves.take z.1).flatMap leafB).length z.2.2 5 1 (bytesU (be 1 x.kind.toNat ++ be 1 x.leaves.length ++ (x.leaves.take z.1).flatMap leafB)) ∧ ∀ y, OwnB z.2.1 y → w.heap.size ≤ y) ∧ Ext No w u) (fun z u => x.leaves.length - z.1) (0, q, k) rfl ⟨⟨Nat.zero_le _, by simpa using hO, hOn⟩, hX⟩ ?_
      rintro ⟨i, q, k⟩ w7 ⟨⟨hi, hO, hOn⟩, hX⟩
      try dsimp only
      dsimp only at hi hO hOn
      refine c_seq (c_region (wl_p I_ok rfl (wl_nil (f_then (c_seq (c_if rfl (fun hc => ?_) (fun hc => ?_)))))))
      · have hi : i < x.leaves.length := by omega
        obtain ⟨qb, qoff, hp, hsq⟩ := hxl.leaves.rowAll (fun r hr => LeafD.len (hx.leaves r hr).2) (by omega)
        rw [hp]
        have ha1 := hx.leaves _ (List.getElem_mem hi)
        have ha2 := hp48 _ (List.getElem_mem hi)
        have ha3 := ha1.2
        have hfl : ((x.leaves.take i).flatMap leafB).length ≤ (x.leaves.take i).length * 100 := flat_le fun r hr => leafB_le (hp48 r (List.mem_of_mem_take hr)) (hx.leaves r (List.mem_of_mem_take hr)).2
        rw [List.length_take, Nat.min_eq_left (by omega)] at hfl
        refine c_skip (f_then (c_seq (c_block (c_seq (c_region (wl (st_ix I_ok rfl 33 rfl i rfl (by omega) (qoff + i * 33) rfl (wl (st_ldN I_ok rfl ((hsq i hi).extNo hX) (LeafD.len ha1.2) (wl (st_al I_ok rfl fun b5 w8 hn5 hb5 hE8 => ?_)))))))))))
        have fr5 := Nat.le_trans hX.size hn5
        have hO := hO.ext hE8 fun _ _ => id
        have hX := hX.thenNo hE8
        have hb5o := hb5
        refine wl (st_stW (l' := (x.leaves[i]).cells) I_ok hb5 rfl rfl (LeafD.len ha1.2) (LeafD.len ha1.2) OneC.h fun w9 hb5 hE9 hs9 => ?_)
        have hO := hO.extTy hE9 hb5o (by decide)
        have hX := hX.thenNew hE9 fr5
        refine wl_nil (f_then (c_draw rfl 9 [(0, true), (1, true), (2, true), (5, true), (6, true), (3, false), (4, false), (7, false), (8, true)] [] (OwnB q) (by kernel_rfl) fun w10 hE10 hs10 => ?_))
        have hd5 := hb5
        have hOd := hO
        have hXd := hX
        have hb5 := hb5.extNo hE10
        have hO := hO.ext hE10 fun _ _ => id
        have hX := hX.thenNo hE10
        have hC : Ext (OwnB q) _ w10 := hE10.no
        have hqs : ∀ y, OwnB q y → OwnB q y ∨ w9.heap.size ≤ y := fun y h => .inl h
        have hOl : ∀ y, OwnB q y → y < w9.heap.size := fun y h => hOd.lt h
        refine wd_k I_ok 2 rfl (wd_ld I_ok rfl rfl (fun w' hw' => ((hd5.ext (show Ext (OwnB q) _ w' from hw') fun hx' => hOd.neTy hx' hd5 (by decide) rfl).cell rfl)) ?_)
        refine wd_k I_ok 1 rfl (wd_sa I_ok rfl rfl 0 32 32 1 rfl ⟨.inr ⟨rfl, rfl⟩, .inr ⟨rfl, rfl⟩, .inr ⟨rfl, rfl⟩, by decide, by decide, by decide⟩ ?_)
        rw [slBase_zero, Nat.sub_zero]
        refine wd_l rfl (st_call Tryd.call37 rfl rfl rfl rfl rfl rfl (some6_calls w10 (x.leaves[i]).path 1 (by decide) (by omega)) fun v11 w11 hr11 => ⟨(by obtain ⟨qp, kp, rfl, hqp, hqpn, hE11⟩ := hr11; exact hC.thenNo hE11), ?_⟩)
        obtain ⟨qp, kp, rfl, hqp, hqpn, hE11⟩ := hr11
        have hb5 := hb5.extNo hE11
        have hO := hO.ext hE11 fun _ _ => id
        have hX := hX.thenNo hE11
        have hC := hC.thenNo hE11
        have hX0 := hX
        have hC0 := hC
        refine wd_l rfl (st_app I_ok rfl 1 1 rfl rfl rfl (by decide) hO (Src.slice hqp.sl OneC.h) (by dsimp only [maxLen]; simp only [List.length_append, be_len, strB_len]; omega) (by dsimp only; simp only [List.length_append, be_len, strB_len]; omega) fun p12 c12 w12 ho12 hE12 hB12 => ⟨hC.trans hE12 (fun y hy hF => (hqs y hF).elim id (fun h => absurd hy (Nat.not_lt.2 h))), ?_⟩)
        have hC := hC.trans hE12 (fun y hy hF => (hqs y hF).elim id (fun h => absurd hy (Nat.not_lt.2 h)))
        dsimp only at ho12 hE12 hB12 ⊢
        have hb5 := hb5.extOwn hO hE12 (show (5 : Nat) ≠ 76 from by decide)
        have hX := hX0.trans hE12 fun y hy hF => by have := hOn y hF; omega
        have hOn2 := newW hX0 hOn hB12
        have e3 : (be 1 x.kind.toNat ++ be 1 x.leaves.length ++ (x.leaves.take i).flatMap leafB).length + (strB 1 (x.leaves[i]).path).length = (be 1 x.kind.toNat ++ be 1 x.leaves.length ++ (x.leaves.take i).flatMap leafB ++ strB 1 (x.leaves[i]).path).length := by simp only [List.length_append, be_len, strB_len] <;> omega
        obtain ⟨q, k, e1, e2, hO2⟩ : ∃ q k, q = p12 ∧ k = c12 ∧ Own w12 q (be 1 x.kind.toNat ++ be 1 x.leaves.length ++ (x.leaves.take i).flatMap leafB ++ strB 1 (x.leaves[i]).path).length k 5 1 (bytesU (be 1 x.kind.toNat ++ be 1 x.leaves.length ++ (x.leaves.take i).flatMap leafB ++ strB 1 (x.leaves[i]).path)) := ⟨_, _, rfl, rfl, by
          rw [← e3, bytesU_append (be 1 x.kind.toNat ++ be 1 x.leaves.length ++ (x.leaves.take i).flatMap leafB)]
          exact ho12⟩
        rw [← e1] at hOn2 hB12
        have hqs := fun y hy => (hB12 y hy).elim (hqs y) fun h => .inr (Nat.le_trans hC0.size h)
        have hO := hO2
        have hOn := hOn2
        rw [← e1, ← e2, e3]
        have hX0 := hX
        have hC0 := hC
        refine wd_l rfl (st_app I_ok rfl 1 1 rfl rfl rfl (by decide) hO (Src.slice (m := 32) ⟨IdIn.len ha3, .inr ⟨b5, 0 + 1, rfl, (by have := hb5.seg.drop 1; exact this)⟩⟩ OneC.h) (by dsimp only [maxLen]; simp only [List.length_append, be_len, strB_len]; omega) (by dsimp only; simp only [List.length_append, be_len, strB_len]; omega) fun p13 c13 w13 ho13 hE13 hB13 => ⟨hC.trans hE13 (fun y hy hF => (hqs y hF).elim id (fun h => absurd hy (Nat.not_lt.2 h))), ?_⟩)
        have hC := hC.trans hE13 (fun y hy hF => (hqs y hF).elim id (fun h => absurd hy (Nat.not_lt.2 h)))
        dsimp only at ho13 hE13 hB13 ⊢
        have hX := hX0.trans hE13 fun y hy hF => by have := hOn y hF; omega
        have hOn2 := newW hX0 hOn hB13
        have e3 : (be 1 x.kind.toNat ++ be 1 x.leaves.length ++ (x.leaves.take i).flatMap leafB ++ strB 1 (x.leaves[i]).path).length + 32 = (be 1 x.kind.toNat ++ be 1 x.leaves.length ++ (x.leaves.take i).flatMap leafB ++ strB 1 (x.leaves[i]).path ++ (x.leaves[i]).id).length := by simp only [List.length_append, be_len, strB_len] <;> omega
        obtain ⟨q, k, e1, e2, hO2⟩ : ∃ q k, q = p13 ∧ k = c13 ∧ Own w13 q (be 1 x.kind.toNat ++ be 1 x.leaves.length ++ (x.leaves.take i).flatMap leafB ++ strB 1 (x.leaves[i]).path ++ (x.leaves[i]).id).length k 5 1 (bytesU (be 1 x.kind.toNat ++ be 1 x.leaves.length ++ (x.leaves.take i).flatMap leafB ++ strB 1 (x.leaves[i]).path ++ (x.leaves[i]).id)) := ⟨_, _, rfl, rfl, by
          rw [← e3, bytesU_append (be 1 x.kind.toNat ++ be 1 x.leaves.length ++ (x.leaves.take i).flatMap leafB ++ strB 1 (x.leaves[i]).path)]
          exact ho13⟩
        rw [← e1] at hOn2 hB13
        have hqs := fun y hy => (hB13 y hy).elim (hqs y) fun h => .inr (Nat.le_trans hC0.size h)
        have hO := hO2
        have hOn := hOn2
        rw [← e1, ← e2, e3]
        refine wd_k I_ok 1 rfl (wd_sw (wb_nil (f_blockN (f_then (c_region (wl_p I_ok rfl ?_))))))
        rw [IntWalk.i64_in _ (by omega)]
        refine wl_nil ?_
        exact f_round (i + 1, q, k) (by rw [show be 1 x.kind.toNat ++ be 1 x.leaves.length ++ (x.leaves.take (i + 1)).flatMap leafB = be 1 x.kind.toNat ++ be 1 x.leaves.length ++ (x.leaves.take i).flatMap leafB ++ strB 1 (x.leaves[i]).path ++ (x.leaves[i]).id from by rw [flat_take hi, leafB]; simp]; rfl) ⟨⟨hi, by rw [show be 1 x.kind.toNat ++ be 1 x.leaves.length ++ (x.leaves.take (i + 1)).flatMap leafB = be 1 x.kind.toNat ++ be 1 x.leaves.length ++ (x.leaves.take i).flatMap leafB ++ strB 1 (x.leaves[i]).path ++ (x.leaves[i]).id from by rw [flat_take hi, leafB]; simp]; exact hO, hOn⟩, hX⟩ (by first | omega | (dsimp only; omega))
      · have h0 : i = x.leaves.length := by omega
        subst h0
        rw [List.take_length] at hO ⊢
        have hlaid : laidB x = be 1 x.kind.toNat ++ be 1 x.leaves.length ++ x.leaves.flatMap leafB := by rw [laidB, if_neg h1, if_pos h2, treeB, List.append_assoc]
        refine c_exit (f_thenE (f_thenE (f_blockE (f_then (c_seq (c_region (wl_p I_ok rfl (wl_nil (f_then (c_ret (f_blockR (f_thenR (f_ret1 rfl rfl ?_)))))))))))))
        exact ⟨q, k, by rw [hlaid], by rw [hlaid]; exact hO, hOn, hX⟩
    · have h2 : ¬ x.kind = 2 := hc
      have h3 : x.kind = 3 := by
        rcases hf with h | h | h
        · exact absurd h.1 h1
        · exact absurd h.1 h2
        · exact h.1
      have hB := (fields3 h3).1 hf
      obtain ⟨hl32, hp48⟩ := edit_at hB.2.2.2.1
      obtain ⟨hpl, hst⟩ := styled_at hB.2.2.2.2
      have hnl := hB.2.2.1
      have htr := hx.tree
      have hba := hx.base
      have hpf := flatten_len (n := 32) hx.parents
      refine c_skip (f_blockN (f_then (c_seq (c_draw rfl 10 [(0, true), (1, true), (2, true), (3, true), (6, true), (7, true), (4, false), (5, false), (8, false), (9, true)] [] (OwnB q) (by kernel_rfl) fun w14 hE14 hs14 => ?_))))
      have hd1 := hb1
      have hOd := hO
      have hXd := hX
      have hb1 := hb1.extNo hE14
      have hO := hO.ext hE14 fun _ _ => id
      have hX := hX.thenNo hE14
      have hC : Ext (OwnB q) _ w14 := hE14.no
      have hqs : ∀ y, OwnB q y → OwnB q y ∨ w2.heap.size ≤ y := fun y h => .inl h
      have hOl : ∀ y, OwnB q y → y < w2.heap.size := fun y h => hOd.lt h
      refine wd_k I_ok 2 rfl (wd_ld I_ok rfl rfl (fun w' hw' => ((hd1.ext (show Ext (OwnB q) _ w' from hw') fun hx' => hOd.neTy hx' hd1 (by decide) rfl).seg.obj hx).style) ?_)
      refine wd_k I_ok 1 rfl ?_
      rw [wrap_byteI hst]
      refine wd_k I_ok 1 rfl (wd_sa I_ok rfl rfl 0 32 32 1 rfl ⟨.inr ⟨rfl, rfl⟩, .inr ⟨rfl, rfl⟩, .inr ⟨rfl, rfl⟩, by decide, by decide, by decide⟩ ?_)
      rw [slBase_zero, Nat.sub_zero]
      refine wd_l rfl (st_bs I_ok rfl 1 rfl rfl rfl (by decide) (by decide) (by simp [partsOk]) (l' := bytesU [UInt8.ofNat x.style.toNat]) rfl fun b54 w15 hn54 hb54 hE15 hs15 => ⟨hC.thenNo hE15, ?_⟩)
      have ne1_54 : b1 ≠ b54 := Nat.ne_of_lt (Nat.lt_of_lt_of_le hb1.lt hn54)
      have fr54 := Nat.le_trans hX.size hn54
      have hb1 := hb1.extNo hE15
      have hO := hO.ext hE15 fun _ _ => id
      have hX := hX.thenNo hE15
      have hC := hC.thenNo hE15
      have hX0 := hX
      have hC0 := hC
      refine wd_l rfl (st_app I_ok rfl 1 1 rfl rfl rfl (by decide) hO (Src.slice (m := 1) ⟨rfl, .inr ⟨b54, 0, rfl, hb54.seg⟩⟩ OneC.h) (by dsimp only [maxLen]; simp only [be_len]; omega) (by dsimp only; simp only [be_len]; omega) fun p16 c16 w16 ho16 hE16 hB16 => ⟨hC.trans hE16 (fun y hy hF => (hqs y hF).elim id (fun h => absurd hy (Nat.not_lt.2 h))), ?_⟩)
      have hC := hC.trans hE16 (fun y hy hF => (hqs y hF).elim id (fun h => absurd hy (Nat.not_lt.2 h)))
      dsimp only at ho16 hE16 hB16 ⊢
      have hb1 := hb1.extOwn hO hE16 (show (5 : Nat) ≠ 33 from by decide)
      have hX := hX0.trans hE16 fun y hy hF => by have := hOn y hF; omega
      have hOn2 := newW hX0 hOn hB16
      have e3 : (be 1 x.kind.toNat).length + 1 = (be 1 x.kind.toNat ++ be 1 x.style.toNat).length := by simp only [List.length_append, be_len] <;> omega
      obtain ⟨q, k, e1, e2, hO2⟩ : ∃ q k, q = p16 ∧ k = c16 ∧ Own w16 q (be 1 x.kind.toNat ++ be 1 x.style.toNat).length k 5 1 (bytesU (be 1 x.kind.toNat ++ be 1 x.style.toNat)) := ⟨_, _, rfl, rfl, by
        rw [← e3, bytesU_append (be 1 x.kind.toNat)]
        exact ho16⟩
      rw [← e1] at hOn2 hB16
      have hqs := fun y hy => (hB16 y hy).elim (hqs y) fun h => .inr (Nat.le_trans hC0.size h)
      have hO := hO2
      have hOn := hOn2
      rw [← e1, ← e2, e3]
      have hX0 := hX
      have hC0 := hC
      refine wd_l rfl (st_app I_ok rfl 1 1 rfl rfl rfl (by decide) hO (Src.slice (m := 32) ⟨IdIn.len hx.tree, .inr ⟨b1, 0 + 4, rfl, (hb1.seg.obj hx).tree⟩⟩ OneC.h) (by dsimp only [maxLen]; simp only [List.length_append, be_len]; omega) (by dsimp only; simp only [List.length_append, be_len]; omega) fun p17 c17 w17 ho17 hE17 hB17 => ⟨hC.trans hE17 (fun y hy hF => (hqs y hF).elim id (fun h => absurd hy (Nat.not_lt.2 h))), ?_⟩)
      have hC := hC.trans hE17 (fun y hy hF => (hqs y hF).elim id (fun h => absurd hy (Nat.not_lt.2 h)))
      dsimp only at ho17 hE17 hB17 ⊢
      have hb1 := hb1.extOwn hO hE17 (show (5 : Nat) ≠ 33 from by decide)
      have hX := hX0.trans hE17 fun y hy hF => by have := hOn y hF; omega
      have hOn2 := newW hX0 hOn hB17
      have e3 : (be 1 x.kind.toNat ++ be 1 x.style.toNat).length + 32 = (be 1 x.kind.toNat ++ be 1 x.style.toNat ++ x.tree).length := by simp only [List.length_append, be_len] <;> omega
      obtain ⟨q, k, e1, e2, hO2⟩ : ∃ q k, q = p17 ∧ k = c17 ∧ Own w17 q (be 1 x.kind.toNat ++ be 1 x.style.toNat ++ x.tree).length k 5 1 (bytesU (be 1 x.kind.toNat ++ be 1 x.style.toNat ++ x.tree)) := ⟨_, _, rfl, rfl, by
        rw [← e3, bytesU_append (be 1 x.kind.toNat ++ be 1 x.style.toNat)]
        exact ho17⟩
      rw [← e1] at hOn2 hB17
      have hqs := fun y hy => (hB17 y hy).elim (hqs y) fun h => .inr (Nat.le_trans hC0.size h)
      have hO := hO2
      have hOn := hOn2
      rw [← e1, ← e2, e3]
      refine wd_k I_ok 1 rfl (wd_sw (wb_nil (f_then (c_seq (c_region (wl_p I_ok rfl (wl (st_ld I_ok rfl (hb1.seg.obj hx).parents (wl_p I_ok rfl ?_)))))))))
      rw [wrap_byte]
      refine wl (st_bs I_ok rfl 1 rfl rfl rfl (by decide) (by decide) (by simp [partsOk]) (l' := bytesU [UInt8.ofNat x.parents.length]) rfl fun b64 w18 hn64 hb64 hE18 hs18 => ?_)
      have ne1_64 : b1 ≠ b64 := Nat.ne_of_lt (Nat.lt_of_lt_of_le hb1.lt hn64)
      have fr64 := Nat.le_trans hX.size hn64
      have hb1 := hb1.extNo hE18
      have hO := hO.ext hE18 fun _ _ => id
      have hX := hX.thenNo hE18
      have hX0 := hX
      refine wl (st_app I_ok rfl 1 1 rfl rfl rfl (by decide) hO (Src.slice (m := 1) ⟨rfl, .inr ⟨b64, 0, rfl, hb64.seg⟩⟩ OneC.h) (by dsimp only [maxLen]; simp only [List.length_append, be_len]; omega) (by dsimp only; simp only [List.length_append, be_len]; omega) fun p19 c19 w19 ho19 hE19 hB19 => ?_)
      dsimp only at ho19 hE19 hB19 ⊢
      have hb1 := hb1.extOwn hO hE19 (show (5 : Nat) ≠ 33 from by decide)
      have hX := hX0.trans hE19 fun y hy hF => by have := hOn y hF; omega
      have hOn2 := newW hX0 hOn hB19
      have e3 : (be 1 x.kind.toNat ++ be 1 x.style.toNat ++ x.tree).length + 1 = (be 1 x.kind.toNat ++ be 1 x.style.toNat ++ x.tree ++ be 1 x.parents.length).length := by simp only [List.length_append, be_len] <;> omega
      obtain ⟨q, k, e1, e2, hO2⟩ : ∃ q k, q = p19 ∧ k = c19 ∧ Own w19 q (be 1 x.kind.toNat ++ be 1 x.style.toNat ++ x.tree ++ be 1 x.parents.length).length k 5 1 (bytesU (be 1 x.kind.toNat ++ be 1 x.style.toNat ++ x.tree ++ be 1 x.parents.length)) := ⟨_, _, rfl, rfl, by
        rw [← e3, bytesU_append (be 1 x.kind.toNat ++ be 1 x.style.toNat ++ x.tree)]
        exact ho19⟩
      rw [← e1] at hOn2 hB19
      have hO := hO2
      have hOn := hOn2
      rw [← e1, ← e2, e3]
      refine wl_p I_ok rfl (wl_nil (f_then (c_seq (c_seq (c_region (wl_p I_ok rfl (wl (st_ld I_ok rfl (hb1.seg.obj hx).parents ?_))))))))
      rw [show (be 1 x.kind.toNat ++ be 1 x.style.toNat ++ x.tree ++ be 1 x.parents.length).length = (be 1 x.kind.toNat ++ be 1 x.style.toNat ++ x.tree ++ be 1 x.parents.length ++ (x.parents.take 0).flatten).length from by simp]
      refine wl_p I_ok rfl (wl_nil (f_then (c_block ?_)))
      refine c_loopK (α := Nat × Option Addr × Nat) [1, 67, 68] rfl (fun z => [(3, .slice z.2.1 (be 1 x.kind.toNat ++ be 1 x.style.toNat ++ x.tree ++ be 1 x.parents.length ++ (x.parents.take z.1).flatten).length z.2.2), (69, .int .i64 (z.1 : Int))]) (fun z u => (z.1 ≤ x.parents.length ∧ Own u z.2.1 (be 1 x.kind.toNat ++ be 1 x.style.toNat ++ x.tree ++ be 1 x.parents.length ++ (x.parents.take z.1).flatten).length z.2.2 5 1 (bytesU (be 1 x.kind.toNat ++ be 1 x.style.toNat ++ x.tree ++ be 1 x.parents.length ++ (x.parents.take z.1).flatten)) ∧ ∀ y, OwnB z.2.1 y → w.heap.size ≤ y) ∧ Blk u b1 33 (objC x a) ∧ Ext No w u) (fun z u => x.parents.length - z.1) (0, q, k) rfl ⟨⟨Nat.zero_le _, by simpa using hO, hOn⟩, hb1, hX⟩ ?_
      rintro ⟨i, q, k⟩ w20 ⟨⟨hi, hO, hOn⟩, hb1, hX⟩
      try dsimp only
      dsimp only at hi hO hOn
      refine c_seq (c_region (wl_p I_ok rfl (wl_nil (f_then (c_seq (c_if rfl (fun hc => ?_) (fun hc => ?_)))))))
      · have hi : i < x.parents.length := by omega
        obtain ⟨qb, qoff, hp, hsq⟩ := hxl.parents.rowAll (fun r hr => IdIn.len (hx.parents r hr)) (by omega)
        rw [hp]
        have ha1 : IdIn x.parents[i] := hx.parents _ (List.getElem_mem hi)
        have ha3 : x.parents[i].length = 32 := ha1
        have hfl := flatten_in hx.parents i
        rw [List.length_take, Nat.min_eq_left (by omega)] at hfl
        refine c_skip (f_then (c_seq (c_block (c_seq (c_region (wl (st_ix I_ok rfl 32 rfl i rfl (by omega) (qoff + i * 32) rfl (wl (st_ldN I_ok rfl ((hsq i hi).extNo hX) ha1.len (wl (st_al I_ok rfl fun b7 w21 hn7 hb7 hE21 => ?_)))))))))))
        have ne1_7 : b1 ≠ b7 := Nat.ne_of_lt (Nat.lt_of_lt_of_le hb1.lt hn7)
        have fr7 := Nat.le_trans hX.size hn7
        have hb1 := hb1.extNo hE21
        have hO := hO.ext hE21 fun _ _ => id
        have hX := hX.thenNo hE21
        have hb7o := hb7
        refine wl (st_stW (l' := bytesU x.parents[i]) I_ok hb7 rfl rfl ha1.len ha1.len OneC.h fun w22 hb7 hE22 hs22 => ?_)
        have hb1 := hb1.ext1 hE22 ne1_7
        have hO := hO.extTy hE22 hb7o (by decide)
        have hX := hX.thenNew hE22 fr7
        refine wl_nil (f_then (c_region (wl_p I_ok rfl (wl (st_sa I_ok rfl 0 32 32 1 rfl ⟨.inr ⟨rfl, rfl⟩, .inr ⟨rfl, rfl⟩, .inr ⟨rfl, rfl⟩, by decide, by decide, by decide⟩ ?_)))))
        rw [slBase_zero, Nat.sub_zero]
        have hX0 := hX
        refine wl (st_app I_ok rfl 1 1 rfl rfl rfl (by decide) hO (Src.slice (m := 32) ⟨IdIn.len ha1, .inr ⟨b7, 0, rfl, hb7.seg⟩⟩ OneC.h) (by dsimp only [maxLen]; simp only [List.length_append, be_len]; omega) (by dsimp only; simp only [List.length_append, be_len]; omega) fun p23 c23 w23 ho23 hE23 hB23 => ?_)
        dsimp only at ho23 hE23 hB23 ⊢
        have hb1 := hb1.extOwn hO hE23 (show (5 : Nat) ≠ 33 from by decide)
        have hX := hX0.trans hE23 fun y hy hF => by have := hOn y hF; omega
        have hOn2 := newW hX0 hOn hB23
        have e3 : (be 1 x.kind.toNat ++ be 1 x.style.toNat ++ x.tree ++ be 1 x.parents.length ++ (x.parents.take i).flatten).length + 32 = (be 1 x.kind.toNat ++ be 1 x.style.toNat ++ x.tree ++ be 1 x.parents.length ++ (x.parents.take i).flatten ++ x.parents[i]).length := by simp only [List.length_append, be_len] <;> omega
        obtain ⟨q, k, e1, e2, hO2⟩ : ∃ q k, q = p23 ∧ k = c23 ∧ Own w23 q (be 1 x.kind.toNat ++ be 1 x.style.toNat ++ x.tree ++ be 1 x.parents.length ++ (x.parents.take i).flatten ++ x.parents[i]).length k 5 1 (bytesU (be 1 x.kind.toNat ++ be 1 x.style.toNat ++ x.tree ++ be 1 x.parents.length ++ (x.parents.take i).flatten ++ x.parents[i])) := ⟨_, _, rfl, rfl, by
          rw [← e3, bytesU_append (be 1 x.kind.toNat ++ be 1 x.style.toNat ++ x.tree ++ be 1 x.parents.length ++ (x.parents.take i).flatten)]
          exact ho23⟩
        rw [← e1] at hOn2 hB23
        have hO := hO2
        have hOn := hOn2
        rw [← e1, ← e2, e3]
        refine wl_p I_ok rfl (wl_nil (f_blockN (f_then (c_region (wl_p I_ok rfl ?_)))))
        rw [IntWalk.i64_in _ (by omega)]
        refine wl_nil ?_
        exact f_round (i + 1, q, k) (by rw [show be 1 x.kind.toNat ++ be 1 x.style.toNat ++ x.tree ++ be 1 x.parents.length ++ (x.parents.take (i + 1)).flatten = be 1 x.kind.toNat ++ be 1 x.style.toNat ++ x.tree ++ be 1 x.parents.length ++ (x.parents.take i).flatten ++ x.parents[i] from by rw [flatten_take hi]; simp]; rfl) ⟨⟨hi, by rw [show be 1 x.kind.toNat ++ be 1 x.style.toNat ++ x.tree ++ be 1 x.parents.length ++ (x.parents.take (i + 1)).flatten = be 1 x.kind.toNat ++ be 1 x.style.toNat ++ x.tree ++ be 1 x.parents.length ++ (x.parents.take i).flatten ++ x.parents[i] from by rw [flatten_take hi]; simp]; exact hO, hOn⟩, hb1, hX⟩ (by first | omega | (dsimp only; omega))
      · have h0 : i = x.parents.length := by omega
        subst h0
        rw [List.take_length] at hO ⊢
        refine c_exit (f_thenE (f_thenE (f_blockE (f_then ?_))))
        refine c_cutK (α := Option Addr × Nat) [1] rfl (fun z => [(3, .slice z.1 (be 1 x.kind.toNat ++ be 1 x.style.toNat ++ x.tree ++ be 1 x.parents.length ++ x.parents.flatten ++ x.base ++ be 1 x.rows.length).length z.2)]) (fun z u => (Own u z.1 (be 1 x.kind.toNat ++ be 1 x.style.toNat ++ x.tree ++ be 1 x.parents.length ++ x.parents.flatten ++ x.base ++ be 1 x.rows.length).length z.2 5 1 (bytesU (be 1 x.kind.toNat ++ be 1 x.style.toNat ++ x.tree ++ be 1 x.parents.length ++ x.parents.flatten ++ x.base ++ be 1 x.rows.length)) ∧ ∀ y, OwnB z.1 y → w.heap.size ≤ y) ∧ Blk u b1 33 (objC x a) ∧ Ext No w u) ?_ ?_
        · refine c_drawX rfl 12 12 [] (OwnB q) (by kernel_rfl) fun w24 hE24 hs24 => ?_
          have hd1 := hb1
          have hOd := hO
          have hXd := hX
          have hb1 := hb1.extNo hE24
          have hO := hO.ext hE24 fun _ _ => id
          have hX := hX.thenNo hE24
          have hC : Ext (OwnB q) _ w24 := hE24.no
          have hqs : ∀ y, OwnB q y → OwnB q y ∨ w20.heap.size ≤ y := fun y h => .inl h
          have hOl : ∀ y, OwnB q y → y < w20.heap.size := fun y h => hOd.lt h
          refine wx_plan [(0, true), (1, true), (2, true), (4, true), (5, true), (6, true), (7, true), (8, true)] 4 rfl (by kernel_rfl) (wd_k I_ok 2 rfl ?_)
          refine wd_sa I_ok rfl rfl 0 32 32 1 rfl ⟨.inr ⟨rfl, rfl⟩, .inr ⟨rfl, rfl⟩, .inr ⟨rfl, rfl⟩, by decide, by decide, by decide⟩ ?_
          rw [slBase_zero, Nat.sub_zero]
          refine wd_k I_ok 2 rfl (wd_ld I_ok rfl rfl (fun w' hw' => ((hd1.ext (show Ext (OwnB q) _ w' from hw') fun hx' => hOd.neTy hx' hd1 (by decide) rfl).seg.obj hx).rows) ?_)
          refine wd_k I_ok 2 rfl ?_
          rw [wrap_byte]
          refine wd_tail rfl (wx_alt [3, 9] rfl (by kernel_rfl) ⟨⟨_, rfl, ?_⟩, ⟨_, rfl, ?_⟩, trivial⟩)
          · have hX0 := hX
            have hC0 := hC
            refine st_app I_ok rfl 1 1 rfl rfl rfl (by decide) hO (Src.slice (m := 32) ⟨IdIn.len hx.base, .inr ⟨b1, 0 + 36, rfl, (hb1.seg.obj hx).base⟩⟩ OneC.h) (by dsimp only [maxLen]; simp only [List.length_append, be_len]; omega) (by dsimp only; simp only [List.length_append, be_len]; omega) fun p25 c25 w25 ho25 hE25 hB25 => ⟨hC.trans hE25 (fun y hy hF => (hqs y hF).elim id (fun h => absurd hy (Nat.not_lt.2 h))), ?_⟩
            have hC := hC.trans hE25 (fun y hy hF => (hqs y hF).elim id (fun h => absurd hy (Nat.not_lt.2 h)))
            dsimp only at ho25 hE25 hB25 ⊢
            have hb1 := hb1.extOwn hO hE25 (show (5 : Nat) ≠ 33 from by decide)
            try have hb86 := hb86.ext hE25 (fun hx => by have := hOl _ hx; omega)
            have hX := hX0.trans hE25 fun y hy hF => by have := hOn y hF; omega
            have hOn2 := newW hX0 hOn hB25
            have e3 : (be 1 x.kind.toNat ++ be 1 x.style.toNat ++ x.tree ++ be 1 x.parents.length ++ x.parents.flatten).length + 32 = (be 1 x.kind.toNat ++ be 1 x.style.toNat ++ x.tree ++ be 1 x.parents.length ++ x.parents.flatten ++ x.base).length := by simp only [List.length_append, be_len] <;> omega
            obtain ⟨q, k, e1, e2, hO2⟩ : ∃ q k, q = p25 ∧ k = c25 ∧ Own w25 q (be 1 x.kind.toNat ++ be 1 x.style.toNat ++ x.tree ++ be 1 x.parents.length ++ x.parents.flatten ++ x.base).length k 5 1 (bytesU (be 1 x.kind.toNat ++ be 1 x.style.toNat ++ x.tree ++ be 1 x.parents.length ++ x.parents.flatten ++ x.base)) := ⟨_, _, rfl, rfl, by
              rw [← e3, bytesU_append (be 1 x.kind.toNat ++ be 1 x.style.toNat ++ x.tree ++ be 1 x.parents.length ++ x.parents.flatten)]
              exact ho25⟩
            rw [← e1] at hOn2 hB25
            have hqs := fun y hy => (hB25 y hy).elim (hqs y) fun h => .inr (Nat.le_trans hC0.size h)
            have hO := hO2
            have hOn := hOn2
            rw [← e1, ← e2, e3]
            refine wx_plan [(9, false), (10, false), (11, true)] 0 rfl (by kernel_rfl) ?_
            refine wd_l rfl (st_bs I_ok rfl 1 rfl rfl rfl (by decide) (by decide) (by simp [partsOk]) (l' := bytesU [UInt8.ofNat x.rows.length]) rfl fun b86 w26 hn86 hb86 hE26 hs26 => ⟨hC.thenNo hE26, ?_⟩)
            have ne1_86 : b1 ≠ b86 := Nat.ne_of_lt (Nat.lt_of_lt_of_le hb1.lt hn86)
            have fr86 := Nat.le_trans hX.size hn86
            have frhC86 := Nat.le_trans hC.size hn86
            have hb1 := hb1.extNo hE26
            have hO := hO.ext hE26 fun _ _ => id
            have hX := hX.thenNo hE26
            have hC := hC.thenNo hE26
            have hX0 := hX
            have hC0 := hC
            refine wd_l rfl (st_app I_ok rfl 1 1 rfl rfl rfl (by decide) hO (Src.slice (m := 1) ⟨rfl, .inr ⟨b86, 0, rfl, hb86.seg⟩⟩ OneC.h) (by dsimp only [maxLen]; simp only [List.length_append, be_len]; omega) (by dsimp only; simp only [List.length_append, be_len]; omega) fun p27 c27 w27 ho27 hE27 hB27 => ⟨hC.trans hE27 (fun y hy hF => (hqs y hF).elim id (fun h => absurd hy (Nat.not_lt.2 h))), ?_⟩)
            have hC := hC.trans hE27 (fun y hy hF => (hqs y hF).elim id (fun h => absurd hy (Nat.not_lt.2 h)))
            dsimp only at ho27 hE27 hB27 ⊢
            have hb1 := hb1.extOwn hO hE27 (show (5 : Nat) ≠ 33 from by decide)
            have hX := hX0.trans hE27 fun y hy hF => by have := hOn y hF; omega
            have hOn2 := newW hX0 hOn hB27
            have e3 : (be 1 x.kind.toNat ++ be 1 x.style.toNat ++ x.tree ++ be 1 x.parents.length ++ x.parents.flatten ++ x.base).length + 1 = (be 1 x.kind.toNat ++ be 1 x.style.toNat ++ x.tree ++ be 1 x.parents.length ++ x.parents.flatten ++ x.base ++ be 1 x.rows.length).length := by simp only [List.length_append, be_len] <;> omega
            obtain ⟨q, k, e1, e2, hO2⟩ : ∃ q k, q = p27 ∧ k = c27 ∧ Own w27 q (be 1 x.kind.toNat ++ be 1 x.style.toNat ++ x.tree ++ be 1 x.parents.length ++ x.parents.flatten ++ x.base ++ be 1 x.rows.length).length k 5 1 (bytesU (be 1 x.kind.toNat ++ be 1 x.style.toNat ++ x.tree ++ be 1 x.parents.length ++ x.parents.flatten ++ x.base ++ be 1 x.rows.length)) := ⟨_, _, rfl, rfl, by
              rw [← e3, bytesU_append (be 1 x.kind.toNat ++ be 1 x.style.toNat ++ x.tree ++ be 1 x.parents.length ++ x.parents.flatten ++ x.base)]
              exact ho27⟩
            rw [← e1] at hOn2 hB27
            have hqs := fun y hy => (hB27 y hy).elim (hqs y) fun h => .inr (Nat.le_trans hC0.size h)
            have hO := hO2
            have hOn := hOn2
            rw [← e1, ← e2, e3]
            refine wd_k I_ok 1 rfl (wd_sw (wb_nil ?_))
            exact f_cut (q, k) rfl ⟨⟨hO, hOn⟩, hb1, hX⟩
          · refine st_bs I_ok rfl 1 rfl rfl rfl (by decide) (by decide) (by simp [partsOk]) (l' := bytesU [UInt8.ofNat x.rows.length]) rfl fun b86 w28 hn86 hb86 hE28 hs28 => ⟨hC.thenNo hE28, ?_⟩
            have ne1_86 : b1 ≠ b86 := Nat.ne_of_lt (Nat.lt_of_lt_of_le hb1.lt hn86)
            have fr86 := Nat.le_trans hX.size hn86
            have frhC86 := Nat.le_trans hC.size hn86
            have hb1 := hb1.extNo hE28
            have hO := hO.ext hE28 fun _ _ => id
            have hX := hX.thenNo hE28
            have hC := hC.thenNo hE28
            refine wx_plan [(3, false), (10, false), (11, true)] 0 rfl (by kernel_rfl) ?_
            have hX0 := hX
            have hC0 := hC
            refine wd_l rfl (st_app I_ok rfl 1 1 rfl rfl rfl (by decide) hO (Src.slice (m := 32) ⟨IdIn.len hx.base, .inr ⟨b1, 0 + 36, rfl, (hb1.seg.obj hx).base⟩⟩ OneC.h) (by dsimp only [maxLen]; simp only [List.length_append, be_len]; omega) (by dsimp only; simp only [List.length_append, be_len]; omega) fun p29 c29 w29 ho29 hE29 hB29 => ⟨hC.trans hE29 (fun y hy hF => (hqs y hF).elim id (fun h => absurd hy (Nat.not_lt.2 h))), ?_⟩)
            have hC := hC.trans hE29 (fun y hy hF => (hqs y hF).elim id (fun h => absurd hy (Nat.not_lt.2 h)))
            dsimp only at ho29 hE29 hB29 ⊢
            have hb1 := hb1.extOwn hO hE29 (show (5 : Nat) ≠ 33 from by decide)
            try have hb86 := hb86.ext hE29 (fun hx => by have := hOl _ hx; omega)
            have hX := hX0.trans hE29 fun y hy hF => by have := hOn y hF; omega
            have hOn2 := newW hX0 hOn hB29
            have e3 : (be 1 x.kind.toNat ++ be 1 x.style.toNat ++ x.tree ++ be 1 x.parents.length ++ x.parents.flatten).length + 32 = (be 1 x.kind.toNat ++ be 1 x.style.toNat ++ x.tree ++ be 1 x.parents.length ++ x.parents.flatten ++ x.base).length := by simp only [List.length_append, be_len] <;> omega
            obtain ⟨q, k, e1, e2, hO2⟩ : ∃ q k, q = p29 ∧ k = c29 ∧ Own w29 q (be 1 x.kind.toNat ++ be 1 x.style.toNat ++ x.tree ++ be 1 x.parents.length ++ x.parents.flatten ++ x.base).length k 5 1 (bytesU (be 1 x.kind.toNat ++ be 1 x.style.toNat ++ x.tree ++ be 1 x.parents.length ++ x.parents.flatten ++ x.base)) := ⟨_, _, rfl, rfl, by
              rw [← e3, bytesU_append (be 1 x.kind.toNat ++ be 1 x.style.toNat ++ x.tree ++ be 1 x.parents.length ++ x.parents.flatten)]
              exact ho29⟩
            rw [← e1] at hOn2 hB29
            have hqs := fun y hy => (hB29 y hy).elim (hqs y) fun h => .inr (Nat.le_trans hC0.size h)
            have hO := hO2
            have hOn := hOn2
            rw [← e1, ← e2, e3]
            have hX0 := hX
            have hC0 := hC
            refine wd_l rfl (st_app I_ok rfl 1 1 rfl rfl rfl (by decide) hO (Src.slice (m := 1) ⟨rfl, .inr ⟨b86, 0, rfl, hb86.seg⟩⟩ OneC.h) (by dsimp only [maxLen]; simp only [List.length_append, be_len]; omega) (by dsimp only; simp only [List.length_append, be_len]; omega) fun p30 c30 w30 ho30 hE30 hB30 => ⟨hC.trans hE30 (fun y hy hF => (hqs y hF).elim id (fun h => absurd hy (Nat.not_lt.2 h))), ?_⟩)
            have hC := hC.trans hE30 (fun y hy hF => (hqs y hF).elim id (fun h => absurd hy (Nat.not_lt.2 h)))
            dsimp only at ho30 hE30 hB30 ⊢
            have hb1 := hb1.extOwn hO hE30 (show (5 : Nat) ≠ 33 from by decide)
            have hX := hX0.trans hE30 fun y hy hF => by have := hOn y hF; omega
            have hOn2 := newW hX0 hOn hB30
            have e3 : (be 1 x.kind.toNat ++ be 1 x.style.toNat ++ x.tree ++ be 1 x.parents.length ++ x.parents.flatten ++ x.base).length + 1 = (be 1 x.kind.toNat ++ be 1 x.style.toNat ++ x.tree ++ be 1 x.parents.length ++ x.parents.flatten ++ x.base ++ be 1 x.rows.length).length := by simp only [List.length_append, be_len] <;> omega
            obtain ⟨q, k, e1, e2, hO2⟩ : ∃ q k, q = p30 ∧ k = c30 ∧ Own w30 q (be 1 x.kind.toNat ++ be 1 x.style.toNat ++ x.tree ++ be 1 x.parents.length ++ x.parents.flatten ++ x.base ++ be 1 x.rows.length).length k 5 1 (bytesU (be 1 x.kind.toNat ++ be 1 x.style.toNat ++ x.tree ++ be 1 x.parents.length ++ x.parents.flatten ++ x.base ++ be 1 x.rows.length)) := ⟨_, _, rfl, rfl, by
              rw [← e3, bytesU_append (be 1 x.kind.toNat ++ be 1 x.style.toNat ++ x.tree ++ be 1 x.parents.length ++ x.parents.flatten ++ x.base)]
              exact ho30⟩
            rw [← e1] at hOn2 hB30
            have hqs := fun y hy => (hB30 y hy).elim (hqs y) fun h => .inr (Nat.le_trans hC0.size h)
            have hO := hO2
            have hOn := hOn2
            rw [← e1, ← e2, e3]
            refine wd_k I_ok 1 rfl (wd_sw (wb_nil ?_))
            exact f_cut (q, k) rfl ⟨⟨hO, hOn⟩, hb1, hX⟩
        rintro ⟨q, k⟩ w31 ⟨⟨hO, hOn⟩, hb1, hX⟩
        try dsimp only
        dsimp only at hO hOn
        refine c_seq (c_seq (c_region (wl_p I_ok rfl (wl (st_ld I_ok rfl (hb1.seg.obj hx).rows ?_)))))
        rw [show (be 1 x.kind.toNat ++ be 1 x.style.toNat ++ x.tree ++ be 1 x.parents.length ++ x.parents.flatten ++ x.base ++ be 1 x.rows.length).length = (be 1 x.kind.toNat ++ be 1 x.style.toNat ++ x.tree ++ be 1 x.parents.length ++ x.parents.flatten ++ x.base ++ be 1 x.rows.length ++ (x.rows.take 0).flatMap chgB).length from by simp]
        refine wl_p I_ok rfl (wl_nil (f_then (c_block ?_)))
        refine c_loopK (α := Nat × Option Addr × Nat) [1, 90, 91] rfl (fun z => [(3, .slice z.2.1 (be 1 x.kind.toNat ++ be 1 x.style.toNat ++ x.tree ++ be 1 x.parents.length ++ x.parents.flatten ++ x.base ++ be 1 x.rows.length ++ (x.rows.take z.1).flatMap chgB).length z.2.2), (92, .int .i64 (z.1 : Int))]) (fun z u => (z.1 ≤ x.rows.length ∧ Own u z.2.1 (be 1 x.kind.toNat ++ be 1 x.style.toNat ++ x.tree ++ be 1 x.parents.length ++ x.parents.flatten ++ x.base ++ be 1 x.rows.length ++ (x.rows.take z.1).flatMap chgB).length z.2.2 5 1 (bytesU (be 1 x.kind.toNat ++ be 1 x.style.toNat ++ x.tree ++ be 1 x.parents.length ++ x.parents.flatten ++ x.base ++ be 1 x.rows.length ++ (x.rows.take z.1).flatMap chgB)) ∧ ∀ y, OwnB z.2.1 y → w.heap.size ≤ y) ∧ Blk u b1 33 (objC x a) ∧ Ext No w u) (fun z u => x.rows.length - z.1) (0, q, k) rfl ⟨⟨Nat.zero_le _, by simpa using hO, hOn⟩, hb1, hX⟩ ?_
        rintro ⟨i, q, k⟩ w32 ⟨⟨hi, hO, hOn⟩, hb1, hX⟩
        try dsimp only
        dsimp only at hi hO hOn
        refine c_seq (c_region (wl_p I_ok rfl (wl_nil (f_then (c_seq (c_if rfl (fun hc => ?_) (fun hc => ?_)))))))
        · have hi : i < x.rows.length := by omega
          obtain ⟨qb, qoff, hp, hsq⟩ := hxl.rows.rowAll (fun r _ => r.len) (by omega)
          rw [hp]
          have ha2 := hp48 _ (List.getElem_mem hi)
          have hfl : ((x.rows.take i).flatMap chgB).length ≤ (x.rows.take i).length * 400 := flat_le fun r hr => chgB_le (hp48 r (List.mem_of_mem_take hr))
          rw [List.length_take, Nat.min_eq_left (by omega)] at hfl
          refine c_skip (f_then ?_)
          refine c_cutK (α := Option Addr × Nat) [1, 90, 91, 92] rfl (fun z => [(3, .slice z.1 (be 1 x.kind.toNat ++ be 1 x.style.toNat ++ x.tree ++ be 1 x.parents.length ++ x.parents.flatten ++ x.base ++ be 1 x.rows.length ++ (x.rows.take i).flatMap chgB ++ strB 1 (x.rows[i]).path ++ [isB (x.rows[i]).is] ++ strB 2 (x.rows[i]).text).length z.2)]) (fun z u => (Own u z.1 (be 1 x.kind.toNat ++ be 1 x.style.toNat ++ x.tree ++ be 1 x.parents.length ++ x.parents.flatten ++ x.base ++ be 1 x.rows.length ++ (x.rows.take i).flatMap chgB ++ strB 1 (x.rows[i]).path ++ [isB (x.rows[i]).is] ++ strB 2 (x.rows[i]).text).length z.2 5 1 (bytesU (be 1 x.kind.toNat ++ be 1 x.style.toNat ++ x.tree ++ be 1 x.parents.length ++ x.parents.flatten ++ x.base ++ be 1 x.rows.length ++ (x.rows.take i).flatMap chgB ++ strB 1 (x.rows[i]).path ++ [isB (x.rows[i]).is] ++ strB 2 (x.rows[i]).text)) ∧ ∀ y, OwnB z.1 y → w.heap.size ≤ y) ∧ Blk u b1 33 (objC x a) ∧ Ext No w u) ?_ ?_
          · refine c_block ?_
            refine c_seq (c_region (wl (st_ix I_ok rfl 3 rfl i rfl (by omega) (qoff + i * 3) rfl (wl (st_ldN I_ok rfl ((hsq i hi).extNo hX) rfl (wl (st_al I_ok rfl fun b9 w33 hn9 hb9 hE33 => ?_)))))))
            have ne1_9 : b1 ≠ b9 := Nat.ne_of_lt (Nat.lt_of_lt_of_le hb1.lt hn9)
            have fr9 := Nat.le_trans hX.size hn9
            have hb1 := hb1.extNo hE33
            have hO := hO.ext hE33 fun _ _ => id
            have hX := hX.thenNo hE33
            have hb9o := hb9
            refine wl (st_stW (l' := (x.rows[i]).cells) I_ok hb9 rfl rfl rfl rfl OneC.h fun w34 hb9 hE34 hs34 => ?_)
            have hb1 := hb1.ext1 hE34 ne1_9
            have hO := hO.extTy hE34 hb9o (by decide)
            have hX := hX.thenNew hE34 fr9
            refine wl_nil (f_then (c_seq (c_region (wl_p I_ok rfl (wl_nil (f_then (c_cutK (α := UInt8) [1, 3, 9, 90, 91, 92] rfl (fun z => [(10, .int .u8 (z.toNat : Int))]) (fun z u => u = w34 ∧ z = isB (x.rows[i]).is) ?_ ?_)))))))
            · refine c_seq ?_
              refine c_region (wl_p I_ok rfl (wl (st_ldb I_ok hb9 rfl rfl (wl_nil (f_then (c_cond rfl (fun hc => ?_) (fun hc => ?_)))))))
              · have his : isB (x.rows[i]).is = 1 := by rw [isB, hc]; rfl
                refine c_region (wl_p I_ok rfl (wl_nil ?_))
                exact f_cut (1) rfl ⟨rfl, his.symm⟩
              · have his : isB (x.rows[i]).is = 0 := by rw [isB, hc]; rfl
                refine c_skip ?_
                exact f_cut (0) rfl ⟨rfl, his.symm⟩
            rintro z w35 ⟨hu, rfl⟩
            have hu := hu.symm
            subst hu
            refine c_drawX rfl 13 13 [] (OwnB q) (by kernel_rfl) fun w36 hE36 hs36 => ?_
            have hd1 := hb1
            have hd9 := hb9
            have hOd := hO
            have hXd := hX
            have hb1 := hb1.extNo hE36
            have hb9 := hb9.extNo hE36
            have hO := hO.ext hE36 fun _ _ => id
            have hX := hX.thenNo hE36
            have hC : Ext (OwnB q) _ w36 := hE36.no
            have hqs : ∀ y, OwnB q y → OwnB q y ∨ w34.heap.size ≤ y := fun y h => .inl h
            have hOl : ∀ y, OwnB q y → y < w34.heap.size := fun y h => hOd.lt h
            refine wx_plan [(0, true), (1, true), (2, true), (5, true), (8, true), (9, true)] 7 rfl (by kernel_rfl) (wd_k I_ok 2 rfl ?_)
            refine wd_ld I_ok rfl rfl (fun w' hw' => ((hd9.ext (show Ext (OwnB q) _ w' from hw') fun hx' => hOd.neTy hx' hd9 (by decide) rfl).cell rfl)) ?_
            refine wd_k I_ok 2 rfl (wd_ld I_ok rfl rfl (fun w' hw' => ((hd9.ext (show Ext (OwnB q) _ w' from hw') fun hx' => hOd.neTy hx' hd9 (by decide) rfl).cell rfl)) ?_)
            refine wd_tail rfl (wx_alt [3, 6] rfl (by kernel_rfl) ⟨⟨_, rfl, ?_⟩, ⟨_, rfl, ?_⟩, trivial⟩)
            · refine st_call Tryd.call37 rfl rfl rfl rfl rfl rfl (some6_calls w36 (x.rows[i]).path 1 (by decide) (by omega)) fun v37 w37 hr37 => ⟨(by obtain ⟨qp, kp, rfl, hqp, hqpn, hE37⟩ := hr37; exact hC.thenNo hE37), ?_⟩
              obtain ⟨qp, kp, rfl, hqp, hqpn, hE37⟩ := hr37
              have hb1 := hb1.extNo hE37
              have hb9 := hb9.extNo hE37
              have hO := hO.ext hE37 fun _ _ => id
              have hX := hX.thenNo hE37
              have hC := hC.thenNo hE37
              refine wx_plan [] 6 rfl (by kernel_rfl) (wd_tail rfl (wx_alt [4, 6] rfl (by kernel_rfl) ⟨⟨_, rfl, ?_⟩, ⟨_, rfl, ?_⟩, trivial⟩))
              · have hX0 := hX
                have hC0 := hC
                refine st_app I_ok rfl 1 1 rfl rfl rfl (by decide) hO (Src.slice hqp.sl OneC.h) (by dsimp only [maxLen]; simp only [List.length_append, be_len, strB_len]; omega) (by dsimp only; simp only [List.length_append, be_len, strB_len]; omega) fun p38 c38 w38 ho38 hE38 hB38 => ⟨hC.trans hE38 (fun y hy hF => (hqs y hF).elim id (fun h => absurd hy (Nat.not_lt.2 h))), ?_⟩
                have hC := hC.trans hE38 (fun y hy hF => (hqs y hF).elim id (fun h => absurd hy (Nat.not_lt.2 h)))
                dsimp only at ho38 hE38 hB38 ⊢
                have hb1 := hb1.extOwn hO hE38 (show (5 : Nat) ≠ 33 from by decide)
                have hb9 := hb9.extOwn hO hE38 (show (5 : Nat) ≠ 82 from by decide)
                try have hb104 := hb104.ext hE38 (fun hx => by have := hOl _ hx; omega)
                have hX := hX0.trans hE38 fun y hy hF => by have := hOn y hF; omega
                have hOn2 := newW hX0 hOn hB38
                have e3 : (be 1 x.kind.toNat ++ be 1 x.style.toNat ++ x.tree ++ be 1 x.parents.length ++ x.parents.flatten ++ x.base ++ be 1 x.rows.length ++ (x.rows.take i).flatMap chgB).length + (strB 1 (x.rows[i]).path).length = (be 1 x.kind.toNat ++ be 1 x.style.toNat ++ x.tree ++ be 1 x.parents.length ++ x.parents.flatten ++ x.base ++ be 1 x.rows.length ++ (x.rows.take i).flatMap chgB ++ strB 1 (x.rows[i]).path).length := by simp only [List.length_append, be_len, strB_len] <;> omega
                obtain ⟨q, k, e1, e2, hO2⟩ : ∃ q k, q = p38 ∧ k = c38 ∧ Own w38 q (be 1 x.kind.toNat ++ be 1 x.style.toNat ++ x.tree ++ be 1 x.parents.length ++ x.parents.flatten ++ x.base ++ be 1 x.rows.length ++ (x.rows.take i).flatMap chgB ++ strB 1 (x.rows[i]).path).length k 5 1 (bytesU (be 1 x.kind.toNat ++ be 1 x.style.toNat ++ x.tree ++ be 1 x.parents.length ++ x.parents.flatten ++ x.base ++ be 1 x.rows.length ++ (x.rows.take i).flatMap chgB ++ strB 1 (x.rows[i]).path)) := ⟨_, _, rfl, rfl, by
                  rw [← e3, bytesU_append (be 1 x.kind.toNat ++ be 1 x.style.toNat ++ x.tree ++ be 1 x.parents.length ++ x.parents.flatten ++ x.base ++ be 1 x.rows.length ++ (x.rows.take i).flatMap chgB)]
                  exact ho38⟩
                rw [← e1] at hOn2 hB38
                have hqs := fun y hy => (hB38 y hy).elim (hqs y) fun h => .inr (Nat.le_trans hC0.size h)
                have hO := hO2
                have hOn := hOn2
                rw [← e1, ← e2, e3]
                refine wx_plan [(6, false), (7, false), (10, false), (11, false), (12, true)] 0 rfl (by kernel_rfl) ?_
                refine wd_l rfl (st_bs I_ok rfl 1 rfl rfl rfl (by decide) (by decide) (by simp [partsOk]) (l' := bytesU [isB (x.rows[i]).is]) rfl fun b104 w39 hn104 hb104 hE39 hs39 => ⟨hC.thenNo hE39, ?_⟩)
                have ne1_104 : b1 ≠ b104 := Nat.ne_of_lt (Nat.lt_of_lt_of_le hb1.lt hn104)
                have ne9_104 : b9 ≠ b104 := Nat.ne_of_lt (Nat.lt_of_lt_of_le hb9.lt hn104)
                have fr104 := Nat.le_trans hX.size hn104
                have frhC104 := Nat.le_trans hC.size hn104
                have hb1 := hb1.extNo hE39
                have hb9 := hb9.extNo hE39
                have hO := hO.ext hE39 fun _ _ => id
                have hX := hX.thenNo hE39
                have hC := hC.thenNo hE39
                have hX0 := hX
                have hC0 := hC
                refine wd_l rfl (st_app I_ok rfl 1 1 rfl rfl rfl (by decide) hO (Src.slice (m := 1) ⟨rfl, .inr ⟨b104, 0, rfl, hb104.seg⟩⟩ OneC.h) (by dsimp only [maxLen]; simp only [List.length_append, be_len, strB_len]; omega) (by dsimp only; simp only [List.length_append, be_len, strB_len]; omega) fun p40 c40 w40 ho40 hE40 hB40 => ⟨hC.trans hE40 (fun y hy hF => (hqs y hF).elim id (fun h => absurd hy (Nat.not_lt.2 h))), ?_⟩)
                have hC := hC.trans hE40 (fun y hy hF => (hqs y hF).elim id (fun h => absurd hy (Nat.not_lt.2 h)))
                dsimp only at ho40 hE40 hB40 ⊢
                have hb1 := hb1.extOwn hO hE40 (show (5 : Nat) ≠ 33 from by decide)
                have hb9 := hb9.extOwn hO hE40 (show (5 : Nat) ≠ 82 from by decide)
                have hX := hX0.trans hE40 fun y hy hF => by have := hOn y hF; omega
                have hOn2 := newW hX0 hOn hB40
                have e3 : (be 1 x.kind.toNat ++ be 1 x.style.toNat ++ x.tree ++ be 1 x.parents.length ++ x.parents.flatten ++ x.base ++ be 1 x.rows.length ++ (x.rows.take i).flatMap chgB ++ strB 1 (x.rows[i]).path).length + 1 = (be 1 x.kind.toNat ++ be 1 x.style.toNat ++ x.tree ++ be 1 x.parents.length ++ x.parents.flatten ++ x.base ++ be 1 x.rows.length ++ (x.rows.take i).flatMap chgB ++ strB 1 (x.rows[i]).path ++ [isB (x.rows[i]).is]).length := by simp only [List.length_append, be_len, strB_len, List.length_cons, List.length_nil] <;> omega
                obtain ⟨q, k, e1, e2, hO2⟩ : ∃ q k, q = p40 ∧ k = c40 ∧ Own w40 q (be 1 x.kind.toNat ++ be 1 x.style.toNat ++ x.tree ++ be 1 x.parents.length ++ x.parents.flatten ++ x.base ++ be 1 x.rows.length ++ (x.rows.take i).flatMap chgB ++ strB 1 (x.rows[i]).path ++ [isB (x.rows[i]).is]).length k 5 1 (bytesU (be 1 x.kind.toNat ++ be 1 x.style.toNat ++ x.tree ++ be 1 x.parents.length ++ x.parents.flatten ++ x.base ++ be 1 x.rows.length ++ (x.rows.take i).flatMap chgB ++ strB 1 (x.rows[i]).path ++ [isB (x.rows[i]).is])) := ⟨_, _, rfl, rfl, by
                  rw [← e3, bytesU_append (be 1 x.kind.toNat ++ be 1 x.style.toNat ++ x.tree ++ be 1 x.parents.length ++ x.parents.flatten ++ x.base ++ be 1 x.rows.length ++ (x.rows.take i).flatMap chgB ++ strB 1 (x.rows[i]).path)]
                  exact ho40⟩
                rw [← e1] at hOn2 hB40
                have hqs := fun y hy => (hB40 y hy).elim (hqs y) fun h => .inr (Nat.le_trans hC0.size h)
                have hO := hO2
                have hOn := hOn2
                rw [← e1, ← e2, e3]
                refine wd_l rfl (st_call Tryd.call37 rfl rfl rfl rfl rfl rfl (some6_calls w40 (x.rows[i]).text 2 (by decide) (by omega)) fun v41 w41 hr41 => ⟨(by obtain ⟨qt, kt, rfl, hqt, hqtn, hE41⟩ := hr41; exact hC.thenNo hE41), ?_⟩)
                obtain ⟨qt, kt, rfl, hqt, hqtn, hE41⟩ := hr41
                have hb1 := hb1.extNo hE41
                have hb9 := hb9.extNo hE41
                have hO := hO.ext hE41 fun _ _ => id
                have hX := hX.thenNo hE41
                have hC := hC.thenNo hE41
                have hX0 := hX
                have hC0 := hC
                refine wd_l rfl (st_app I_ok rfl 1 1 rfl rfl rfl (by decide) hO (Src.slice hqt.sl OneC.h) (by dsimp only [maxLen]; simp only [List.length_append, be_len, strB_len, List.length_cons, List.length_nil]; omega) (by dsimp only; simp only [List.length_append, be_len, strB_len, List.length_cons, List.length_nil]; omega) fun p42 c42 w42 ho42 hE42 hB42 => ⟨hC.trans hE42 (fun y hy hF => (hqs y hF).elim id (fun h => absurd hy (Nat.not_lt.2 h))), ?_⟩)
                have hC := hC.trans hE42 (fun y hy hF => (hqs y hF).elim id (fun h => absurd hy (Nat.not_lt.2 h)))
                dsimp only at ho42 hE42 hB42 ⊢
                have hb1 := hb1.extOwn hO hE42 (show (5 : Nat) ≠ 33 from by decide)
                have hb9 := hb9.extOwn hO hE42 (show (5 : Nat) ≠ 82 from by decide)
                have hX := hX0.trans hE42 fun y hy hF => by have := hOn y hF; omega
                have hOn2 := newW hX0 hOn hB42
                have e3 : (be 1 x.kind.toNat ++ be 1 x.style.toNat ++ x.tree ++ be 1 x.parents.length ++ x.parents.flatten ++ x.base ++ be 1 x.rows.length ++ (x.rows.take i).flatMap chgB ++ strB 1 (x.rows[i]).path ++ [isB (x.rows[i]).is]).length + (strB 2 (x.rows[i]).text).length = (be 1 x.kind.toNat ++ be 1 x.style.toNat ++ x.tree ++ be 1 x.parents.length ++ x.parents.flatten ++ x.base ++ be 1 x.rows.length ++ (x.rows.take i).flatMap chgB ++ strB 1 (x.rows[i]).path ++ [isB (x.rows[i]).is] ++ strB 2 (x.rows[i]).text).length := by simp only [List.length_append, be_len, strB_len, List.length_cons, List.length_nil] <;> omega
                obtain ⟨q, k, e1, e2, hO2⟩ : ∃ q k, q = p42 ∧ k = c42 ∧ Own w42 q (be 1 x.kind.toNat ++ be 1 x.style.toNat ++ x.tree ++ be 1 x.parents.length ++ x.parents.flatten ++ x.base ++ be 1 x.rows.length ++ (x.rows.take i).flatMap chgB ++ strB 1 (x.rows[i]).path ++ [isB (x.rows[i]).is] ++ strB 2 (x.rows[i]).text).length k 5 1 (bytesU (be 1 x.kind.toNat ++ be 1 x.style.toNat ++ x.tree ++ be 1 x.parents.length ++ x.parents.flatten ++ x.base ++ be 1 x.rows.length ++ (x.rows.take i).flatMap chgB ++ strB 1 (x.rows[i]).path ++ [isB (x.rows[i]).is] ++ strB 2 (x.rows[i]).text)) := ⟨_, _, rfl, rfl, by
                  rw [← e3, bytesU_append (be 1 x.kind.toNat ++ be 1 x.style.toNat ++ x.tree ++ be 1 x.parents.length ++ x.parents.flatten ++ x.base ++ be 1 x.rows.length ++ (x.rows.take i).flatMap chgB ++ strB 1 (x.rows[i]).path ++ [isB (x.rows[i]).is])]
                  exact ho42⟩
                rw [← e1] at hOn2 hB42
                have hqs := fun y hy => (hB42 y hy).elim (hqs y) fun h => .inr (Nat.le_trans hC0.size h)
                have hO := hO2
                have hOn := hOn2
                rw [← e1, ← e2, e3]
                refine wd_k I_ok 1 rfl (wd_sw (wb_nil ?_))
                exact f_blockN (f_cut (q, k) rfl ⟨⟨hO, hOn⟩, hb1, hX⟩)
              · refine st_bs I_ok rfl 1 rfl rfl rfl (by decide) (by decide) (by simp [partsOk]) (l' := bytesU [isB (x.rows[i]).is]) rfl fun b104 w43 hn104 hb104 hE43 hs43 => ⟨hC.thenNo hE43, ?_⟩
                have ne1_104 : b1 ≠ b104 := Nat.ne_of_lt (Nat.lt_of_lt_of_le hb1.lt hn104)
                have ne9_104 : b9 ≠ b104 := Nat.ne_of_lt (Nat.lt_of_lt_of_le hb9.lt hn104)
                have fr104 := Nat.le_trans hX.size hn104
                have frhC104 := Nat.le_trans hC.size hn104
                have hb1 := hb1.extNo hE43
                have hb9 := hb9.extNo hE43
                have hO := hO.ext hE43 fun _ _ => id
                have hqp := hqp.ext hE43 fun _ _ => id
                have hX := hX.thenNo hE43
                have hC := hC.thenNo hE43
                refine wx_plan [(4, false), (7, false), (10, false), (11, false), (12, true)] 0 rfl (by kernel_rfl) ?_
                have hX0 := hX
                have hC0 := hC
                refine wd_l rfl (st_app I_ok rfl 1 1 rfl rfl rfl (by decide) hO (Src.slice hqp.sl OneC.h) (by dsimp only [maxLen]; simp only [List.length_append, be_len, strB_len]; omega) (by dsimp only; simp only [List.length_append, be_len, strB_len]; omega) fun p44 c44 w44 ho44 hE44 hB44 => ⟨hC.trans hE44 (fun y hy hF => (hqs y hF).elim id (fun h => absurd hy (Nat.not_lt.2 h))), ?_⟩)
                have hC := hC.trans hE44 (fun y hy hF => (hqs y hF).elim id (fun h => absurd hy (Nat.not_lt.2 h)))
                dsimp only at ho44 hE44 hB44 ⊢
                have hb1 := hb1.extOwn hO hE44 (show (5 : Nat) ≠ 33 from by decide)
                have hb9 := hb9.extOwn hO hE44 (show (5 : Nat) ≠ 82 from by decide)
                try have hb104 := hb104.ext hE44 (fun hx => by have := hOl _ hx; omega)
                have hX := hX0.trans hE44 fun y hy hF => by have := hOn y hF; omega
                have hOn2 := newW hX0 hOn hB44
                have e3 : (be 1 x.kind.toNat ++ be 1 x.style.toNat ++ x.tree ++ be 1 x.parents.length ++ x.parents.flatten ++ x.base ++ be 1 x.rows.length ++ (x.rows.take i).flatMap chgB).length + (strB 1 (x.rows[i]).path).length = (be 1 x.kind.toNat ++ be 1 x.style.toNat ++ x.tree ++ be 1 x.parents.length ++ x.parents.flatten ++ x.base ++ be 1 x.rows.length ++ (x.rows.take i).flatMap chgB ++ strB 1 (x.rows[i]).path).length := by simp only [List.length_append, be_len, strB_len] <;> omega
                obtain ⟨q, k, e1, e2, hO2⟩ : ∃ q k, q = p44 ∧ k = c44 ∧ Own w44 q (be 1 x.kind.toNat ++ be 1 x.style.toNat ++ x.tree ++ be 1 x.parents.length ++ x.parents.flatten ++ x.base ++ be 1 x.rows.length ++ (x.rows.take i).flatMap chgB ++ strB 1 (x.rows[i]).path).length k 5 1 (bytesU (be 1 x.kind.toNat ++ be 1 x.style.toNat ++ x.tree ++ be 1 x.parents.length ++ x.parents.flatten ++ x.base ++ be 1 x.rows.length ++ (x.rows.take i).flatMap chgB ++ strB 1 (x.rows[i]).path)) := ⟨_, _, rfl, rfl, by
                  rw [← e3, bytesU_append (be 1 x.kind.toNat ++ be 1 x.style.toNat ++ x.tree ++ be 1 x.parents.length ++ x.parents.flatten ++ x.base ++ be 1 x.rows.length ++ (x.rows.take i).flatMap chgB)]
                  exact ho44⟩
                rw [← e1] at hOn2 hB44
                have hqs := fun y hy => (hB44 y hy).elim (hqs y) fun h => .inr (Nat.le_trans hC0.size h)
                have hO := hO2
                have hOn := hOn2
                rw [← e1, ← e2, e3]
                have hX0 := hX
                have hC0 := hC
                refine wd_l rfl (st_app I_ok rfl 1 1 rfl rfl rfl (by decide) hO (Src.slice (m := 1) ⟨rfl, .inr ⟨b104, 0, rfl, hb104.seg⟩⟩ OneC.h) (by dsimp only [maxLen]; simp only [List.length_append, be_len, strB_len]; omega) (by dsimp only; simp only [List.length_append, be_len, strB_len]; omega) fun p45 c45 w45 ho45 hE45 hB45 => ⟨hC.trans hE45 (fun y hy hF => (hqs y hF).elim id (fun h => absurd hy (Nat.not_lt.2 h))), ?_⟩)
                have hC := hC.trans hE45 (fun y hy hF => (hqs y hF).elim id (fun h => absurd hy (Nat.not_lt.2 h)))
                dsimp only at ho45 hE45 hB45 ⊢
                have hb1 := hb1.extOwn hO hE45 (show (5 : Nat) ≠ 33 from by decide)
                have hb9 := hb9.extOwn hO hE45 (show (5 : Nat) ≠ 82 from by decide)
                have hX := hX0.trans hE45 fun y hy hF => by have := hOn y hF; omega
                have hOn2 := newW hX0 hOn hB45
                have e3 : (be 1 x.kind.toNat ++ be 1 x.style.toNat ++ x.tree ++ be 1 x.parents.length ++ x.parents.flatten ++ x.base ++ be 1 x.rows.length ++ (x.rows.take i).flatMap chgB ++ strB 1 (x.rows[i]).path).length + 1 = (be 1 x.kind.toNat ++ be 1 x.style.toNat ++ x.tree ++ be 1 x.parents.length ++ x.parents.flatten ++ x.base ++ be 1 x.rows.length ++ (x.rows.take i).flatMap chgB ++ strB 1 (x.rows[i]).path ++ [isB (x.rows[i]).is]).length := by simp only [List.length_append, be_len, strB_len, List.length_cons, List.length_nil] <;> omega
                obtain ⟨q, k, e1, e2, hO2⟩ : ∃ q k, q = p45 ∧ k = c45 ∧ Own w45 q (be 1 x.kind.toNat ++ be 1 x.style.toNat ++ x.tree ++ be 1 x.parents.length ++ x.parents.flatten ++ x.base ++ be 1 x.rows.length ++ (x.rows.take i).flatMap chgB ++ strB 1 (x.rows[i]).path ++ [isB (x.rows[i]).is]).length k 5 1 (bytesU (be 1 x.kind.toNat ++ be 1 x.style.toNat ++ x.tree ++ be 1 x.parents.length ++ x.parents.flatten ++ x.base ++ be 1 x.rows.length ++ (x.rows.take i).flatMap chgB ++ strB 1 (x.rows[i]).path ++ [isB (x.rows[i]).is])) := ⟨_, _, rfl, rfl, by
                  rw [← e3, bytesU_append (be 1 x.kind.toNat ++ be 1 x.style.toNat ++ x.tree ++ be 1 x.parents.length ++ x.parents.flatten ++ x.base ++ be 1 x.rows.length ++ (x.rows.take i).flatMap chgB ++ strB 1 (x.rows[i]).path)]
                  exact ho45⟩
                rw [← e1] at hOn2 hB45
                have hqs := fun y hy => (hB45 y hy).elim (hqs y) fun h => .inr (Nat.le_trans hC0.size h)
                have hO := hO2
                have hOn := hOn2
                rw [← e1, ← e2, e3]
                refine wd_l rfl (st_call Tryd.call37 rfl rfl rfl rfl rfl rfl (some6_calls w45 (x.rows[i]).text 2 (by decide) (by omega)) fun v46 w46 hr46 => ⟨(by obtain ⟨qt, kt, rfl, hqt, hqtn, hE46⟩ := hr46; exact hC.thenNo hE46), ?_⟩)
                obtain ⟨qt, kt, rfl, hqt, hqtn, hE46⟩ := hr46
                have hb1 := hb1.extNo hE46
                have hb9 := hb9.extNo hE46
                have hO := hO.ext hE46 fun _ _ => id
                have hX := hX.thenNo hE46
                have hC := hC.thenNo hE46
                have hX0 := hX
                have hC0 := hC
                refine wd_l rfl (st_app I_ok rfl 1 1 rfl rfl rfl (by decide) hO (Src.slice hqt.sl OneC.h) (by dsimp only [maxLen]; simp only [List.length_append, be_len, strB_len, List.length_cons, List.length_nil]; omega) (by dsimp only; simp only [List.length_append, be_len, strB_len, List.length_cons, List.length_nil]; omega) fun p47 c47 w47 ho47 hE47 hB47 => ⟨hC.trans hE47 (fun y hy hF => (hqs y hF).elim id (fun h => absurd hy (Nat.not_lt.2 h))), ?_⟩)
                have hC := hC.trans hE47 (fun y hy hF => (hqs y hF).elim id (fun h => absurd hy (Nat.not_lt.2 h)))
                dsimp only at ho47 hE47 hB47 ⊢
                have hb1 := hb1.extOwn hO hE47 (show (5 : Nat) ≠ 33 from by decide)
                have hb9 := hb9.extOwn hO hE47 (show (5 : Nat) ≠ 82 from by decide)
                have hX := hX0.trans hE47 fun y hy hF => by have := hOn y hF; omega
                have hOn2 := newW hX0 hOn hB47
                have e3 : (be 1 x.kind.toNat ++ be 1 x.style.toNat ++ x.tree ++ be 1 x.parents.length ++ x.parents.flatten ++ x.base ++ be 1 x.rows.length ++ (x.rows.take i).flatMap chgB ++ strB 1 (x.rows[i]).path ++ [isB (x.rows[i]).is]).length + (strB 2 (x.rows[i]).text).length = (be 1 x.kind.toNat ++ be 1 x.style.toNat ++ x.tree ++ be 1 x.parents.length ++ x.parents.flatten ++ x.base ++ be 1 x.rows.length ++ (x.rows.take i).flatMap chgB ++ strB 1 (x.rows[i]).path ++ [isB (x.rows[i]).is] ++ strB 2 (x.rows[i]).text).length := by simp only [List.length_append, be_len, strB_len, List.length_cons, List.length_nil] <;> omega
                obtain ⟨q, k, e1, e2, hO2⟩ : ∃ q k, q = p47 ∧ k = c47 ∧ Own w47 q (be 1 x.kind.toNat ++ be 1 x.style.toNat ++ x.tree ++ be 1 x.parents.length ++ x.parents.flatten ++ x.base ++ be 1 x.rows.length ++ (x.rows.take i).flatMap chgB ++ strB 1 (x.rows[i]).path ++ [isB (x.rows[i]).is] ++ strB 2 (x.rows[i]).text).length k 5 1 (bytesU (be 1 x.kind.toNat ++ be 1 x.style.toNat ++ x.tree ++ be 1 x.parents.length ++ x.parents.flatten ++ x.base ++ be 1 x.rows.length ++ (x.rows.take i).flatMap chgB ++ strB 1 (x.rows[i]).path ++ [isB (x.rows[i]).is] ++ strB 2 (x.rows[i]).text)) := ⟨_, _, rfl, rfl, by
                  rw [← e3, bytesU_append (be 1 x.kind.toNat ++ be 1 x.style.toNat ++ x.tree ++ be 1 x.parents.length ++ x.parents.flatten ++ x.base ++ be 1 x.rows.length ++ (x.rows.take i).flatMap chgB ++ strB 1 (x.rows[i]).path ++ [isB (x.rows[i]).is])]
                  exact ho47⟩
                rw [← e1] at hOn2 hB47
                have hqs := fun y hy => (hB47 y hy).elim (hqs y) fun h => .inr (Nat.le_trans hC0.size h)
                have hO := hO2
                have hOn := hOn2
                rw [← e1, ← e2, e3]
                refine wd_k I_ok 1 rfl (wd_sw (wb_nil ?_))
                exact f_blockN (f_cut (q, k) rfl ⟨⟨hO, hOn⟩, hb1, hX⟩)
            · refine st_bs I_ok rfl 1 rfl rfl rfl (by decide) (by decide) (by simp [partsOk]) (l' := bytesU [isB (x.rows[i]).is]) rfl fun b104 w48 hn104 hb104 hE48 hs48 => ⟨hC.thenNo hE48, ?_⟩
              have ne1_104 : b1 ≠ b104 := Nat.ne_of_lt (Nat.lt_of_lt_of_le hb1.lt hn104)
              have ne9_104 : b9 ≠ b104 := Nat.ne_of_lt (Nat.lt_of_lt_of_le hb9.lt hn104)
              have fr104 := Nat.le_trans hX.size hn104
              have frhC104 := Nat.le_trans hC.size hn104
              have hb1 := hb1.extNo hE48
              have hb9 := hb9.extNo hE48
              have hO := hO.ext hE48 fun _ _ => id
              have hX := hX.thenNo hE48
              have hC := hC.thenNo hE48
              refine wx_plan [(3, false), (4, false), (7, false), (10, false), (11, false), (12, true)] 0 rfl (by kernel_rfl) ?_
              refine wd_l rfl (st_call Tryd.call37 rfl rfl rfl rfl rfl rfl (some6_calls w48 (x.rows[i]).path 1 (by decide) (by omega)) fun v49 w49 hr49 => ⟨(by obtain ⟨qp, kp, rfl, hqp, hqpn, hE49⟩ := hr49; exact hC.thenNo hE49), ?_⟩)
              obtain ⟨qp, kp, rfl, hqp, hqpn, hE49⟩ := hr49
              have hb1 := hb1.extNo hE49
              have hb9 := hb9.extNo hE49
              have hb104 := hb104.extNo hE49
              have hO := hO.ext hE49 fun _ _ => id
              have hX := hX.thenNo hE49
              have hC := hC.thenNo hE49
              have hX0 := hX
              have hC0 := hC
              refine wd_l rfl (st_app I_ok rfl 1 1 rfl rfl rfl (by decide) hO (Src.slice hqp.sl OneC.h) (by dsimp only [maxLen]; simp only [List.length_append, be_len, strB_len]; omega) (by dsimp only; simp only [List.length_append, be_len, strB_len]; omega) fun p50 c50 w50 ho50 hE50 hB50 => ⟨hC.trans hE50 (fun y hy hF => (hqs y hF).elim id (fun h => absurd hy (Nat.not_lt.2 h))), ?_⟩)
              have hC := hC.trans hE50 (fun y hy hF => (hqs y hF).elim id (fun h => absurd hy (Nat.not_lt.2 h)))
              dsimp only at ho50 hE50 hB50 ⊢
              have hb1 := hb1.extOwn hO hE50 (show (5 : Nat) ≠ 33 from by decide)
              have hb9 := hb9.extOwn hO hE50 (show (5 : Nat) ≠ 82 from by decide)
              try have hb104 := hb104.ext hE50 (fun hx => by have := hOl _ hx; omega)
              have hX := hX0.trans hE50 fun y hy hF => by have := hOn y hF; omega
              have hOn2 := newW hX0 hOn hB50
              have e3 : (be 1 x.kind.toNat ++ be 1 x.style.toNat ++ x.tree ++ be 1 x.parents.length ++ x.parents.flatten ++ x.base ++ be 1 x.rows.length ++ (x.rows.take i).flatMap chgB).length + (strB 1 (x.rows[i]).path).length = (be 1 x.kind.toNat ++ be 1 x.style.toNat ++ x.tree ++ be 1 x.parents.length ++ x.parents.flatten ++ x.base ++ be 1 x.rows.length ++ (x.rows.take i).flatMap chgB ++ strB 1 (x.rows[i]).path).length := by simp only [List.length_append, be_len, strB_len] <;> omega
              obtain ⟨q, k, e1, e2, hO2⟩ : ∃ q k, q = p50 ∧ k = c50 ∧ Own w50 q (be 1 x.kind.toNat ++ be 1 x.style.toNat ++ x.tree ++ be 1 x.parents.length ++ x.parents.flatten ++ x.base ++ be 1 x.rows.length ++ (x.rows.take i).flatMap chgB ++ strB 1 (x.rows[i]).path).length k 5 1 (bytesU (be 1 x.kind.toNat ++ be 1 x.style.toNat ++ x.tree ++ be 1 x.parents.length ++ x.parents.flatten ++ x.base ++ be 1 x.rows.length ++ (x.rows.take i).flatMap chgB ++ strB 1 (x.rows[i]).path)) := ⟨_, _, rfl, rfl, by
                rw [← e3, bytesU_append (be 1 x.kind.toNat ++ be 1 x.style.toNat ++ x.tree ++ be 1 x.parents.length ++ x.parents.flatten ++ x.base ++ be 1 x.rows.length ++ (x.rows.take i).flatMap chgB)]
                exact ho50⟩
              rw [← e1] at hOn2 hB50
              have hqs := fun y hy => (hB50 y hy).elim (hqs y) fun h => .inr (Nat.le_trans hC0.size h)
              have hO := hO2
              have hOn := hOn2
              rw [← e1, ← e2, e3]
              have hX0 := hX
              have hC0 := hC
              refine wd_l rfl (st_app I_ok rfl 1 1 rfl rfl rfl (by decide) hO (Src.slice (m := 1) ⟨rfl, .inr ⟨b104, 0, rfl, hb104.seg⟩⟩ OneC.h) (by dsimp only [maxLen]; simp only [List.length_append, be_len, strB_len]; omega) (by dsimp only; simp only [List.length_append, be_len, strB_len]; omega) fun p51 c51 w51 ho51 hE51 hB51 => ⟨hC.trans hE51 (fun y hy hF => (hqs y hF).elim id (fun h => absurd hy (Nat.not_lt.2 h))), ?_⟩)
              have hC := hC.trans hE51 (fun y hy hF => (hqs y hF).elim id (fun h => absurd hy (Nat.not_lt.2 h)))
              dsimp only at ho51 hE51 hB51 ⊢
              have hb1 := hb1.extOwn hO hE51 (show (5 : Nat) ≠ 33 from by decide)
              have hb9 := hb9.extOwn hO hE51 (show (5 : Nat) ≠ 82 from by decide)
              have hX := hX0.trans hE51 fun y hy hF => by have := hOn y hF; omega
              have hOn2 := newW hX0 hOn hB51
              have e3 : (be 1 x.kind.toNat ++ be 1 x.style.toNat ++ x.tree ++ be 1 x.parents.length ++ x.parents.flatten ++ x.base ++ be 1 x.rows.length ++ (x.rows.take i).flatMap chgB ++ strB 1 (x.rows[i]).path).length + 1 = (be 1 x.kind.toNat ++ be 1 x.style.toNat ++ x.tree ++ be 1 x.parents.length ++ x.parents.flatten ++ x.base ++ be 1 x.rows.length ++ (x.rows.take i).flatMap chgB ++ strB 1 (x.rows[i]).path ++ [isB (x.rows[i]).is]).length := by simp only [List.length_append, be_len, strB_len, List.length_cons, List.length_nil] <;> omega
              obtain ⟨q, k, e1, e2, hO2⟩ : ∃ q k, q = p51 ∧ k = c51 ∧ Own w51 q (be 1 x.kind.toNat ++ be 1 x.style.toNat ++ x.tree ++ be 1 x.parents.length ++ x.parents.flatten ++ x.base ++ be 1 x.rows.length ++ (x.rows.take i).flatMap chgB ++ strB 1 (x.rows[i]).path ++ [isB (x.rows[i]).is]).length k 5 1 (bytesU (be 1 x.kind.toNat ++ be 1 x.style.toNat ++ x.tree ++ be 1 x.parents.length ++ x.parents.flatten ++ x.base ++ be 1 x.rows.length ++ (x.rows.take i).flatMap chgB ++ strB 1 (x.rows[i]).path ++ [isB (x.rows[i]).is])) := ⟨_, _, rfl, rfl, by
                rw [← e3, bytesU_append (be 1 x.kind.toNat ++ be 1 x.style.toNat ++ x.tree ++ be 1 x.parents.length ++ x.parents.flatten ++ x.base ++ be 1 x.rows.length ++ (x.rows.take i).flatMap chgB ++ strB 1 (x.rows[i]).path)]
                exact ho51⟩
              rw [← e1] at hOn2 hB51
              have hqs := fun y hy => (hB51 y hy).elim (hqs y) fun h => .inr (Nat.le_trans hC0.size h)
              have hO := hO2
              have hOn := hOn2
              rw [← e1, ← e2, e3]
              refine wd_l rfl (st_call Tryd.call37 rfl rfl rfl rfl rfl rfl (some6_calls w51 (x.rows[i]).text 2 (by decide) (by omega)) fun v52 w52 hr52 => ⟨(by obtain ⟨qt, kt, rfl, hqt, hqtn, hE52⟩ := hr52; exact hC.thenNo hE52), ?_⟩)
              obtain ⟨qt, kt, rfl, hqt, hqtn, hE52⟩ := hr52
              have hb1 := hb1.extNo hE52
              have hb9 := hb9.extNo hE52
              have hO := hO.ext hE52 fun _ _ => id
              have hX := hX.thenNo hE52
              have hC := hC.thenNo hE52
              have hX0 := hX
              have hC0 := hC
              refine wd_l rfl (st_app I_ok rfl 1 1 rfl rfl rfl (by decide) hO (Src.slice hqt.sl OneC.h) (by dsimp only [maxLen]; simp only [List.length_append, be_len, strB_len, List.length_cons, List.length_nil]; omega) (by dsimp only; simp only [List.length_append, be_len, strB_len, List.length_cons, List.length_nil]; omega) fun p53 c53 w53 ho53 hE53 hB53 => ⟨hC.trans hE53 (fun y hy hF => (hqs y hF).elim id (fun h => absurd hy (Nat.not_lt.2 h))), ?_⟩)
              have hC := hC.trans hE53 (fun y hy hF => (hqs y hF).elim id (fun h => absurd hy (Nat.not_lt.2 h)))
              dsimp only at ho53 hE53 hB53 ⊢
              have hb1 := hb1.extOwn hO hE53 (show (5 : Nat) ≠ 33 from by decide)
              have hb9 := hb9.extOwn hO hE53 (show (5 : Nat) ≠ 82 from by decide)
              have hX := hX0.trans hE53 fun y hy hF => by have := hOn y hF; omega
              have hOn2 := newW hX0 hOn hB53
              have e3 : (be 1 x.kind.toNat ++ be 1 x.style.toNat ++ x.tree ++ be 1 x.parents.length ++ x.parents.flatten ++ x.base ++ be 1 x.rows.length ++ (x.rows.take i).flatMap chgB ++ strB 1 (x.rows[i]).path ++ [isB (x.rows[i]).is]).length + (strB 2 (x.rows[i]).text).length = (be 1 x.kind.toNat ++ be 1 x.style.toNat ++ x.tree ++ be 1 x.parents.length ++ x.parents.flatten ++ x.base ++ be 1 x.rows.length ++ (x.rows.take i).flatMap chgB ++ strB 1 (x.rows[i]).path ++ [isB (x.rows[i]).is] ++ strB 2 (x.rows[i]).text).length := by simp only [List.length_append, be_len, strB_len, List.length_cons, List.length_nil] <;> omega
              obtain ⟨q, k, e1, e2, hO2⟩ : ∃ q k, q = p53 ∧ k = c53 ∧ Own w53 q (be 1 x.kind.toNat ++ be 1 x.style.toNat ++ x.tree ++ be 1 x.parents.length ++ x.parents.flatten ++ x.base ++ be 1 x.rows.length ++ (x.rows.take i).flatMap chgB ++ strB 1 (x.rows[i]).path ++ [isB (x.rows[i]).is] ++ strB 2 (x.rows[i]).text).length k 5 1 (bytesU (be 1 x.kind.toNat ++ be 1 x.style.toNat ++ x.tree ++ be 1 x.parents.length ++ x.parents.flatten ++ x.base ++ be 1 x.rows.length ++ (x.rows.take i).flatMap chgB ++ strB 1 (x.rows[i]).path ++ [isB (x.rows[i]).is] ++ strB 2 (x.rows[i]).text)) := ⟨_, _, rfl, rfl, by
                rw [← e3, bytesU_append (be 1 x.kind.toNat ++ be 1 x.style.toNat ++ x.tree ++ be 1 x.parents.length ++ x.parents.flatten ++ x.base ++ be 1 x.rows.length ++ (x.rows.take i).flatMap chgB ++ strB 1 (x.rows[i]).path ++ [isB (x.rows[i]).is])]
                exact ho53⟩
              rw [← e1] at hOn2 hB53
              have hqs := fun y hy => (hB53 y hy).elim (hqs y) fun h => .inr (Nat.le_trans hC0.size h)
              have hO := hO2
              have hOn := hOn2
              rw [← e1, ← e2, e3]
              refine wd_k I_ok 1 rfl (wd_sw (wb_nil ?_))
              exact f_blockN (f_cut (q, k) rfl ⟨⟨hO, hOn⟩, hb1, hX⟩)
          rintro ⟨q, k⟩ w54 ⟨⟨hO, hOn⟩, hb1, hX⟩
          try dsimp only
          dsimp only at hO hOn
          refine c_region (wl_p I_ok rfl ?_)
          rw [IntWalk.i64_in _ (by omega)]
          refine wl_nil ?_
          exact f_round (i + 1, q, k) (by rw [show be 1 x.kind.toNat ++ be 1 x.style.toNat ++ x.tree ++ be 1 x.parents.length ++ x.parents.flatten ++ x.base ++ be 1 x.rows.length ++ (x.rows.take (i + 1)).flatMap chgB = be 1 x.kind.toNat ++ be 1 x.style.toNat ++ x.tree ++ be 1 x.parents.length ++ x.parents.flatten ++ x.base ++ be 1 x.rows.length ++ (x.rows.take i).flatMap chgB ++ strB 1 (x.rows[i]).path ++ [isB (x.rows[i]).is] ++ strB 2 (x.rows[i]).text from by rw [flat_take hi, chgB]; simp]; rfl) ⟨⟨hi, by rw [show be 1 x.kind.toNat ++ be 1 x.style.toNat ++ x.tree ++ be 1 x.parents.length ++ x.parents.flatten ++ x.base ++ be 1 x.rows.length ++ (x.rows.take (i + 1)).flatMap chgB = be 1 x.kind.toNat ++ be 1 x.style.toNat ++ x.tree ++ be 1 x.parents.length ++ x.parents.flatten ++ x.base ++ be 1 x.rows.length ++ (x.rows.take i).flatMap chgB ++ strB 1 (x.rows[i]).path ++ [isB (x.rows[i]).is] ++ strB 2 (x.rows[i]).text from by rw [flat_take hi, chgB]; simp]; exact hO, hOn⟩, hb1, hX⟩ (by first | omega | (dsimp only; omega))
        · have h0 : i = x.rows.length := by omega
          subst h0
          rw [List.take_length] at hO ⊢
          have hfl : (x.rows.flatMap chgB).length ≤ x.rows.length * 400 := flat_le fun r hr => chgB_le (hp48 r hr)
          refine c_exit (f_thenE (f_thenE (f_blockE (f_then (c_seq ?_)))))
          refine c_draw rfl 12 [(0, true), (1, true), (2, true), (3, true), (6, true), (7, true), (8, true), (4, false), (5, false), (9, false), (10, false), (11, true)] [] (OwnB q) (by kernel_rfl) fun w55 hE55 hs55 => ?_
          have hd1 := hb1
          have hOd := hO
          have hXd := hX
          have hb1 := hb1.extNo hE55
          have hO := hO.ext hE55 fun _ _ => id
          have hX := hX.thenNo hE55
          have hC : Ext (OwnB q) _ w55 := hE55.no
          have hqs : ∀ y, OwnB q y → OwnB q y ∨ w32.heap.size ≤ y := fun y h => .inl h
          have hOl : ∀ y, OwnB q y → y < w32.heap.size := fun y h => hOd.lt h
          refine wd_k I_ok 2 rfl (wd_ld I_ok rfl rfl (fun w' hw' => ((hd1.ext (show Ext (OwnB q) _ w' from hw') fun hx' => hOd.neTy hx' hd1 (by decide) rfl).seg.obj hx).number) ?_)
          refine wd_k I_ok 1 rfl ?_
          rw [IntWalk.u64_in _ (by have := hx.number; omega)]
          refine wd_k I_ok 1 rfl (wd_ld I_ok rfl rfl (fun w' hw' => ((hd1.ext (show Ext (OwnB q) _ w' from hw') fun hx' => hOd.neTy hx' hd1 (by decide) rfl).seg.obj hx).author) ?_)
          refine wd_k I_ok 1 rfl ?_
          rw [IntWalk.u64_in _ (by have := hx.author; omega)]
          refine wd_l rfl (st_call Tryd.call38 rfl rfl rfl rfl rfl rfl (high_calls 4 (by decide) w55 x.number (by have := hx.number; omega)) fun v56 w56 hr56 => ⟨(by obtain ⟨qp, kp, rfl, hqp, hqpn, hE56⟩ := hr56; exact hC.thenNo hE56), ?_⟩)
          obtain ⟨qp, kp, rfl, hqp, hqpn, hE56⟩ := hr56
          have hb1 := hb1.extNo hE56
          have hO := hO.ext hE56 fun _ _ => id
          have hX := hX.thenNo hE56
          have hC := hC.thenNo hE56
          rw [show Value.slice qp 4 kp = .slice qp (be 4 x.number).length kp from by rw [be_len]]
          have hX0 := hX
          have hC0 := hC
          refine wd_l rfl (st_app I_ok rfl 1 1 rfl rfl rfl (by decide) hO (Src.slice (show Sl _ qp (be 4 x.number).length 1 _ from by rw [be_len]; exact hqp.sl) OneC.h) (by dsimp only [maxLen]; simp only [List.length_append, be_len]; omega) (by dsimp only; simp only [List.length_append, be_len]; omega) fun p57 c57 w57 ho57 hE57 hB57 => ⟨hC.trans hE57 (fun y hy hF => (hqs y hF).elim id (fun h => absurd hy (Nat.not_lt.2 h))), ?_⟩)
          have hC := hC.trans hE57 (fun y hy hF => (hqs y hF).elim id (fun h => absurd hy (Nat.not_lt.2 h)))
          dsimp only at ho57 hE57 hB57 ⊢
          have hb1 := hb1.extOwn hO hE57 (show (5 : Nat) ≠ 33 from by decide)
          have hX := hX0.trans hE57 fun y hy hF => by have := hOn y hF; omega
          have hOn2 := newW hX0 hOn hB57
          have e3 : (be 1 x.kind.toNat ++ be 1 x.style.toNat ++ x.tree ++ be 1 x.parents.length ++ x.parents.flatten ++ x.base ++ be 1 x.rows.length ++ x.rows.flatMap chgB).length + (be 4 x.number).length = (be 1 x.kind.toNat ++ be 1 x.style.toNat ++ x.tree ++ be 1 x.parents.length ++ x.parents.flatten ++ x.base ++ be 1 x.rows.length ++ x.rows.flatMap chgB ++ be 4 x.number).length := by simp only [List.length_append, be_len] <;> omega
          obtain ⟨q, k, e1, e2, hO2⟩ : ∃ q k, q = p57 ∧ k = c57 ∧ Own w57 q (be 1 x.kind.toNat ++ be 1 x.style.toNat ++ x.tree ++ be 1 x.parents.length ++ x.parents.flatten ++ x.base ++ be 1 x.rows.length ++ x.rows.flatMap chgB ++ be 4 x.number).length k 5 1 (bytesU (be 1 x.kind.toNat ++ be 1 x.style.toNat ++ x.tree ++ be 1 x.parents.length ++ x.parents.flatten ++ x.base ++ be 1 x.rows.length ++ x.rows.flatMap chgB ++ be 4 x.number)) := ⟨_, _, rfl, rfl, by
            rw [← e3, bytesU_append (be 1 x.kind.toNat ++ be 1 x.style.toNat ++ x.tree ++ be 1 x.parents.length ++ x.parents.flatten ++ x.base ++ be 1 x.rows.length ++ x.rows.flatMap chgB)]
            exact ho57⟩
          rw [← e1] at hOn2 hB57
          have hqs := fun y hy => (hB57 y hy).elim (hqs y) fun h => .inr (Nat.le_trans hC0.size h)
          have hO := hO2
          have hOn := hOn2
          rw [← e1, ← e2, e3]
          refine wd_l rfl (st_call Tryd.call38 rfl rfl rfl rfl rfl rfl (high_calls 4 (by decide) w57 x.author (by have := hx.author; omega)) fun v58 w58 hr58 => ⟨(by obtain ⟨qt, kt, rfl, hqt, hqtn, hE58⟩ := hr58; exact hC.thenNo hE58), ?_⟩)
          obtain ⟨qt, kt, rfl, hqt, hqtn, hE58⟩ := hr58
          have hb1 := hb1.extNo hE58
          have hO := hO.ext hE58 fun _ _ => id
          have hX := hX.thenNo hE58
          have hC := hC.thenNo hE58
          rw [show Value.slice qt 4 kt = .slice qt (be 4 x.author).length kt from by rw [be_len]]
          have hX0 := hX
          have hC0 := hC
          refine wd_l rfl (st_app I_ok rfl 1 1 rfl rfl rfl (by decide) hO (Src.slice (show Sl _ qt (be 4 x.author).length 1 _ from by rw [be_len]; exact hqt.sl) OneC.h) (by dsimp only [maxLen]; simp only [List.length_append, be_len]; omega) (by dsimp only; simp only [List.length_append, be_len]; omega) fun p59 c59 w59 ho59 hE59 hB59 => ⟨hC.trans hE59 (fun y hy hF => (hqs y hF).elim id (fun h => absurd hy (Nat.not_lt.2 h))), ?_⟩)
          have hC := hC.trans hE59 (fun y hy hF => (hqs y hF).elim id (fun h => absurd hy (Nat.not_lt.2 h)))
          dsimp only at ho59 hE59 hB59 ⊢
          have hb1 := hb1.extOwn hO hE59 (show (5 : Nat) ≠ 33 from by decide)
          have hX := hX0.trans hE59 fun y hy hF => by have := hOn y hF; omega
          have hOn2 := newW hX0 hOn hB59
          have e3 : (be 1 x.kind.toNat ++ be 1 x.style.toNat ++ x.tree ++ be 1 x.parents.length ++ x.parents.flatten ++ x.base ++ be 1 x.rows.length ++ x.rows.flatMap chgB ++ be 4 x.number).length + (be 4 x.author).length = (be 1 x.kind.toNat ++ be 1 x.style.toNat ++ x.tree ++ be 1 x.parents.length ++ x.parents.flatten ++ x.base ++ be 1 x.rows.length ++ x.rows.flatMap chgB ++ be 4 x.number ++ be 4 x.author).length := by simp only [List.length_append, be_len] <;> omega
          obtain ⟨q, k, e1, e2, hO2⟩ : ∃ q k, q = p59 ∧ k = c59 ∧ Own w59 q (be 1 x.kind.toNat ++ be 1 x.style.toNat ++ x.tree ++ be 1 x.parents.length ++ x.parents.flatten ++ x.base ++ be 1 x.rows.length ++ x.rows.flatMap chgB ++ be 4 x.number ++ be 4 x.author).length k 5 1 (bytesU (be 1 x.kind.toNat ++ be 1 x.style.toNat ++ x.tree ++ be 1 x.parents.length ++ x.parents.flatten ++ x.base ++ be 1 x.rows.length ++ x.rows.flatMap chgB ++ be 4 x.number ++ be 4 x.author)) := ⟨_, _, rfl, rfl, by
            rw [← e3, bytesU_append (be 1 x.kind.toNat ++ be 1 x.style.toNat ++ x.tree ++ be 1 x.parents.length ++ x.parents.flatten ++ x.base ++ be 1 x.rows.length ++ x.rows.flatMap chgB ++ be 4 x.number)]
            exact ho59⟩
          rw [← e1] at hOn2 hB59
          have hqs := fun y hy => (hB59 y hy).elim (hqs y) fun h => .inr (Nat.le_trans hC0.size h)
          have hO := hO2
          have hOn := hOn2
          rw [← e1, ← e2, e3]
          refine wd_k I_ok 1 rfl (wd_sw (wb_nil (f_then (c_seq (c_region (wl_p I_ok rfl (wl (st_ld I_ok rfl (hb1.seg.obj hx).note ?_))))))))
          refine wl (st_call Tryd.call37 rfl rfl rfl rfl rfl rfl (some6_calls w59 x.note 1 (by decide) (by omega)) fun v60 w60 hr60 => ?_)
          obtain ⟨qp, kp, rfl, hqp, hqpn, hE60⟩ := hr60
          have hb1 := hb1.extNo hE60
          have hO := hO.ext hE60 fun _ _ => id
          have hX := hX.thenNo hE60
          have hX0 := hX
          refine wl (st_app I_ok rfl 1 1 rfl rfl rfl (by decide) hO (Src.slice hqp.sl OneC.h) (by dsimp only [maxLen]; simp only [List.length_append, be_len, strB_len]; omega) (by dsimp only; simp only [List.length_append, be_len, strB_len]; omega) fun p61 c61 w61 ho61 hE61 hB61 => ?_)
          dsimp only at ho61 hE61 hB61 ⊢
          have hX := hX0.trans hE61 fun y hy hF => by have := hOn y hF; omega
          have hOn2 := newW hX0 hOn hB61
          have e3 : (be 1 x.kind.toNat ++ be 1 x.style.toNat ++ x.tree ++ be 1 x.parents.length ++ x.parents.flatten ++ x.base ++ be 1 x.rows.length ++ x.rows.flatMap chgB ++ be 4 x.number ++ be 4 x.author).length + (strB 1 x.note).length = (be 1 x.kind.toNat ++ be 1 x.style.toNat ++ x.tree ++ be 1 x.parents.length ++ x.parents.flatten ++ x.base ++ be 1 x.rows.length ++ x.rows.flatMap chgB ++ be 4 x.number ++ be 4 x.author ++ strB 1 x.note).length := by simp only [List.length_append, be_len, strB_len] <;> omega
          obtain ⟨q, k, e1, e2, hO2⟩ : ∃ q k, q = p61 ∧ k = c61 ∧ Own w61 q (be 1 x.kind.toNat ++ be 1 x.style.toNat ++ x.tree ++ be 1 x.parents.length ++ x.parents.flatten ++ x.base ++ be 1 x.rows.length ++ x.rows.flatMap chgB ++ be 4 x.number ++ be 4 x.author ++ strB 1 x.note).length k 5 1 (bytesU (be 1 x.kind.toNat ++ be 1 x.style.toNat ++ x.tree ++ be 1 x.parents.length ++ x.parents.flatten ++ x.base ++ be 1 x.rows.length ++ x.rows.flatMap chgB ++ be 4 x.number ++ be 4 x.author ++ strB 1 x.note)) := ⟨_, _, rfl, rfl, by
            rw [← e3, bytesU_append (be 1 x.kind.toNat ++ be 1 x.style.toNat ++ x.tree ++ be 1 x.parents.length ++ x.parents.flatten ++ x.base ++ be 1 x.rows.length ++ x.rows.flatMap chgB ++ be 4 x.number ++ be 4 x.author)]
            exact ho61⟩
          rw [← e1] at hOn2 hB61
          have hO := hO2
          have hOn := hOn2
          rw [← e1, ← e2, e3]
          refine wl_p I_ok rfl (wl_nil (f_then (c_ret (f_ret1 rfl rfl ?_))))
          have hlaid : laidB x = be 1 x.kind.toNat ++ be 1 x.style.toNat ++ x.tree ++ be 1 x.parents.length ++ x.parents.flatten ++ x.base ++ be 1 x.rows.length ++ x.rows.flatMap chgB ++ be 4 x.number ++ be 4 x.author ++ strB 1 x.note := by rw [laidB, if_neg h1, if_neg h2, comB]; simp only [List.append_assoc]
          exact ⟨q, k, by rw [hlaid], by rw [hlaid]; exact hO, hOn, hX⟩
end Go.Proofs.YtjghckniloikgaaDoor
namespace Go.Proofs.YtjghckniloikgaaDoor
open Go.Vc
theorem laid_le {x : ObjD} (hx : ObjIn x) (hf : FieldsOk x) : (laidB x).length ≤ 100000 := by
  rcases hf with ⟨h1, hB⟩ | ⟨h1, hB⟩ | ⟨h1, hB⟩
  · have := hB.1
    rw [laidB, if_pos h1, List.length_append, be_len, strB_len]
    omega
  · obtain ⟨hl, hp⟩ := leaved_at hB.1
    have h2 : (x.leaves.flatMap leafB).length ≤ x.leaves.length * 100 := flat_le fun r hr => leafB_le (hp r hr) (hx.leaves r hr).2
    rw [laidB, if_neg (by omega), if_pos h1, treeB, List.length_append, List.length_append, be_len, be_len]
    omega
  · obtain ⟨hl, hp⟩ := edit_at hB.2.2.2.1
    obtain ⟨hpl, _⟩ := styled_at hB.2.2.2.2
    have hnl := hB.2.2.1
    have h2 : (x.rows.flatMap chgB).length ≤ x.rows.length * 400 := flat_le fun r hr => chgB_le (hp r hr)
    have htr := hx.tree
    have hba := hx.base
    have hpf := flatten_len (n := 32) hx.parents
    rw [laidB, if_neg (by omega), if_neg (by omega), comB]
    simp only [List.length_append, be_len, strB_len]
    omega
theorem right6_calls (w : World) {x : ObjD} {a : ObjP} (hx : ObjIn x) (hxl : ObjL w x a) (hsx : Short x) :
    CallsV Tryd.prog 16 [.agg (objC x a).toArray] w fun v w' => v = .bool (decide (ObjOk x)) ∧ Ext No w w' := by
  refine calls_enter Tryd.func16 rfl rfl rfl rfl ?_
  have hX := Ext.refl No w
  refine c_seq (c_region (wl (st_al I_ok rfl fun b1 w1 hn1 hb1 hE1 => ?_)))
  have fr1 := Nat.le_trans hX.size hn1
  have hX := hX.thenNo hE1
  have hb1 : Blk w1 b1 33 (objC x a) := hb1
  refine wl_p I_ok rfl (wl_nil (f_then (c_cutK (α := Bool) [] rfl (fun z => [(2, .bool z)]) (fun z u => (z = decide (ObjOk x)) ∧ Ext No w u) ?_ ?_)))
  · refine c_region ?_
    refine wl (st_ldB I_ok hb1 rfl (objC_len hx) (wl (st_call Tryd.call36 rfl rfl rfl rfl rfl rfl (fields6_calls w1 hx (hxl.extNo hX) hsx) fun v2 w2 hr2 => ?_)))
    obtain ⟨rfl, hE2⟩ := hr2
    have hb1 := hb1.extNo hE2
    have hX := hX.thenNo hE2
    refine wl_p I_ok rfl (wl_caseD 5 rfl (fun hg => ?_) (fun hg => ?_))
    · have hf := hg
      refine wl (st_ldB I_ok hb1 rfl (objC_len hx) (wl (st_call Tryd.call18 rfl rfl rfl rfl rfl rfl (bytes6_calls w2 hx (hxl.extNo hX) hf) fun v3 w3 hr3 => ?_)))
      obtain ⟨q, k, rfl, hq, hqn, hE3⟩ := hr3
      have hb1 := hb1.extNo hE3
      have hX := hX.thenNo hE3
      refine wl_pk I_ok 4 rfl (wl_nil ?_)
      exact f_cut (_) rfl ⟨by rw [decide_eq_decide]; exact ⟨fun h => ⟨hf, by omega⟩, fun h => by have := h.2; omega⟩, hX⟩
    · have hf := hg
      refine wl_pk I_ok 6 rfl (wl_nil ?_)
      exact f_cut (false) rfl ⟨by symm; rw [decide_eq_false_iff_not]; exact fun h => hf h.1, hX⟩
  rintro z w4 ⟨rfl, hX⟩
  refine c_ret (f_ret1 rfl rfl ?_)
  exact ⟨rfl, hX⟩

theorem id6_calls (w : World) {x : ObjD} {a : ObjP} (hx : ObjIn x) (hxl : ObjL w x a) (hf : FieldsOk x) :
    CallsV Tryd.prog 19 [.agg (objC x a).toArray] w fun v w' => v = .agg (bytesU (idOf x)).toArray ∧ Ext No w w' := by
  have hle := laid_le hx hf
  refine calls_enter Tryd.func19 rfl rfl rfl rfl ?_
  have hX := Ext.refl No w
  refine c_seq (c_region (wl (st_al I_ok rfl fun b1 w1 hn1 hb1 hE1 => ?_)))
  have fr1 := Nat.le_trans hX.size hn1
  have hX := hX.thenNo hE1
  have hb1 : Blk w1 b1 33 (objC x a) := hb1
  refine wl (st_al I_ok rfl fun b2 w2 hn2 hb2 hE2 => ?_)
  have ne1_2 : b1 ≠ b2 := Nat.ne_of_lt (Nat.lt_of_lt_of_le hb1.lt hn2)
  have fr2 := Nat.le_trans hX.size hn2
  have hb1 := hb1.extNo hE2
  have hX := hX.thenNo hE2
  refine wl_nil (f_then (c_seq (c_region (wl (st_ldB I_ok hb1 rfl (objC_len hx) (wl (st_call Tryd.call18 rfl rfl rfl rfl rfl rfl (bytes6_calls w2 hx (hxl.extNo hX) hf) fun v3 w3 hr3 => ?_)))))))
  obtain ⟨q, k, rfl, hq, hqn, hE3⟩ := hr3
  have hb1 := hb1.extNo hE3
  have hb2 := hb2.extNo hE3
  have hX := hX.thenNo hE3
  refine wl (st_call Tryd.call39 rfl rfl rfl rfl rfl rfl (refSum_calls w3 hq.sl (by omega)) fun v4 w4 hr4 => ?_)
  obtain ⟨rfl, hE4⟩ := hr4
  have hb1 := hb1.extNo hE4
  have hb2 := hb2.extNo hE4
  have hX := hX.thenNo hE4
  refine wl (st_stW (l' := bytesU (idOf x)) I_ok hb2 rfl rfl (by rw [bytesU_len, idOf_len]) (by rw [bytesU_len, idOf_len]; rfl) OneC.h fun w5 hb2 hE5 hs5 => ?_)
  have hb1 := hb1.ext1 hE5 ne1_2
  have hX := hX.thenNew hE5 fr2
  refine wl_nil (f_then (c_ret (f_ret [_] ⟨⟨b2, 0, rfl, ld_all I_ok rfl rfl hb2.seg (by rw [bytesU_len, idOf_len]; rfl)⟩, trivial⟩ ?_)))
  exact ⟨rfl, hX⟩

theorem links6_calls (w : World) {x : ObjD} {a : ObjP} (hx : ObjIn x) (hxl : ObjL w x a) (hsx : Short x) :
    CallsV Tryd.prog 21 [.agg (objC x a).toArray] w fun v w' => ∃ q k, v = .slice q (linksOf x).length k ∧ Own w' q (linksOf x).length k 26 32 ((linksOf x).flatMap bytesU) ∧ (∀ b, OwnB q b → w.heap.size ≤ b) ∧ Ext No w w' := by
  refine calls_enter Tryd.func21 rfl rfl rfl rfl ?_
  have hX := Ext.refl No w
  refine c_seq (c_region (wl (st_al I_ok rfl fun b1 w1 hn1 hb1 hE1 => ?_)))
  have fr1 := Nat.le_trans hX.size hn1
  have hX := hX.thenNo hE1
  have hb1 : Blk w1 b1 33 (objC x a) := hb1
  refine wl_p I_ok rfl (wl_nil (f_then (c_seq (c_region (wl_p I_ok rfl (wl_nil (f_then ?_)))))))
  refine c_cutK (α := Option Addr × Nat) [] rfl (fun z => [(3, .slice z.1 (linksOf x).length z.2)]) (fun z u => (Own u z.1 (linksOf x).length z.2 26 32 ((linksOf x).flatMap bytesU) ∧ ∀ b, OwnB z.1 b → w.heap.size ≤ b) ∧ Ext No w u) ?_ ?_
  · refine c_seq ?_
    refine c_region (wl_p I_ok rfl (wl (st_ld I_ok rfl (hb1.seg.obj hx).kind (wl_nil (f_then (c_block (c_seq (c_region (wl_p I_ok rfl (wl_nil (f_then (c_if rfl (fun hc => ?_) (fun hc => ?_)))))))))))))
    · have h2 : x.kind = 2 := hc
      refine c_seq (c_region (wl_p I_ok rfl (wl (st_ld I_ok rfl (hb1.seg.obj hx).leaves (wl_p I_ok rfl (wl_nil (f_then (c_block ?_))))))))
      refine c_loopK (α := Nat × Option Addr × Nat) [11, 12] rfl (fun z => [(3, .slice z.2.1 z.1 z.2.2), (13, .int .i64 (z.1 : Int))]) (fun z u => (z.1 ≤ x.leaves.length ∧ Own u z.2.1 z.1 z.2.2 26 32 (((x.leaves.take z.1).map LeafD.id).flatMap bytesU) ∧ (∀ y, OwnB z.2.1 y → w.heap.size ≤ y)) ∧ Ext No w u) (fun z u => x.leaves.length - z.1) (0, none, 0) rfl ⟨⟨Nat.zero_le _, Own.nil _ _ _, noOwn⟩, hX⟩ ?_
      rintro ⟨i, q, k⟩ w2 ⟨⟨hi, hq, hqn⟩, hX⟩
      try dsimp only
      dsimp only at hi hq hqn
      refine c_seq (c_region (wl_p I_ok rfl (wl_nil (f_then (c_seq (c_if rfl (fun hc => ?_) (fun hc => ?_)))))))
      · have hi : i < x.leaves.length := by omega
        obtain ⟨qb, qoff, hp, hsq⟩ := hxl.leaves.rowAll (fun r hr => LeafD.len (hx.leaves r hr).2) (by omega)
        rw [hp]
        have hll := hsx.leaves
        have ha1 := hx.leaves _ (List.getElem_mem hi)
        refine c_skip (f_then (c_seq (c_block (c_seq (c_region (wl (st_ix I_ok rfl 33 rfl i rfl (by omega) (qoff + i * 33) rfl (wl (st_ldN I_ok rfl ((hsq i hi).extNo hX) (LeafD.len ha1.2) (wl (st_al I_ok rfl fun b5 w3 hn5 hb5 hE3 => ?_)))))))))))
        have fr5 := Nat.le_trans hX.size hn5
        have hq := hq.ext hE3 fun _ _ => id
        have hX := hX.thenNo hE3
        have hb5o := hb5
        refine wl (st_stW (l' := (x.leaves[i]).cells) I_ok hb5 rfl rfl (LeafD.len ha1.2) (LeafD.len ha1.2) OneC.h fun w4 hb5 hE4 hs4 => ?_)
        have hq := hq.extTy hE4 hb5o (by decide)
        have hX := hX.thenNew hE4 fr5
        refine wl_nil (f_then (c_region (wl_p I_ok rfl (wl (st_ldN I_ok rfl (by have := hb5.seg.drop 1; exact this) (IdIn.len ha1.2) ?_)))))
        have ha5 : IdIn (x.leaves[i]).id := ha1.2
        refine wl (st_bs I_ok rfl 32 rfl idZ_c.symm (by rw [bytesU_len]; rfl) (by decide) (by decide) ⟨⟨by rw [cellsOf_agg]; exact (IdIn.len ha1.2), by decide⟩, trivial⟩ (l' := bytesU (x.leaves[i]).id) (one_id ha1.2) fun b20 w5 hn20 hb20 hE5 hs5 => ?_)
        have ne5_20 : b5 ≠ b20 := Nat.ne_of_lt (Nat.lt_of_lt_of_le hb5.lt hn20)
        have fr20 := Nat.le_trans hX.size hn20
        have hb5 := hb5.extNo hE5
        have hq := hq.ext hE5 fun _ _ => id
        have hX := hX.thenNo hE5
        have hX0 := hX
        refine wl (st_app I_ok rfl 32 32 rfl rfl rfl (by decide) hq (Src.slice (m := 1) (one_idS ha5 hb20) OneC.h) (by dsimp only [maxLen]; omega) (by dsimp only; omega) fun p6 c6 w6 ho6 hE6 hB6 => ?_)
        dsimp only at ho6 hE6 hB6 ⊢
        have hX := hX0.trans hE6 fun y hy hF => by have := hqn y hF; omega
        have hqn2 := newW hX0 hqn hB6
        have hq2 : Own w6 p6 (i + 1) c6 26 32 (((x.leaves.take (i + 1)).map LeafD.id).flatMap bytesU) := by
          have e1 : ((x.leaves.take (i + 1)).map LeafD.id).flatMap bytesU = ((x.leaves.take i).map LeafD.id).flatMap bytesU ++ bytesU (x.leaves[i]).id := by
            rw [List.take_succ_eq_append_getElem hi, List.map_append, List.flatMap_append]
            simp
          rw [e1]
          exact ho6
        refine wl_p I_ok rfl (wl_nil (f_blockN (f_then (c_region (wl_p I_ok rfl ?_)))))
        rw [IntWalk.i64_in _ (by omega)]
        refine wl_nil ?_
        exact f_round (i + 1, p6, c6) rfl ⟨⟨hi, hq2, hqn2⟩, hX⟩ (by first | omega | (dsimp only; omega))
      · have h0 : i = x.leaves.length := by omega
        subst h0
        rw [List.take_length] at hq
        have e2 : linksOf x = x.leaves.map LeafD.id := by rw [linksOf, if_pos h2]
        have e3 : (linksOf x).length = x.leaves.length := by rw [e2, List.length_map]
        refine c_exit ?_
        exact f_thenE (f_thenE (f_blockE (f_blockN (f_cut (q, k) (by rw [e3]; rfl) ⟨⟨by rw [e3, e2]; exact hq, hqn⟩, hX⟩))))
    · have h2 : ¬ x.kind = 2 := hc
      refine c_seq (c_region (wl_p I_ok rfl (wl_nil (f_then (c_if rfl (fun hc => ?_) (fun hc => ?_))))))
      · have h3 : x.kind = 3 := hc
        have hpl := hsx.parents
        have e2 : linksOf x = x.tree :: x.parents := by rw [linksOf, if_neg h2, if_pos h3]
        have e3 : 1 + x.parents.length = (linksOf x).length := by rw [e2, List.length_cons]; omega
        refine c_draw rfl 9 [(0, true), (1, true), (2, true), (5, true), (6, true), (3, false), (4, false), (7, false), (8, true)] [] (No) (by kernel_rfl) fun w7 hE7 hs7 => ?_
        have hd1 := hb1
        have hXd := hX
        have hb1 := hb1.extNo hE7
        have hX := hX.thenNo hE7
        have hC : Ext (No) _ w7 := hE7.no
        refine wd_k I_ok 2 rfl (wd_ldN I_ok rfl rfl (fun w' hw' => ((hd1.extNo hw').seg.obj hx).tree) (IdIn.len hx.tree) ?_)
        refine wd_k I_ok 1 rfl (wd_ld I_ok rfl rfl (fun w' hw' => ((hd1.extNo hw').seg.obj hx).parents) ?_)
        have ha5 : IdIn x.tree := hx.tree
        refine wd_l rfl (st_bs I_ok rfl 32 rfl idZ_c.symm (by rw [bytesU_len]; rfl) (by decide) (by decide) ⟨⟨by rw [cellsOf_agg]; exact (IdIn.len hx.tree), by decide⟩, trivial⟩ (l' := bytesU x.tree) (one_id hx.tree) fun b28 w8 hn28 hb28 hE8 hs8 => ⟨hC.thenNo hE8, ?_⟩)
        have ne1_28 : b1 ≠ b28 := Nat.ne_of_lt (Nat.lt_of_lt_of_le hb1.lt hn28)
        have fr28 := Nat.le_trans hX.size hn28
        have hb1 := hb1.extNo hE8
        have hX := hX.thenNo hE8
        have hC := hC.thenNo hE8
        have hX0 := hX
        have hC0 := hC
        refine wd_l rfl (st_app I_ok rfl 32 32 rfl rfl rfl (by decide) (Own.nil _ _ _) (Src.slice (m := 1) (one_idS ha5 hb28) OneC.h) (by dsimp only [maxLen]; omega) (by dsimp only; omega) fun p9 c9 w9 ho9 hE9 hB9 => ⟨hC.trans hE9 (fun y hy hF => (by cases hF)), ?_⟩)
        have hC := hC.trans hE9 (fun y hy hF => (by cases hF))
        dsimp only at ho9 hE9 hB9 ⊢
        have hX := hX0.trans hE9 fun y hy hF => by cases hF
        have hn1 : ∀ y, OwnB p9 y → w.heap.size ≤ y := fun y hy => (hB9 y hy).elim (fun h => by cases h) fun h => Nat.le_trans hX0.size h
        have hnc : ∀ y, OwnB p9 y → _ := fun y hy => (hB9 y hy).elim (fun h => by cases h) fun h => Nat.le_trans hC0.size h
        have ho1 : Own w9 p9 1 c9 26 32 (bytesU x.tree) := by have := ho9; rw [List.nil_append] at this; exact this
        have hX0 := hX
        refine wd_l rfl (st_app I_ok rfl 32 32 rfl rfl rfl (by decide) ho1 (Src.slice (hxl.parents.extNo hX) OneC.h) (by dsimp only [maxLen]; omega) (by dsimp only; omega) fun p10 c10 w10 ho10 hE10 hB10 => ⟨hC.trans hE10 (fun y hy hF => (by have := hnc y hF; omega)), ?_⟩)
        have hC := hC.trans hE10 (fun y hy hF => (by have := hnc y hF; omega))
        dsimp only at ho10 hE10 hB10 ⊢
        have hX := hX0.trans hE10 fun y hy hF => by have := hn1 y hF; omega
        have hqn2 := newW hX0 hn1 hB10
        rw [e3] at ho10 ⊢
        refine wd_k I_ok 1 rfl (wd_sw (wb_nil ?_))
        exact f_blockN (f_cut (p10, c10) rfl ⟨⟨by rw [show (linksOf x).flatMap bytesU = bytesU x.tree ++ x.parents.flatMap bytesU from by rw [e2]; rfl]; exact ho10, hqn2⟩, hX⟩)
      · have h3 : ¬ x.kind = 3 := hc
        have e2 : linksOf x = [] := by rw [linksOf, if_neg h2, if_neg h3]
        refine c_skip ?_
        exact f_blockN (f_cut (none, 0) (by rw [e2]; rfl) ⟨⟨by rw [e2]; exact Own.nil _ _ _, noOwn⟩, hX⟩)
  rintro ⟨q, k⟩ w11 ⟨⟨hq, hqn⟩, hX⟩
  try dsimp only
  dsimp only at hq hqn
  refine c_seq (c_region (wl_p I_ok rfl (wl_nil (f_then (c_ret (f_ret1 rfl rfl ?_))))))
  exact ⟨q, k, rfl, hq, hqn, hX⟩

theorem same6_calls (w : World) {x y : ObjD} {a b : ObjP} (hx : ObjIn x) (hy : ObjIn y) (hxl : ObjL w x a) (hyl : ObjL w y b) (hsx : Short x) :
    CallsV Tryd.prog 15 [.agg (objC x a).toArray, .agg (objC y b).toArray] w fun v w' => v = .bool (decide (x = y)) ∧ Ext No w w' := by
  have hlx1 := hsx.leaves
  have hlx2 := hsx.parents
  have hlx3 := hsx.rows
  refine calls_enter Tryd.func15 rfl rfl rfl rfl ?_
  have hX := Ext.refl No w
  refine c_seq (c_region (wl (st_al I_ok rfl fun b2 w1 hn2 hb2 hE1 => ?_)))
  have fr2 := Nat.le_trans hX.size hn2
  have hX := hX.thenNo hE1
  have hb2 : Blk w1 b2 33 (objC x a) := hb2
  have oa := hb2.seg.obj hx
  refine wl (st_al I_ok rfl fun b3 w2 hn3 hb3 hE2 => ?_)
  have ne2_3 : b2 ≠ b3 := Nat.ne_of_lt (Nat.lt_of_lt_of_le hb2.lt hn3)
  have fr3 := Nat.le_trans hX.size hn3
  have hb2 := hb2.extNo hE2
  have oa := oa.extNo hE2
  have hX := hX.thenNo hE2
  have hb3 : Blk w2 b3 33 (objC y b) := hb3
  have ob := hb3.seg.obj hy
  refine wl_p I_ok rfl (wl_nil (f_then (c_seq ?_)))
  refine c_cutK (α := Bool) [2, 3] rfl (fun z => [(34, .bool z)]) (fun z u => (z = decide (¬ (x.leaves.length = y.leaves.length ∧ x.parents.length = y.parents.length ∧ x.rows.length = y.rows.length))) ∧ Blk u b2 33 (objC x a) ∧ Blk u b3 33 (objC y b) ∧ Ext No w u) ?_ ?_
  · refine c_region ?_
    refine wl_p I_ok rfl (wl (st_ld I_ok rfl oa.leaves (wl_p I_ok rfl (wl (st_ld I_ok rfl ob.leaves (wl_p I_ok rfl (wl_caseD 15 rfl (fun hg => ?_) (fun hg => ?_))))))))
    · refine wl_pk I_ok 19 rfl ?_
      refine wl_nil ?_
      exact f_cut (true) rfl ⟨by symm; rw [decide_eq_true_eq]; intro h; omega, hb2, hb3, hX⟩
    · refine wl_pk I_ok 1 rfl ?_
      refine wl (st_ld I_ok rfl oa.parents (wl_pk I_ok 2 rfl (wl (st_ld I_ok rfl ob.parents (wl_pk I_ok 4 rfl (wl_caseD 24 rfl (fun hg => ?_) (fun hg => ?_)))))))
      · refine wl_pk I_ok 10 rfl ?_
        refine wl_nil ?_
        exact f_cut (true) rfl ⟨by symm; rw [decide_eq_true_eq]; intro h; omega, hb2, hb3, hX⟩
      · refine wl_pk I_ok 2 rfl ?_
        refine wl (st_ld I_ok rfl oa.rows (wl_pk I_ok 3 rfl (wl (st_ld I_ok rfl ob.rows (wl_pk I_ok 3 rfl (wl_nil ?_))))))
        exact f_cut (_) rfl ⟨by rw [decide_eq_decide]; omega, hb2, hb3, hX⟩
  rintro z w3 ⟨rfl, hb2, hb3, hX⟩
  have oa := hb2.seg.obj hx
  have ob := hb3.seg.obj hy
  refine c_if rfl (fun hc => ?_) (fun hc => ?_)
  · refine c_seq ?_
    refine c_region (wl_p I_ok rfl (wl_nil (f_then (c_ret (f_thenR (f_ret1 rfl rfl ?_))))))
    exact ⟨congrArg Value.bool (by symm; rw [decide_eq_false_iff_not]; intro e; subst e; exact hc ⟨rfl, rfl, rfl⟩), hX⟩
  · obtain ⟨hl1, hl2, hl3⟩ := Decidable.not_not.1 hc
    refine c_skip (f_then (c_seq (c_seq (c_region (wl_p I_ok rfl (wl (st_ld I_ok rfl oa.leaves (wl_p I_ok rfl (wl_nil (f_then (c_block ?_)))))))))))
    refine c_loopK (α := Nat) [2, 3, 37] rfl (fun z => [(38, .int .i64 (z : Int))]) (fun z u => (z ≤ x.leaves.length ∧ ∀ k (hk : k < x.leaves.length), k < z → x.leaves[k] = y.leaves[k]'(by omega)) ∧ Blk u b2 33 (objC x a) ∧ Blk u b3 33 (objC y b) ∧ Ext No w u) (fun z u => x.leaves.length - z) (0) rfl ⟨⟨Nat.zero_le _, fun k _ h => absurd h (Nat.not_lt_zero _)⟩, hb2, hb3, hX⟩ ?_
    rintro i w4 ⟨⟨hi, hok⟩, hb2, hb3, hX⟩
    have oa := hb2.seg.obj hx
    have ob := hb3.seg.obj hy
    refine c_seq (c_region (wl_p I_ok rfl (wl_nil (f_then (c_seq (c_if rfl (fun hc => ?_) (fun hc => ?_)))))))
    · have hi : i < x.leaves.length := by omega
      have him : i < y.leaves.length := by omega
      obtain ⟨ba, oa1, hpa, hsa⟩ := hxl.leaves.rowAll (fun r hr => LeafD.len (hx.leaves r hr).2) (by omega)
      obtain ⟨bb, ob1, hpb, hsb⟩ := hyl.leaves.rowAll (fun r hr => LeafD.len (hy.leaves r hr).2) (by omega)
      have ha1 := hx.leaves _ (List.getElem_mem hi)
      have ha2 := hy.leaves _ (List.getElem_mem him)
      refine c_skip (f_then (c_seq (c_block (c_seq (c_region (wl_p I_ok rfl (wl_nil (f_then (c_seq ?_)))))))))
      refine c_draw rfl 11 [(0, true), (1, true), (2, true), (3, true), (4, true), (5, true), (6, true), (7, true), (8, true), (9, true), (10, true)] [] (No) (by kernel_rfl) fun w5 hE5 hs5 => ?_
      have hd2 := hb2
      have hd3 := hb3
      have oad := oa
      have obd := ob
      have hXd := hX
      have hb2 := hb2.extNo hE5
      have hb3 := hb3.extNo hE5
      have oa := oa.extNo hE5
      have ob := ob.extNo hE5
      have hX := hX.thenNo hE5
      have hC : Ext (No) _ w5 := hE5.no
      refine wd_k I_ok 1 rfl (wd_ld I_ok rfl rfl (fun w' hw' => (oad.extNo hw').leaves) ?_)
      rw [hpa]
      refine wd_k I_ok 1 rfl (wd_ix I_ok rfl rfl 33 rfl i rfl (by omega) (oa1 + i * 33) rfl (wd_ldN I_ok rfl rfl (fun w' hw' => ((hsa i hi).extNo (hXd.thenNo hw'))) (LeafD.len ha1.2) ?_))
      refine wd_k I_ok 1 rfl (wd_ld I_ok rfl rfl (fun w' hw' => (obd.extNo hw').leaves) ?_)
      rw [hpb]
      refine wd_k I_ok 1 rfl (wd_ix I_ok rfl rfl 33 rfl i rfl (by omega) (ob1 + i * 33) rfl (wd_ldN I_ok rfl rfl (fun w' hw' => ((hsb i him).extNo (hXd.thenNo hw'))) (LeafD.len ha2.2) ?_))
      refine wd_eqK rfl rfl gLeafD 10 (by decide) kLeafD (leafForm (LeafD.len ha1.2)) (leafForm (LeafD.len ha2.2)) (leafKey ha1.1 ha1.2) (leafKey ha2.1 ha2.2) leaf_eq ?_
      simp only [Bool.false_eq_true, if_false]
      refine wd_sw (wb_nil (f_then (c_if rfl (fun hc => ?_) (fun hc => ?_))))
      · refine c_seq ?_
        refine c_region (wl_p I_ok rfl (wl_nil (f_then (c_ret (f_blockR (f_thenR (f_thenR (f_blockR (f_thenR (f_ret1 rfl rfl ?_))))))))))
        exact ⟨congrArg Value.bool (by symm; rw [decide_eq_false_iff_not]; intro e; subst e; exact hc rfl), hX⟩
      · have hei := Decidable.not_not.1 hc
        refine c_skip (f_blockN (f_then (c_region (wl_p I_ok rfl ?_))))
        rw [IntWalk.i64_in _ (by omega)]
        refine wl_nil ?_
        exact f_round (i + 1) rfl ⟨⟨by omega, fun k hk hlt => (by rcases Nat.lt_or_ge k i with h0 | h0; exact hok k hk h0; (have e : k = i := (by omega)); subst e; exact hei)⟩, hb2, hb3, hX⟩ (by first | omega | (dsimp only; omega))
    · have e1 : x.leaves = y.leaves := list_ext hl1 fun k hk => hok k hk (by omega)
      refine c_exit (f_thenE (f_thenE (f_blockE (f_then (c_seq (c_seq (c_region (wl_p I_ok rfl (wl (st_ld I_ok rfl oa.parents (wl_p I_ok rfl (wl_nil (f_then (c_block ?_))))))))))))))
      refine c_loopK (α := Nat) [2, 3, 55] rfl (fun z => [(56, .int .i64 (z : Int))]) (fun z u => (z ≤ x.parents.length ∧ ∀ k (hk : k < x.parents.length), k < z → x.parents[k] = y.parents[k]'(by omega)) ∧ Blk u b2 33 (objC x a) ∧ Blk u b3 33 (objC y b) ∧ Ext No w u) (fun z u => x.parents.length - z) (0) rfl ⟨⟨Nat.zero_le _, fun k _ h => absurd h (Nat.not_lt_zero _)⟩, hb2, hb3, hX⟩ ?_
      rintro i w6 ⟨⟨hi, hok⟩, hb2, hb3, hX⟩
      have oa := hb2.seg.obj hx
      have ob := hb3.seg.obj hy
      refine c_seq (c_region (wl_p I_ok rfl (wl_nil (f_then (c_seq (c_if rfl (fun hc => ?_) (fun hc => ?_)))))))
      · have hi : i < x.parents.length := by omega
        have him : i < y.parents.length := by omega
        obtain ⟨ba, oa1, hpa, hsa⟩ := hxl.parents.rowAll (fun r hr => IdIn.len (hx.parents r hr)) (by omega)
        obtain ⟨bb, ob1, hpb, hsb⟩ := hyl.parents.rowAll (fun r hr => IdIn.len (hy.parents r hr)) (by omega)
        have ha1 : IdIn _ := hx.parents _ (List.getElem_mem hi)
        have ha2 : IdIn _ := hy.parents _ (List.getElem_mem him)
        refine c_skip (f_then (c_seq (c_block (c_seq (c_region (wl_p I_ok rfl (wl_nil (f_then (c_seq ?_)))))))))
        refine c_draw rfl 11 [(0, true), (1, true), (2, true), (3, true), (4, true), (5, true), (6, true), (7, true), (8, true), (9, true), (10, true)] [] (No) (by kernel_rfl) fun w7 hE7 hs7 => ?_
        have hd2 := hb2
        have hd3 := hb3
        have oad := oa
        have obd := ob
        have hXd := hX
        have hb2 := hb2.extNo hE7
        have hb3 := hb3.extNo hE7
        have oa := oa.extNo hE7
        have ob := ob.extNo hE7
        have hX := hX.thenNo hE7
        have hC : Ext (No) _ w7 := hE7.no
        refine wd_k I_ok 1 rfl (wd_ld I_ok rfl rfl (fun w' hw' => (oad.extNo hw').parents) ?_)
        rw [hpa]
        refine wd_k I_ok 1 rfl (wd_ix I_ok rfl rfl 32 rfl i rfl (by omega) (oa1 + i * 32) rfl (wd_ldN I_ok rfl rfl (fun w' hw' => ((hsa i hi).extNo (hXd.thenNo hw'))) ha1.len ?_))
        refine wd_k I_ok 1 rfl (wd_ld I_ok rfl rfl (fun w' hw' => (obd.extNo hw').parents) ?_)
        rw [hpb]
        refine wd_k I_ok 1 rfl (wd_ix I_ok rfl rfl 32 rfl i rfl (by omega) (ob1 + i * 32) rfl (wd_ldN I_ok rfl rfl (fun w' hw' => ((hsb i him).extNo (hXd.thenNo hw'))) ha2.len ?_))
        refine wd_eqK rfl rfl gId 10 (by decide) kId (idForm ha1) (idForm ha2) (idKey ha1) (idKey ha2) idLits_inj ?_
        simp only [Bool.false_eq_true, if_false]
        refine wd_sw (wb_nil (f_then (c_if rfl (fun hc => ?_) (fun hc => ?_))))
        · refine c_seq ?_
          refine c_region (wl_p I_ok rfl (wl_nil (f_then (c_ret (f_blockR (f_thenR (f_thenR (f_blockR (f_thenR (f_ret1 rfl rfl ?_))))))))))
          exact ⟨congrArg Value.bool (by symm; rw [decide_eq_false_iff_not]; intro e; subst e; exact hc rfl), hX⟩
        · have hei := Decidable.not_not.1 hc
          refine c_skip (f_blockN (f_then (c_region (wl_p I_ok rfl ?_))))
          rw [IntWalk.i64_in _ (by omega)]
          refine wl_nil ?_
          exact f_round (i + 1) rfl ⟨⟨by omega, fun k hk hlt => (by rcases Nat.lt_or_ge k i with h0 | h0; exact hok k hk h0; (have e : k = i := (by omega)); subst e; exact hei)⟩, hb2, hb3, hX⟩ (by first | omega | (dsimp only; omega))
      · have e2 : x.parents = y.parents := list_ext hl2 fun k hk => hok k hk (by omega)
        refine c_exit (f_thenE (f_thenE (f_blockE (f_then (c_seq (c_seq (c_region (wl_p I_ok rfl (wl (st_ld I_ok rfl oa.rows (wl_p I_ok rfl (wl_nil (f_then (c_block ?_))))))))))))))
        refine c_loopK (α := Nat) [2, 3, 74] rfl (fun z => [(75, .int .i64 (z : Int))]) (fun z u => (z ≤ x.rows.length ∧ ∀ k (hk : k < x.rows.length), k < z → x.rows[k] = y.rows[k]'(by omega)) ∧ Blk u b2 33 (objC x a) ∧ Blk u b3 33 (objC y b) ∧ Ext No w u) (fun z u => x.rows.length - z) (0) rfl ⟨⟨Nat.zero_le _, fun k _ h => absurd h (Nat.not_lt_zero _)⟩, hb2, hb3, hX⟩ ?_
        rintro i w8 ⟨⟨hi, hok⟩, hb2, hb3, hX⟩
        have oa := hb2.seg.obj hx
        have ob := hb3.seg.obj hy
        refine c_seq (c_region (wl_p I_ok rfl (wl_nil (f_then (c_seq (c_if rfl (fun hc => ?_) (fun hc => ?_)))))))
        · have hi : i < x.rows.length := by omega
          have him : i < y.rows.length := by omega
          obtain ⟨ba, oa1, hpa, hsa⟩ := hxl.rows.rowAll (fun r _ => r.len) (by omega)
          obtain ⟨bb, ob1, hpb, hsb⟩ := hyl.rows.rowAll (fun r _ => r.len) (by omega)
          have ha1 := hx.rows _ (List.getElem_mem hi)
          have ha2 := hy.rows _ (List.getElem_mem him)
          refine c_skip (f_then (c_seq (c_block (c_seq (c_region (wl_p I_ok rfl (wl_nil (f_then (c_seq ?_)))))))))
          refine c_draw rfl 13 [(0, true), (1, true), (2, true), (3, true), (4, true), (5, true), (6, true), (7, true), (8, true), (9, true), (10, true), (11, true), (12, true)] [] (No) (by kernel_rfl) fun w9 hE9 hs9 => ?_
          have hd2 := hb2
          have hd3 := hb3
          have oad := oa
          have obd := ob
          have hXd := hX
          have hb2 := hb2.extNo hE9
          have hb3 := hb3.extNo hE9
          have oa := oa.extNo hE9
          have ob := ob.extNo hE9
          have hX := hX.thenNo hE9
          have hC : Ext (No) _ w9 := hE9.no
          refine wd_k I_ok 2 rfl (wd_ld I_ok rfl rfl (fun w' hw' => (oad.extNo hw').rows) ?_)
          rw [hpa]
          refine wd_k I_ok 1 rfl (wd_ix I_ok rfl rfl 3 rfl i rfl (by omega) (oa1 + i * 3) rfl (wd_ldN I_ok rfl rfl (fun w' hw' => ((hsa i hi).extNo (hXd.thenNo hw'))) rfl ?_))
          refine wd_k I_ok 2 rfl (wd_ld I_ok rfl rfl (fun w' hw' => (obd.extNo hw').rows) ?_)
          rw [hpb]
          refine wd_k I_ok 1 rfl (wd_ix I_ok rfl rfl 3 rfl i rfl (by omega) (ob1 + i * 3) rfl (wd_ldN I_ok rfl rfl (fun w' hw' => ((hsb i him).extNo (hXd.thenNo hw'))) rfl ?_))
          refine wd_eqK rfl rfl gChgD 10 (by decide) kChgD (chgForm rfl) (chgForm rfl) (chgKey ha1.1 ha1.2) (chgKey ha2.1 ha2.2) chg_eq ?_
          simp only [Bool.false_eq_true, if_false]
          refine wd_sw (wb_nil (f_then (c_if rfl (fun hc => ?_) (fun hc => ?_))))
          · refine c_seq ?_
            refine c_region (wl_p I_ok rfl (wl_nil (f_then (c_ret (f_blockR (f_thenR (f_thenR (f_blockR (f_thenR (f_ret1 rfl rfl ?_))))))))))
            exact ⟨congrArg Value.bool (by symm; rw [decide_eq_false_iff_not]; intro e; subst e; exact hc rfl), hX⟩
          · have hei := Decidable.not_not.1 hc
            refine c_skip (f_blockN (f_then (c_region (wl_p I_ok rfl ?_))))
            rw [IntWalk.i64_in _ (by omega)]
            refine wl_nil ?_
            exact f_round (i + 1) rfl ⟨⟨by omega, fun k hk hlt => (by rcases Nat.lt_or_ge k i with h0 | h0; exact hok k hk h0; (have e : k = i := (by omega)); subst e; exact hei)⟩, hb2, hb3, hX⟩ (by first | omega | (dsimp only; omega))
        · have e3 : x.rows = y.rows := list_ext hl3 fun k hk => hok k hk (by omega)
          refine c_exit (f_thenE (f_thenE (f_blockE (f_then (c_cutK (α := Bool) [] rfl (fun z => [(4, .bool z)]) (fun z u => (z = decide (x = y)) ∧ Ext No w u) ?_ ?_)))))
          · refine c_region ?_
            refine wl_p I_ok rfl (wl (st_ld I_ok rfl oa.kind (wl_p I_ok rfl (wl (st_ld I_ok rfl ob.kind (wl_p I_ok rfl (wl_caseD 97 rfl (fun hg => ?_) (fun hg => ?_))))))))
            · have t1 : x.kind = y.kind := by exact hg
              refine wl_pk I_ok 1 rfl (wl (st_ld I_ok rfl oa.text (wl_pk I_ok 1 rfl (wl (st_ld I_ok rfl ob.text (wl_pk I_ok 3 rfl (wl_caseD 104 rfl (fun hg => ?_) (fun hg => ?_))))))))
              · have t2 : x.text = y.text := by exact str_iff.1 hg
                refine wl_pk I_ok 1 rfl (wl (st_ld I_ok rfl oa.style (wl_pk I_ok 1 rfl (wl (st_ld I_ok rfl ob.style (wl_pk I_ok 3 rfl (wl_caseD 111 rfl (fun hg => ?_) (fun hg => ?_))))))))
                · have t3 : x.style = y.style := by exact hg
                  refine wl_pk I_ok 1 rfl (wl (st_ldN I_ok rfl oa.tree (IdIn.len hx.tree) (wl_pk I_ok 1 rfl (wl (st_ldN I_ok rfl ob.tree (IdIn.len hy.tree) ?_)))))
                  refine wl (st_eqK rfl gId 10 (by decide) kId (idForm hx.tree) (idForm hy.tree) (idKey hx.tree) (idKey hy.tree) idLits_inj ?_)
                  simp only [if_true]
                  refine wl_p I_ok rfl (wl_caseD 118 rfl (fun hg => ?_) (fun hg => ?_))
                  · have t4 : x.tree = y.tree := by exact hg
                    refine wl_pk I_ok 1 rfl (wl (st_ldN I_ok rfl oa.base (IdIn.len hx.base) (wl_pk I_ok 1 rfl (wl (st_ldN I_ok rfl ob.base (IdIn.len hy.base) ?_)))))
                    refine wl (st_eqK rfl gId 10 (by decide) kId (idForm hx.base) (idForm hy.base) (idKey hx.base) (idKey hy.base) idLits_inj ?_)
                    simp only [if_true]
                    refine wl_p I_ok rfl (wl_caseD 125 rfl (fun hg => ?_) (fun hg => ?_))
                    · have t5 : x.base = y.base := by exact hg
                      refine wl_pk I_ok 1 rfl (wl (st_ld I_ok rfl oa.number (wl_pk I_ok 1 rfl (wl (st_ld I_ok rfl ob.number (wl_pk I_ok 3 rfl (wl_caseD 132 rfl (fun hg => ?_) (fun hg => ?_))))))))
                      · have t6 : x.number = y.number := by omega
                        refine wl_pk I_ok 1 rfl (wl (st_ld I_ok rfl oa.author (wl_pk I_ok 1 rfl (wl (st_ld I_ok rfl ob.author (wl_pk I_ok 3 rfl (wl_caseD 139 rfl (fun hg => ?_) (fun hg => ?_))))))))
                        · have t7 : x.author = y.author := by omega
                          refine wl_pk I_ok 1 rfl (wl (st_ld I_ok rfl oa.note (wl_pk I_ok 1 rfl (wl (st_ld I_ok rfl ob.note (wl_pk I_ok 3 rfl (wl_nil ?_)))))))
                          exact f_cut (_) rfl ⟨by rw [decide_eq_decide, str_iff]; exact ⟨fun h => same_iff.2 ⟨⟨t1, t2, t3, t4, t5, t6, t7, h⟩, e1, e2, e3⟩, fun h => (same_iff.1 h).1.2.2.2.2.2.2.2⟩, hX⟩
                        · have n7 : ¬ x.author = y.author := fun e => hg (by rw [e])
                          refine wl_pk I_ok 7 rfl (wl_nil ?_)
                          exact f_cut (false) rfl ⟨by symm; rw [decide_eq_false_iff_not]; intro e; have h := (same_iff.1 e).1; exact n7 h.2.2.2.2.2.2.1, hX⟩
                      · have n6 : ¬ x.number = y.number := fun e => hg (by rw [e])
                        refine wl_pk I_ok 14 rfl (wl_nil ?_)
                        exact f_cut (false) rfl ⟨by symm; rw [decide_eq_false_iff_not]; intro e; have h := (same_iff.1 e).1; exact n6 h.2.2.2.2.2.1, hX⟩
                    · have n5 : ¬ x.base = y.base := fun e => hg (by rw [e])
                      refine wl_pk I_ok 21 rfl (wl_nil ?_)
                      exact f_cut (false) rfl ⟨by symm; rw [decide_eq_false_iff_not]; intro e; have h := (same_iff.1 e).1; exact n5 h.2.2.2.2.1, hX⟩
                  · have n4 : ¬ x.tree = y.tree := fun e => hg (by rw [e])
                    refine wl_pk I_ok 28 rfl (wl_nil ?_)
                    exact f_cut (false) rfl ⟨by symm; rw [decide_eq_false_iff_not]; intro e; have h := (same_iff.1 e).1; exact n4 h.2.2.2.1, hX⟩
                · have n3 : ¬ x.style = y.style := fun e => hg (by rw [e])
                  refine wl_pk I_ok 35 rfl (wl_nil ?_)
                  exact f_cut (false) rfl ⟨by symm; rw [decide_eq_false_iff_not]; intro e; have h := (same_iff.1 e).1; exact n3 h.2.2.1, hX⟩
              · have n2 : ¬ x.text = y.text := fun e => hg (by rw [e])
                refine wl_pk I_ok 42 rfl (wl_nil ?_)
                exact f_cut (false) rfl ⟨by symm; rw [decide_eq_false_iff_not]; intro e; have h := (same_iff.1 e).1; exact n2 h.2.1, hX⟩
            · have n1 : ¬ x.kind = y.kind := fun e => hg (by rw [e])
              refine wl_pk I_ok 49 rfl (wl_nil ?_)
              exact f_cut (false) rfl ⟨by symm; rw [decide_eq_false_iff_not]; intro e; have h := (same_iff.1 e).1; exact n1 h.1, hX⟩
          rintro z w10 ⟨rfl, hX⟩
          refine c_ret (f_ret1 rfl rfl ?_)
          exact ⟨rfl, hX⟩
end Go.Proofs.YtjghckniloikgaaDoor
