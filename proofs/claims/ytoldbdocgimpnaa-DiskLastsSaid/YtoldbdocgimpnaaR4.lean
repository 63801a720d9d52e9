/- the document's disk: what lives on, syncing, crashing, setting -/
import Derived.Test.YtoldbdocgimpnaaR3
namespace Go.Proofs.Ytoldbdocgimpnaa
open Go.Vc

theorem entRow_safe {e : Ent} (h : e.blk.length = 64) : (entRow e)[65]? = some (.bool e.safe) := by
  have h64 := bytesL_len h
  have : entRow e = ([.int .i64 e.sec] ++ bytesL e.blk) ++ [.bool e.safe] := rfl
  rw [this, List.getElem?_append_right (by simp [h64])]
  simp [h64]
theorem entRow_set {e : Ent} (h : e.blk.length = 64) (b : Bool) : (entRow e).set 65 (.bool b) = entRow { e with safe := b } := by
  have h64 := bytesL_len h
  have : entRow e = ([.int .i64 e.sec] ++ bytesL e.blk) ++ [.bool e.safe] := rfl
  rw [this, List.set_append_right _ _ (by simp [h64])]
  simp [h64, entRow]

def waitN (l : List Ent) : Nat := l.countP fun e => !e.safe
theorem waitN_snoc (l : List Ent) (e : Ent) : waitN (l ++ [e]) = waitN l + (if e.safe = true then 0 else 1) := by
  simp only [waitN, List.countP_append, List.countP_cons, List.countP_nil]
  cases e.safe <;> simp
theorem waitN_le (l : List Ent) : waitN l ≤ l.length := List.countP_le_length
theorem liveL_snoc (all : Bool) (keep : List Bool) : ∀ (l : List Ent) (e : Ent) (j : Nat), liveL all keep (l ++ [e]) j = liveL all keep l j ++ (if e.safe = true ∨ all = true ∨ livesOf keep (j + waitN l) = true then [⟨e.sec, e.blk, true⟩] else [])
  | [], e, j => by
    simp only [List.nil_append, liveL, waitN, List.countP_nil, Nat.add_zero]
    by_cases h1 : e.safe = true
    · simp [h1]
    · by_cases h2 : all = true ∨ livesOf keep j = true
      · simp [h1, h2]
      · simp [h1, h2]
  | a :: l, e, j => by
    simp only [List.cons_append, liveL]
    by_cases h1 : a.safe = true
    · have e1 : waitN (a :: l) = waitN l := by simp [waitN, h1]
      rw [if_pos h1, if_pos h1, liveL_snoc all keep l e j, e1]
      rfl
    · have e1 : j + waitN (a :: l) = j + 1 + waitN l := by simp [waitN, h1]; omega
      rw [if_neg h1, if_neg h1, liveL_snoc all keep l e (j + 1), e1]
      split <;> rfl
theorem liveL_len (all : Bool) (keep : List Bool) : ∀ (l : List Ent) (j : Nat), (liveL all keep l j).length ≤ l.length
  | [], _ => Nat.le_refl _
  | a :: l, j => by
    have h1 := liveL_len all keep l j
    have h2 := liveL_len all keep l (j + 1)
    simp only [liveL]
    repeat' split
    all_goals simp only [List.length_cons]; omega
theorem liveL_blk (all : Bool) (keep : List Bool) : ∀ (l : List Ent) (j : Nat), (∀ e ∈ l, e.blk.length = 64) → ∀ e ∈ liveL all keep l j, e.blk.length = 64
  | [], _, _, e, he => by cases he
  | a :: l, j, h, e, he => by
    have h1 := fun j => liveL_blk all keep l j (fun x hx => h x (by simp [hx])) e
    have ha := h a (by simp)
    simp only [liveL] at he
    repeat' split at he
    · rcases List.mem_cons.1 he with rfl | he
      · exact ha
      · exact h1 _ he
    · rcases List.mem_cons.1 he with rfl | he
      · exact ha
      · exact h1 _ he
    · exact h1 _ he

theorem live_calls (w : World) {p q : Option Addr} {c qc : Nat} {l : List Ent} {keep : List Bool} (all : Bool) (h : RefW w p l) (hn : l.length < 1000000000) (hk : Sl w q keep.length 1 (boolsL keep)) (hkn : keep.length < 1000000000) :
    CallsV Try.prog 46 [.slice p l.length c, .bool all, .slice q keep.length qc] w fun v w' => ∃ p' c', v = .slice p' (liveL all keep l 0).length c' ∧ RefW w' p' (liveL all keep l 0) ∧ (∀ b off, p' = some ⟨b, off, none⟩ → w.heap.size ≤ b ∧ TyB w' b 90) ∧ Ext No w w' := by
  refine calls_enter Try.func46 rfl rfl rfl rfl ?_
  have hX := Ext.refl No w
  refine c_seq (c_region (wl_p I_ok rfl (wl_nil (f_then (c_seq (c_region (wl_p I_ok rfl (wl_nil (f_then (c_seq (c_region (wl_p I_ok rfl (wl_nil (f_then (c_seq (c_seq (c_region (wl_p I_ok rfl (wl_nil (f_then (c_block ?_)))))))))))))))))))))
  refine c_loop (α := Nat × Option Addr × Nat) (fun z u => z.1 ≤ l.length ∧ Own u z.2.1 (liveL all keep (l.take z.1) 0).length z.2.2 90 66 (entL (liveL all keep (l.take z.1) 0)) ∧ (∀ b, OwnB z.2.1 b → w.heap.size ≤ b) ∧ Ext No w u)
    (fun z => [(7, .slice z.2.1 (liveL all keep (l.take z.1) 0).length z.2.2), (8, .int .i64 (waitN (l.take z.1) : Int)), (9, .int .i64 (z.1 : Int)), (0, .slice p l.length c), (1, .bool all), (2, .slice q keep.length qc)]) (fun z u => l.length - z.1) (0, none, 0) rfl ⟨Nat.zero_le _, Own.nil _ _ _, fun b hb => (by cases hb), hX⟩ ?_
  rintro ⟨k, p7, c7⟩ u ⟨hkl, hown, hnew, hX⟩
  dsimp only at hkl hown hnew ⊢
  refine c_seq ?_
  refine c_seq (c_region (wl_p I_ok rfl (wl_nil (f_then (c_if rfl (fun hc => ?_) (fun hc => ?_))))))
  · have hk' : k < l.length := by omega
    obtain ⟨b, off, hp, hrow, hc1, hc2, hc3, hl64⟩ := (h.extNo hX).get hk'
    have htake : l.take (k + 1) = l.take k ++ [l[k]] := List.take_succ_eq_append_getElem hk'
    have hb64 : l[k].blk.length = 64 := h.2 _ (List.getElem_mem hk')
    have hwn := waitN_le (l.take k)
    have hll := liveL_len all keep (l.take k) 0
    have htl : (l.take k).length = k := by rw [List.length_take]; omega
    generalize hek : l[k] = e at *
    subst hp
    refine c_skip ?_
    refine f_then (c_cutK (α := Option Addr × Nat) [0, 1, 2, 9] rfl (fun z => [(7, .slice z.1 (liveL all keep (l.take (k + 1)) 0).length z.2), (8, .int .i64 (waitN (l.take (k + 1)) : Int))]) (fun z u => Own u z.1 (liveL all keep (l.take (k + 1)) 0).length z.2 90 66 (entL (liveL all keep (l.take (k + 1)) 0)) ∧ (∀ b, OwnB z.1 b → w.heap.size ≤ b) ∧ Ext No w u) ?_ ?_)
    · refine c_block ?_
      have h66 : (entRow e).length = 66 := entRow_len hb64
      refine c_seq (c_region (wl_p I_ok rfl (wl (st_ix I_ok rfl 66 rfl k rfl hk' (off + k * 66) rfl (wl (st_ldN I_ok rfl hrow h66 (wl (st_al I_ok rfl fun b10 w1 hn10 hb10 hE1 => ?_))))))))
      have fr10 := Nat.le_trans hX.size hn10
      have hX := hX.thenNo hE1
      have hne10 : ∀ x, OwnB p7 x → x ≠ b10 := fun x hx e => by have := hown.lt hx; omega
      have hown := hown.ext hE1 fun _ _ => id
      refine wl (st_stW (l' := entRow e) I_ok hb10 rfl (by rw [cellsOf_agg]) h66 (by rw [h66, z90_len]) (fun v hv => one_ents (l := [e]) v (by simpa [entL] using hv)) fun w2 hb10 hE2 hs2 => ?_)
      have hown := hown.ext hE2 hne10
      have hX := hX.thenNew hE2 fr10
      refine wl_nil (f_then (c_cutK (α := Bool) [0, 1, 2, 7, 8, 9, 10] rfl (fun z => [(11, .bool z)]) (fun z u => u = w2 ∧ z = (e.safe || all)) ?_ ?_))
      · refine c_region ?_
        refine wl_p I_ok rfl (wl (st_ld I_ok rfl (hb10.cell (entRow_safe hb64)) (wl_p I_ok rfl (wl_case 24 rfl (fun hg => ?_) (fun hg => ?_)))))
        · refine wl_pg I_ok rfl ?_
          refine wl_nil ?_
          exact f_cut true rfl ⟨rfl, by simp [hg]⟩
        · refine wl_pg I_ok rfl ?_
          refine wl_nil ?_
          exact f_cut all rfl ⟨rfl, by simp [hg]⟩
      rintro z w3 ⟨rfl, rfl⟩
      refine c_cutK (α := Bool) [0, 1, 2, 7, 9, 10] rfl (fun z => [(8, .int .i64 (waitN (l.take (k + 1)) : Int)), (11, .bool z)]) (fun z u => u = w3 ∧ z = decide (e.safe = true ∨ all = true ∨ livesOf keep (0 + waitN (l.take k)) = true)) ?_ ?_
      · refine c_seq ?_
        refine c_region (wl_p I_ok rfl (wl (st_ld I_ok rfl (hb10.cell (entRow_safe hb64)) (wl_p I_ok rfl (wl_nil (f_then (c_cond rfl (fun hc => ?_) (fun hc => ?_))))))))
        · have hsf : e.safe = false := by simpa using hc
          have hwt : waitN (l.take (k + 1)) = waitN (l.take k) + 1 := by rw [htake, waitN_snoc, hsf]; rfl
          refine c_cutK (α := Bool) [0, 1, 2, 7, 8, 9, 10] rfl (fun z => [(11, .bool z)]) (fun z u => u = w3 ∧ z = decide (e.safe = true ∨ all = true ∨ livesOf keep (0 + waitN (l.take k)) = true)) ?_ ?_
          · refine c_cutK (α := Bool) [0, 1, 2, 7, 8, 9, 10, 11] rfl (fun z => [(39, .bool z)]) (fun z u => u = w3 ∧ z = livesOf keep (waitN (l.take k))) ?_ ?_
            · refine c_region ?_
              refine wl_p I_ok rfl (wl_caseD 34 rfl (fun hg => ?_) (fun hg => ?_))
              · have hg' : waitN (l.take k) < keep.length := by omega
                obtain ⟨kb, ko, hq, hks⟩ := ((hk.extNo hX).2).resolve_left (by omega)
                subst hq
                refine wl_pg I_ok rfl ?_
                refine wl (st_ix I_ok rfl 1 rfl (waitN (l.take k)) rfl hg' (ko + waitN (l.take k)) (by omega) (wl (st_ld I_ok rfl (hks _ (.bool keep[waitN (l.take k)]) (by simp [boolsL, hg'])) (wl_p I_ok rfl (wl_nil ?_)))))
                exact f_cut _ rfl ⟨rfl, by simp [livesOf, hg']⟩
              · refine wl_pg I_ok rfl ?_
                refine wl_nil ?_
                exact f_cut false rfl ⟨rfl, by rw [livesOf, List.getElem?_eq_none (by omega)]; rfl⟩
            rintro z w4 ⟨rfl, rfl⟩
            refine c_cond rfl (fun hc => ?_) (fun hc => ?_)
            · refine c_region ?_
              refine wl_p I_ok rfl (wl_nil ?_)
              exact f_cut true rfl ⟨rfl, by simp [hc]⟩
            · refine c_skip ?_
              exact f_cut _ rfl ⟨rfl, by simp [hc, hsf]⟩
          rintro z w4 ⟨rfl, rfl⟩
          refine c_region (wl_p I_ok rfl ?_)
          rw [IntWalk.i64_in _ (by omega)]
          refine wl_nil ?_
          exact f_cut _ (by rw [hwt]; rfl) ⟨rfl, rfl⟩
        · have hsf : e.safe = true := by simpa using hc
          have hwt : waitN (l.take (k + 1)) = waitN (l.take k) := by rw [htake, waitN_snoc, hsf]; rfl
          refine c_skip ?_
          exact f_cut (e.safe || all) (by rw [hwt]; rfl) ⟨rfl, by simp [hsf]⟩
      rintro z w4 ⟨rfl, rfl⟩
      refine c_seq (c_region (wl_p I_ok rfl (wl_nil (f_then (c_if rfl (fun hc => ?_) (fun hc => ?_))))))
      · have hlv : liveL all keep (l.take (k + 1)) 0 = liveL all keep (l.take k) 0 ++ [⟨e.sec, e.blk, true⟩] := by rw [htake, liveL_snoc, if_pos hc]
        refine c_seq ?_
        refine c_region (wl_p I_ok rfl (wl (st_set I_ok hb10 rfl rfl (by rw [h66]; decide) fun w3 hb103 hE3 hs3 => ?_)))
        have hb103 : Blk w3 b10 90 (entRow { e with safe := true }) := by rw [← entRow_set hb64]; exact hb103
        have hown := hown.ext hE3 hne10
        have hX := hX.thenNew hE3 fr10
        have h66' : (entRow { e with safe := true }).length = 66 := entRow_len hb64
        refine wl_nil (f_then (c_region (wl_p I_ok rfl (wl (st_ldB I_ok hb103 rfl h66' (wl (st_bs I_ok rfl 66 rfl (zs := cellsOf ti90.zero) rfl rfl (by decide) (by decide) ⟨⟨by rw [cellsOf_agg]; exact h66', by decide⟩, trivial⟩ (l' := entRow { e with safe := true }) ?_ fun b46 w4 hn46 hb46 hE4 hs4 => ?_)))))))
        · simp only [putAll, cellsOf_agg]
          rw [Nat.zero_mul, put_whole]
          rw [rep_length, h66', z90_len]
        dsimp only
        rw [Nat.zero_add]
        have hown := hown.ext hE4 fun _ _ => id
        have hX4 := hX
        have hX := hX.thenNo hE4
        have e1 : entL [{ e with safe := true }] = entRow { e with safe := true } := by simp [entL]
        have hsrc2 : Src Try.prog w4 66 (.slice (some ⟨b46, 0, none⟩) 1 1) 1 (entL [{ e with safe := true }]) := Src.slice ⟨by rw [e1, h66'], .inr ⟨b46, 0, rfl, by rw [e1]; exact hb46.seg⟩⟩ one_ents
        refine wl (st_app I_ok rfl 66 80 rfl rfl rfl (by decide) hown hsrc2 (by dsimp only [maxLen]; omega) (by dsimp only; omega) fun p5 c5 w5 ho5 hE5 hB5 => ?_)
        have e2 : entL (liveL all keep (l.take k) 0) ++ entL [{ e with safe := true }] = entL (liveL all keep (l.take (k + 1)) 0) := by rw [hlv]; simp [entL]
        have hlen : (liveL all keep (l.take (k + 1)) 0).length = (liveL all keep (l.take k) 0).length + 1 := by rw [hlv]; simp
        have ho5 : Own w5 p5 ((liveL all keep (l.take k) 0).length + 1) c5 90 66 (entL (liveL all keep (l.take k) 0) ++ entL [{ e with safe := true }]) := ho5
        rw [e2, ← hlen] at ho5
        refine wl_p I_ok rfl (wl_nil ?_)
        refine f_blockN (f_cut (p5, c5) (by dsimp only; rw [hlen]; rfl) ⟨ho5, fun x hx => ?_, hX.trans hE5 fun x hx e => ?_⟩)
        · rcases hB5 x hx with h' | h'
          · exact hnew x h'
          · have := hX.size; omega
        · have := hnew x e; omega
      · have hlv : liveL all keep (l.take (k + 1)) 0 = liveL all keep (l.take k) 0 := by rw [htake, liveL_snoc, if_neg hc, List.append_nil]
        refine c_skip ?_
        exact f_blockN (f_cut (p7, c7) (by rw [hlv]; rfl) ⟨by rw [hlv]; exact hown, hnew, hX⟩)
    rintro ⟨p8, c8⟩ w8 ⟨hown, hnew, hX⟩
    refine c_region (wl_p I_ok rfl ?_)
    rw [IntWalk.i64_in _ (by omega)]
    refine wl_nil ?_
    exact f_round (k + 1, p8, c8) rfl ⟨by omega, hown, hnew, hX⟩ (by dsimp only; omega)
  · have hk2 : k = l.length := by omega
    subst hk2
    rw [List.take_of_length_le (Nat.le_refl _)] at hown
    refine c_exit ?_
    refine f_thenE (f_thenE (f_blockE (f_then (c_seq (c_region (wl_p I_ok rfl (wl_nil (f_then (c_ret (f_ret1 rfl rfl ?_))))))))))
    rw [List.take_of_length_le (Nat.le_refl _)]
    refine ⟨p7, c7, rfl, ⟨hown.sl, liveL_blk all keep l 0 h.2⟩, fun b off hb => ?_, hX⟩
    have hO : OwnB p7 b := by
      rcases hown with ⟨hp, _⟩ | ⟨b', l', hp, _⟩
      · rw [hp] at hb; cases hb
      · rw [hp] at hb
        simp at hb
        obtain ⟨rfl, rfl⟩ := hb
        exact hp
    exact ⟨hnew b hO, Own.ty hown hO⟩


theorem refSync_calls (w : World) (x : RDsk) (p : Option Addr) (c : Nat) (hx : x.Fits) (h : RefW w p x.wr) (hn : x.wr.length < 1000000000) :
    CallsV Try.prog 41 [.agg (refL x p c).toArray] w fun v w' => ∃ p' c', v = .tuple #[.agg (refL x.sync.1 p' c').toArray, .int .i64 x.sync.2] ∧ RefW w' p' x.sync.1.wr ∧ NewOr w p p' x.wr x.sync.1.wr ∧ Ext No w w' := by
  have hwr := x.begin_wr 0 true
  have h0 := h
  refine calls_enter Try.func41 rfl rfl rfl rfl ?_
  have hX := Ext.refl No w
  refine c_seq (c_region (wl (st_al I_ok rfl fun b1 w1 hn1 hb1 hE1 => ?_)))
  have fr1 := Nat.le_trans hX.size hn1
  have hX := hX.thenNo hE1
  refine wl (st_al I_ok rfl fun b2 w2 hn2 hb2 hE2 => ?_)
  have ne1_2 : b1 ≠ b2 := Nat.ne_of_lt (Nat.lt_of_lt_of_le hb1.lt hn2)
  have fr2 := Nat.le_trans hX.size hn2
  have hb1 := hb1.extNo hE2
  have hX := hX.thenNo hE2
  have hb1 : Blk w2 b1 48 (refL x p c) := hb1
  refine wl_p I_ok rfl (wl_nil (f_then (c_seq (c_region (wl (st_ldB I_ok hb1 rfl rfl (wl (st_call Try.call58 rfl rfl rfl rfl rfl rfl (begin_calls w2 x p c hx 0 true) fun v3 w3 hr3 => ?_))))))))
  obtain ⟨rfl, hE3⟩ := hr3
  have hb1 := hb1.extNo hE3
  have hb2 := hb2.extNo hE3
  have hX := hX.thenNo hE3
  have hrd : x.sync = (if (x.begin 0 true).2 = 0 then { (x.begin 0 true).1 with wr := liveL true [] (x.begin 0 true).1.wr 0 } else (x.begin 0 true).1, (x.begin 0 true).2) := rfl
  rw [hrd]
  generalize x.begin 0 true = y at hwr
  obtain ⟨y, e⟩ := y
  dsimp only at hwr ⊢
  rw [← hwr] at h hn
  have hslice : Value.slice p x.wr.length c = Value.slice p y.wr.length c := by rw [hwr]
  refine wl_p I_ok rfl (wl (st_stW (l' := refL y p c) I_ok hb1 rfl rfl rfl rfl (ref_flat _ _ _) fun w4 hb1 hE4 hs4 => ?_))
  have hb2 := hb2.ext1 hE4 ne1_2.symm
  have hX := hX.thenNew hE4 fr1
  have h := h.extNo hX
  have hXw4 := hX
  refine wl_p I_ok rfl (wl_nil (f_then (c_cutK (α := RDsk × Option Addr × Nat) [1, 2, 4] rfl (fun z => []) (fun z u => z.1 = (if e = 0 then { y with wr := liveL true [] y.wr 0 } else y) ∧ Blk u b1 48 (refL z.1 z.2.1 z.2.2) ∧ Blk u b2 48 (cellsOf ti48.zero) ∧ RefW u z.2.1 z.1.wr ∧ NewOr w p z.2.1 x.wr z.1.wr ∧ (z.1.wr.length ≠ 0 → ∀ b' off, z.2.1 = some ⟨b', off, none⟩ → b' ≠ b2) ∧ Ext No w u) ?_ ?_)))
  · refine c_seq ?_
    refine c_region (wl_p I_ok rfl (wl_nil (f_then (c_if rfl (fun hc => ?_) (fun hc => ?_)))))
    · refine c_region ?_
      refine wl_p I_ok rfl (wl (st_ldb I_ok hb1 rfl rfl (wl (st_call Try.call46 rfl rfl rfl rfl rfl rfl (live_calls w4 (keep := []) true h hn (Sl.nil _ _ _) (by decide)) fun v5 w5 hr5 => ?_))))
      obtain ⟨p5, c5, rfl, hR5, hN5, hE5⟩ := hr5
      have hne1 : ∀ b' off, p5 = some ⟨b', off, none⟩ → b' ≠ b1 := fun b' off hb' => (hN5 b' off hb').2.ne (hb1.extNo hE5) (by decide)
      have hne2 : ∀ b' off, p5 = some ⟨b', off, none⟩ → b' ≠ b2 := fun b' off hb' => (hN5 b' off hb').2.ne (hb2.extNo hE5) (by decide)
      have hb1 := hb1.extNo hE5
      have hb2 := hb2.extNo hE5
      have hX := hX.thenNo hE5
      refine wl_p I_ok rfl (wl (st_st I_ok hb1 rfl rfl rfl fun w6 hb1 hE6 hs6 => ?_))
      have hb2 := hb2.ext1 hE6 ne1_2.symm
      refine wl_nil ?_
      exact f_cut ({ y with wr := liveL true [] y.wr 0 }, p5, c5) rfl ⟨by rw [if_pos hc], hb1, hb2, ⟨hR5.1.ext hE6 fun b' off hb' => hne1 b' off hb', hR5.2⟩, .inr fun b' off hb' => Nat.le_trans hXw4.size (hN5 b' off hb').1, fun _ => hne2, hX.thenNew hE6 fr1⟩
    · refine c_skip ?_
      exact f_cut (y, p, c) rfl ⟨by rw [if_neg hc], hb1, hb2, h, .inl ⟨rfl, hwr⟩, fun hl b' off hb' e => by have := h0.lt (by rw [← hwr]; exact hl) b' off hb'; omega, hX⟩
  rintro ⟨z, p', c'⟩ w6 ⟨hz, hb1, hb2, hR, hN, hb2n, hX⟩
  refine c_seq (c_region (wl (st_ldB I_ok hb1 rfl rfl (wl_p I_ok rfl (wl (st_stW (l' := refL z p' c') I_ok hb2 rfl rfl rfl rfl (ref_flat _ _ _) fun w5 hb2 hE5 hs5 => ?_))))))
  have hX := hX.thenNew hE5 fr2
  have hR5 : RefW w5 p' z.wr := ⟨Sl.ext0 hR.1 hE5 hb2n, hR.2⟩
  refine wl_p I_ok rfl (wl_nil (f_then (c_ret (f_ret [_, _] ⟨⟨b2, 0, rfl, ld_all I_ok rfl rfl hb2.seg rfl⟩, rfl, trivial⟩ ?_))))
  rw [← hz]
  exact ⟨p', c', rfl, hR5, hN, hX⟩

theorem refCrash_calls (w : World) (x : RDsk) (p : Option Addr) (c : Nat) (h : RefW w p x.wr) (hn : x.wr.length < 1000000000) {q : Option Addr} {qc : Nat} {keep : List Bool} (hk : Sl w q keep.length 1 (boolsL keep)) (hkn : keep.length < 1000000000) :
    CallsV Try.prog 23 [.agg (refL x p c).toArray, .slice q keep.length qc] w fun v w' => ∃ p' c', v = .agg (refL (x.crash keep) p' c').toArray ∧ RefW w' p' (x.crash keep).wr ∧ NewOr w p p' x.wr (x.crash keep).wr ∧ Ext No w w' := by
  refine calls_enter Try.func23 rfl rfl rfl rfl ?_
  have hX := Ext.refl No w
  refine c_seq (c_region (wl (st_al I_ok rfl fun b2 w1 hn2 hb2 hE1 => ?_)))
  have fr2 := Nat.le_trans hX.size hn2
  have hX := hX.thenNo hE1
  refine wl (st_al I_ok rfl fun b4 w2 hn4 hb4 hE2 => ?_)
  have ne2_4 : b2 ≠ b4 := Nat.ne_of_lt (Nat.lt_of_lt_of_le hb2.lt hn4)
  have fr4 := Nat.le_trans hX.size hn4
  have hb2 := hb2.extNo hE2
  have hX := hX.thenNo hE2
  have hXw2 := hX
  have hb2 : Blk w2 b2 48 (refL x p c) := hb2
  refine wl_nil (f_then (c_seq (c_region (wl_p I_ok rfl (wl (st_ldb I_ok hb2 rfl rfl (wl_p I_ok rfl (wl (st_call Try.call46 rfl rfl rfl rfl rfl rfl (live_calls w2 (keep := keep) false (h.extNo hX) hn (hk.extNo hX) hkn) fun v3 w3 hr3 => ?_)))))))))
  obtain ⟨p5, c5, rfl, hR5, hN5, hE3⟩ := hr3
  have hne2 : ∀ b' off, p5 = some ⟨b', off, none⟩ → b' ≠ b2 := fun b' off hb' => (hN5 b' off hb').2.ne (hb2.extNo hE3) (by decide)
  have hne4 : ∀ b' off, p5 = some ⟨b', off, none⟩ → b' ≠ b4 := fun b' off hb' => (hN5 b' off hb').2.ne (hb4.extNo hE3) (by decide)
  have hb2 := hb2.extNo hE3
  have hb4 := hb4.extNo hE3
  have hX := hX.thenNo hE3
  refine wl_p I_ok rfl (wl (st_st I_ok hb2 rfl rfl rfl fun w4 hb2 hE4 hs4 => ?_))
  have hb4 := hb4.ext1 hE4 ne2_4.symm
  have hR5 : RefW w4 p5 _ := ⟨hR5.1.ext hE4 hne2, hR5.2⟩
  have hX := hX.thenNew hE4 fr2
  refine wl_nil (f_then (c_seq (c_region (wl_p I_ok rfl (wl (st_st I_ok hb2 rfl rfl rfl fun w5 hb2 hE5 hs5 => ?_))))))
  have hb4 := hb4.ext1 hE5 ne2_4.symm
  have hR5 : RefW w5 p5 _ := ⟨hR5.1.ext hE5 hne2, hR5.2⟩
  have hX := hX.thenNew hE5 fr2
  refine wl_nil (f_then (c_seq (c_region (wl_p I_ok rfl (wl (st_st I_ok hb2 rfl rfl rfl fun w6 hb2 hE6 hs6 => ?_))))))
  have hb4 := hb4.ext1 hE6 ne2_4.symm
  have hR5 : RefW w6 p5 _ := ⟨hR5.1.ext hE6 hne2, hR5.2⟩
  have hX := hX.thenNew hE6 fr2
  refine wl_nil (f_then (c_seq (c_region (wl_p I_ok rfl (wl (st_st I_ok hb2 rfl rfl rfl fun w7 hb2 hE7 hs7 => ?_))))))
  have hb4 := hb4.ext1 hE7 ne2_4.symm
  have hR5 : RefW w7 p5 _ := ⟨hR5.1.ext hE7 hne2, hR5.2⟩
  have hX := hX.thenNew hE7 fr2
  have hb2 : Blk w7 b2 48 (refL (x.crash keep) p5 c5) := hb2
  refine wl_nil (f_then (c_seq (c_region (wl (st_ldB I_ok hb2 rfl rfl (wl (st_stW (l' := refL (x.crash keep) p5 c5) I_ok hb4 rfl rfl rfl rfl (ref_flat _ _ _) fun w8 hb4 hE8 hs8 => ?_)))))))
  have hR5 : RefW w8 p5 _ := ⟨hR5.1.ext hE8 hne4, hR5.2⟩
  have hX := hX.thenNew hE8 fr4
  refine wl_nil (f_then (c_ret (f_ret [_] ⟨⟨b4, 0, rfl, ld_all I_ok rfl rfl hb4.seg rfl⟩, trivial⟩ ?_)))
  exact ⟨p5, c5, rfl, hR5, .inr fun b' off hb' => Nat.le_trans hXw2.size (hN5 b' off hb').1, hX⟩

theorem set_calls (w : World) (n : Int) : CallsV Try.prog 42 [.int .i64 n] w fun v w' => v = .int .i64 (rset n) ∧ Ext No w w' := by
  refine calls_enter Try.func42 rfl rfl rfl rfl ?_
  have hX := Ext.refl No w
  refine c_seq (c_region (wl_p I_ok rfl (wl_nil (f_then (c_seq (c_seq (c_region (wl_p I_ok rfl (wl_nil (f_then (c_if rfl (fun hc => ?_) (fun hc => ?_))))))))))))
  · refine c_seq ?_
    refine c_region (wl_p I_ok rfl (wl_nil (f_then (c_ret (f_thenR (f_ret1 rfl rfl ?_))))))
    exact ⟨by rw [rset, if_pos hc], hX⟩
  · refine c_skip ?_
    refine f_then (c_seq (c_region (wl_p I_ok rfl (wl_nil (f_then (c_ret (f_ret1 rfl rfl ?_)))))))
    exact ⟨by rw [rset, if_neg hc], hX⟩
end Go.Proofs.Ytoldbdocgimpnaa
