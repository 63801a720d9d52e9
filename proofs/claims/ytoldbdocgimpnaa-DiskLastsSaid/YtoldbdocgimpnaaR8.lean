/- whatever happens to a disk is told as the document says: the walk -/
import Derived.Test.YtoldbdocgimpnaaR7
import Derived.Test.YtoldbdocgimpnaaL6
namespace Go.Proofs.Ytoldbdocgimpnaa
open Go.Vc

theorem put_len (D : Dsk) (i : Nat) (b : List Int) : (D.put i b).secs.length = D.secs.length := by simp [Dsk.put]
theorem settle_len (D : Dsk) (f : Nat → Bool) : (D.settle f).secs.length = D.secs.length := by simp [Dsk.settle, settleAll_length]
theorem act_len (D : Dsk) (a : PAct) : (D.act a).1.secs.length = D.secs.length := by
  unfold Dsk.act
  split
  · simp only [Dsk.read, (D.begin_secs a.n false).1]
  split
  · simp only [Dsk.write]
    split
    · rw [put_len, (D.begin_secs a.n true).1]
    · rw [(D.begin_secs a.n true).1]
  split
  · simp only [Dsk.sync]
    split
    · rw [settle_len, (D.begin_secs 0 true).1]
    · rw [(D.begin_secs 0 true).1]
  split
  · simp only [Dsk.arm]; split <;> rfl
  split
  · simp only [Dsk.fail]; split <;> rfl
  · simp only [Dsk.crash, settle_len]
theorem should_len (x : RDsk) (a : PAct) : (x.should a).1.wr.length ≤ x.wr.length + 1 := by
  unfold RDsk.should
  split
  · simp only [RDsk.read, RDsk.begin_wr]; omega
  split
  · simp only [RDsk.write]
    split
    · simp [RDsk.begin_wr]
    · simp only [RDsk.begin_wr]; omega
  split
  · simp only [RDsk.sync]
    split
    · simp only [RDsk.begin_wr]; have := liveL_len true [] x.wr 0; omega
    · simp only [RDsk.begin_wr]; omega
  split
  · have := liveL_len false (a.keep.take 200) x.wr 0; simp only [RDsk.crash]; omega
  split
  · simp only; omega
  split <;> (simp only; omega)
theorem crash_goes {D : Dsk} {x : RDsk} {s u : Wr} {m : Nat} (h : Goes D x s u) (hok : D.Ok m) : ∃ s' u', Goes (D.crash []) (x.crash []) s' u' := by
  obtain ⟨s', u', h1, _⟩ := act_goes h hok ⟨6, 0, 0, []⟩
  exact ⟨s', u', h1⟩
theorem Goes.fits {D : Dsk} {x : RDsk} {s u : Wr} {m : Nat} (h : Goes D x s u) (hok : D.Ok m) (hm : m < 1000000000) : x.Fits :=
  ⟨by rw [h.fuse]; exact hok.fuse, by rw [h.fault]; exact hok.fault, by rw [h.done]; have := hok.done; omega⟩
theorem read_alive {D : Dsk} (h1 : D.dead = false) (h2 : D.fault = -1) {i : Int} (h3 : 0 ≤ i ∧ i < D.secs.length) : D.read i = (D.ran 1, D.now i.toNat, 0) := by
  have e : D.begin i false = (D.ran 1, 0) := by
    simp only [Dsk.begin, h1, h2]
    rw [if_neg (by decide), if_neg (by simpa using h3), if_neg (by decide), if_neg (by simp)]
    simp [faultTo, fuseTo, Dsk.ran, h1, h2]
  simp only [Dsk.read, e, if_true, Dsk.ran_now]

theorem newGood_calls (w : World) (n : Int) (hn : 1 ≤ n ∧ n ≤ 2048) : CallsV Try.prog 11 [.int .i64 n] w fun v w' => ∃ d, v = .tuple #[.pointer (some ⟨d, 0, none⟩), .int .i64 0] ∧ w.heap.size ≤ d ∧ At w' d (Grow No w w') (Dsk.fresh n.toNat) ∧ Ext No w w' :=
  (new_calls w n).mono fun v w' h => by rwa [if_pos hn] at h
theorem newBad_calls (w : World) (n : Int) (hn : ¬ (1 ≤ n ∧ n ≤ 2048)) : CallsV Try.prog 11 [.int .i64 n] w fun v w' => v = .tuple #[.pointer none, .int .i64 2] ∧ Ext No w w' :=
  (new_calls w n).mono fun v w' h => by rwa [if_neg hn] at h
/-- some acts, as they are gone through -/
theorem someActs_calls (w : World) {w0 : World} {G : Nat → Prop} {p : Option Addr} {l : List PAct} {c : Nat} (hc : l.length ≤ c) (hl : ActsSl w0 G p l) : CallsV Try.prog 12 [.slice p l.length c] w fun v w' =>
    v = .slice p (l.take 100).length c ∧ ActsSl w0 G p (l.take 100) ∧ Ext No w w' :=
  (some_calls w p l.length c hc).mono fun v w' ⟨h1, h2⟩ => by
    subst h2
    have e : l.take 100 = l.take (min l.length 100) := by rw [List.take_eq_take_iff]; omega
    refine ⟨by rw [h1]; simp [Nat.min_comm], by rw [e]; exact hl.take _ (by omega), Ext.refl _ _⟩

theorem ActAt.one {w : World} {G : Nat → Prop} {a : PAct} {r : List Value} (h : ActAt w G a r) : ∀ u ∈ r, u.oneCell' = true := by
  obtain ⟨p, c, rfl, _⟩ := h
  exact OneC.h

theorem ActAt.nb {w : World} {G : Nat → Prop} {a : PAct} {r : List Value} (h : ActAt w G a r) : -9223372036854775808 ≤ a.n ∧ a.n < 9223372036854775808 := by
  obtain ⟨p, c, _, _, _, _, _, h1⟩ := h
  exact h1
theorem ActsSl.get2 {w u : World} {G : Nat → Prop} {p : Option Addr} {l : List PAct} (h : ActsSl w G p l) (hE : Ext No w u) {i : Nat} (hi : i < l.length) :
    ∃ b off r, p = some ⟨b, off, none⟩ ∧ Seg u b (off + i * 4) r ∧ r.length = 4 ∧ ActAt w G l[i] r := by
  obtain ⟨b, off, r, h1, h2, h3, h4⟩ := h.get (Ext.refl No w) hi
  exact ⟨b, off, r, h1, h2.extNo hE, h3, h4⟩
theorem act_blk {D : Dsk} {m : Nat} (hok : D.Ok m) (a : PAct) : (D.act a).2.1.length = 64 := by
  unfold Dsk.act
  repeat' split
  · exact read_len hok _
  all_goals exact zeros_length
theorem ran_ran (D : Dsk) (k : Nat) : (D.ran k).ran 1 = D.ran (k + 1) := by
  simp only [Dsk.ran, Dsk.mk.injEq, true_and]; omega
theorem ran_zero (D : Dsk) : D.ran 0 = D := by simp [Dsk.ran]
theorem readAlive_calls (w : World) {d m : Nat} {F : Nat → Prop} {D : Dsk} (h : At w d F D) (hok : D.Ok m) (hm : m < 1000000000) (h1 : D.dead = false) (h2 : D.fault = -1) {i : Int} (h3 : 0 ≤ i ∧ i < D.secs.length) :
    CallsV Try.prog 24 [.pointer (some ⟨d, 0, none⟩), .int .i64 i] w fun v w' => v = .tuple #[numA .u8 (D.now i.toNat), .int .i64 0] ∧ At w' d F (D.ran 1) ∧ Ext F w w' := by
  have := read_at w h hok hm i
  rwa [read_alive h1 h2 h3] at this

structure GInv (w u : World) (d b7 : Nat) (n : Int) (i : Nat) (D : Dsk) (F : Nat → Prop) (x : RDsk) (p : Option Addr) : Prop where
  ok : D.Ok (2 * i)
  at' : At u d F D
  new : ∀ y, F y → w.heap.size ≤ y
  f7 : ¬ F b7
  ref : RefW u p x.wr
  goes : ∃ s t, Goes D x s t
  few : x.wr.length ≤ i
  rf : x.wr.length ≠ 0 → ∀ b off, p = some ⟨b, off, none⟩ → ¬ F b ∧ b ≠ b7
  len : (D.secs.length : Int) = n
theorem goesBad_calls (w : World) {n : Int} (hn : ¬ (1 ≤ n ∧ n ≤ 2048)) (v1 : Value) : CallsV Try.prog 4 [.int .i64 n, v1] w fun v w' => v = .bool true ∧ Ext No w w' := by
  refine calls_enter Try.func4 rfl rfl rfl rfl ?_
  have hX := Ext.refl No w
  refine c_seq (c_region (wl_p I_ok rfl (wl_nil (f_then (c_seq (c_seq (c_region (wl (st_call Try.call10 rfl rfl rfl rfl rfl rfl (wakes_calls w) fun v1 w1 hr1 => ?_)))))))))
  obtain ⟨rfl, hE1⟩ := hr1
  have hX := hX.thenNo hE1
  refine wl_p I_ok rfl (wl_nil (f_then (c_condF rfl (c_skip (f_then (c_seq (c_region (wl_p I_ok rfl (wl (st_call Try.call11 rfl rfl rfl rfl rfl rfl (newBad_calls w1 n hn) fun v2 w2 hr2 => ?_))))))))))
  obtain ⟨rfl, hE2⟩ := hr2
  have hX := hX.thenNo hE2
  refine wl_p I_ok rfl (wl_nil (f_then (c_seq (c_seq (c_region (wl_p I_ok rfl (wl (st_call Try.call18 rfl rfl rfl rfl rfl rfl (fits_calls w2 n) fun v3 w3 hr3 => ?_))))))))
  obtain ⟨rfl, hE3⟩ := hr3
  have hX := hX.thenNo hE3
  refine wl_p I_ok rfl (wl_nil (f_then (c_cond rfl (fun hc => ?_) (fun hc => ?_))))
  · refine c_cutK (α := Unit) [] rfl (fun z => [(4, .bool true)]) (fun z u => Ext No w u) ?_ ?_
    · refine c_region ?_
      refine wl_p I_ok rfl (wl_case 30 rfl (fun hg => ?_) (fun hg => ?_))
      · refine wl_pk I_ok 4 rfl ?_
        refine wl_nil ?_
        exact f_cut (()) rfl hX
      · cases hg
    rintro z w4 hX
    refine c_ret (f_thenR (f_ret1 rfl rfl ?_))
    exact ⟨rfl, hX⟩
  · simp [hn] at hc

theorem goesGood_calls (w : World) {n : Int} (hn : 1 ≤ n ∧ n ≤ 2048) {p : Option Addr} {c : Nat} {l : List PAct} {G : Nat → Prop} (hcap : l.length ≤ c) (hl : ActsSl w G p l) (hG : ∀ x, G x → x < w.heap.size) : CallsV Try.prog 4 [.int .i64 n, .slice p l.length c] w fun v w' => v = .bool true ∧ Ext No w w' := by
  refine calls_enter Try.func4 rfl rfl rfl rfl ?_
  have hX := Ext.refl No w
  refine c_seq (c_region (wl_p I_ok rfl (wl_nil (f_then (c_seq (c_seq (c_region (wl (st_call Try.call10 rfl rfl rfl rfl rfl rfl (wakes_calls w) fun v1 w1 hr1 => ?_)))))))))
  obtain ⟨rfl, hE1⟩ := hr1
  have hX := hX.thenNo hE1
  refine wl_p I_ok rfl (wl_nil (f_then (c_condF rfl (c_skip (f_then (c_seq (c_region (wl_p I_ok rfl ?_))))))))
  have hX1 := hX
  refine wl (st_call Try.call11 rfl rfl rfl rfl rfl rfl (newGood_calls w1 n hn) fun v2 w2 hr2 => ?_)
  obtain ⟨d, rfl, frd, hA, hE2⟩ := hr2
  have hX := hX.thenNo hE2
  have hnew : ∀ x, Grow No w1 w2 x → w.heap.size ≤ x := fun x hx => hx.elim False.elim fun h => Nat.le_trans hX1.size h.1
  have hY := Ext.refl No w2
  refine wl_p I_ok rfl (wl_nil (f_then (c_seq (c_seq (c_region (wl_p I_ok rfl (wl (st_call Try.call18 rfl rfl rfl rfl rfl rfl (fits_calls w2 n) fun v3 w3 hr3 => ?_))))))))
  obtain ⟨rfl, hE3⟩ := hr3
  have hY := hY.thenNo hE3
  have hX := hX.thenNo hE3
  refine wl_p I_ok rfl (wl_nil (f_then (c_cond rfl (fun hc => ?_) (fun hc => ?_))))
  · simp [hn] at hc
  · refine c_skip ?_
    refine f_then (c_seq (c_cutK (α := Bool) [0, 1, 5] rfl (fun z => [(39, .bool z)]) (fun z u => u = w3 ∧ z = false) ?_ ?_))
    · refine c_region ?_
      refine wl_p I_ok rfl (wl_case 36 rfl (fun hg => ?_) (fun hg => ?_))
      · cases hg
      · refine wl_pk I_ok 3 rfl ?_
        refine wl_nil ?_
        exact f_cut (decide ((0:Int) ≠ 0)) rfl ⟨rfl, by decide⟩
    rintro z w4 ⟨hu, rfl⟩
    have hu := hu.symm
    subst hu
    refine c_condF rfl (c_skip (f_then (c_seq (c_region (wl_p I_ok rfl (wl (st_call Try.call19 rfl rfl rfl rfl rfl rfl (fresh_calls w3 n) fun v5 w5 hr5 => ?_)))))))
    obtain ⟨rfl, hE5⟩ := hr5
    have hY := hY.thenNo hE5
    have hX := hX.thenNo hE5
    refine wl (st_al I_ok rfl fun b7 w6 hn7 hb7 hE6 => ?_)
    have fr7 := Nat.le_trans hX.size hn7
    have frhY7 := Nat.le_trans hY.size hn7
    have hY := hY.thenNo hE6
    have hX := hX.thenNo hE6
    refine wl (st_stW (l' := refL (RDsk.fresh n) none 0) I_ok hb7 rfl rfl rfl rfl OneC.h fun w7 hb7 hE7 hs7 => ?_)
    have hY := hY.thenNew hE7 frhY7
    have hX := hX.thenNew hE7 fr7
    refine wl_nil (f_then (c_seq (c_seq (c_region (wl_p I_ok rfl (wl (st_call Try.call12 rfl rfl rfl rfl rfl rfl (someActs_calls w7 hcap hl) fun v8 w8 hr8 => ?_)))))))
    obtain ⟨rfl, hl, hE8⟩ := hr8
    have hb7 := hb7.extNo hE8
    have hY := hY.thenNo hE8
    have hX := hX.thenNo hE8
    have hl100 : (l.take 100).length ≤ 100 := by simp; omega
    generalize l.take 100 = l at hl hl100
    refine wl_p I_ok rfl (wl_nil (f_then (c_block ?_)))
    refine c_loopK (α := Nat × Dsk × (Nat → Prop) × RDsk × Option Addr × Nat) [0, 5, 7, 43, 44] rfl (fun z => [(45, .int .i64 (z.1 : Int))]) (fun z u => (z.1 ≤ l.length ∧ GInv w u d b7 n z.1 z.2.1 z.2.2.1 z.2.2.2.1 z.2.2.2.2.1) ∧ Blk u b7 48 (refL z.2.2.2.1 z.2.2.2.2.1 z.2.2.2.2.2) ∧ Ext No w u) (fun z u => l.length - z.1) (0, Dsk.fresh n.toNat, Grow No w1 w2, RDsk.fresh n, none, 0) rfl ⟨⟨Nat.zero_le _, ⟨(Dsk.Ok.fresh (by omega)).mono (by omega), hA.ext hY fun _ _ => id, hnew, fun e => by have := hA.lt b7 e; omega, ⟨Sl.nil _ _ _, fun e he => by cases he⟩, ⟨[], [], by have := fresh_goes n.toNat; rwa [show ((n.toNat : Nat) : Int) = n from by omega] at this⟩, Nat.le_refl _, fun h => absurd rfl h, by simp [Dsk.fresh]; omega⟩⟩, hb7, hX⟩ ?_
    rintro ⟨i, D, F, x, rp, rc⟩ w9 ⟨⟨hi, hI⟩, hb7, hX⟩
    dsimp only
    dsimp only at hi hI hb7
    obtain ⟨hok, hA, hnew, hF7, hR, ⟨gs, gt, hGo⟩, hfew, hrf, hlen⟩ := hI
    have hY := Ext.refl No w9
    refine c_seq (c_region (wl_p I_ok rfl (wl_nil (f_then (c_seq (c_if rfl (fun hc => ?_) (fun hc => ?_)))))))
    · have hi' : i < l.length := by omega
      obtain ⟨bl, off, r, hp, hseg, hr4, hat⟩ := hl.get2 hX hi'
      subst hp
      have hfits := hGo.fits hok (by omega)
      have hlt7 := hb7.lt
      have hb64 := bytesL_len (act_blk hok l[i])
      refine c_skip (f_then (c_seq (c_block (c_seq (c_region (wl (st_ix I_ok rfl 4 rfl i rfl hi' (off + i * 4) rfl (wl (st_ldN I_ok rfl hseg hr4 (wl (st_al I_ok rfl fun b9 w10 hn9 hb9 hE10 => ?_)))))))))))
      have ne7_9 : b7 ≠ b9 := Nat.ne_of_lt (Nat.lt_of_lt_of_le hb7.lt hn9)
      have fr9 := Nat.le_trans hX.size hn9
      have frhY9 := Nat.le_trans hY.size hn9
      have hb7 := hb7.extNo hE10
      have hY := hY.thenNo hE10
      have hX := hX.thenNo hE10
      have hF9 : ¬ F b9 := fun e => by have := hA.lt b9 e; omega
      refine wl (st_stW (l' := r) I_ok hb9 rfl (by rw [cellsOf_agg]) hr4 hr4 hat.one fun w11 hb9 hE11 hs11 => ?_)
      have hb7 := hb7.ext1 hE11 ne7_9
      have hY := hY.thenNew hE11 frhY9
      have hX := hX.thenNew hE11 fr9
      refine wl_nil (f_then (c_seq (c_region (wl_p I_ok rfl (wl (st_ldB I_ok hb9 rfl hr4 ?_))))))
      have hA := hA.ext hY (fun _ _ => id)
      have hXo := hX
      have hR2 := hR.extNo hY
      have hsY := hY.size
      refine wl (st_call Try.call15 rfl rfl rfl rfl rfl rfl (happens_calls w11 hA hok (by omega) (hat.ext hX fun _ _ => id)) fun v12 w12 hr12 => ?_)
      obtain ⟨rfl, hA, hE12⟩ := hr12
      have hb7 := hb7.ext hE12 hF7
      have hb9 := hb9.ext hE12 hF9
      have hX := hX.trans hE12 fun y hy hF => by have := hnew y hF; omega
      have hsE := hE12.size
      have hok2 := hok.act _ hat.nb.1 hat.nb.2
      obtain ⟨gs2, gt2, hGo2, hsh⟩ := act_goes hGo hok l[i]
      have hR2 : RefW w12 rp x.wr := ⟨Sl.ext0 hR2.1 hE12 fun h b off hb => (hrf h b off hb).1, hR2.2⟩
      have hx64 := bytesL_len ((congrArg (fun y => y.1.length) hsh).trans (act_blk hok l[i]))
      have hsl := should_len x l[i]
      have hZ := Ext.refl (One b7) w12
      refine wl_p I_ok rfl (wl (st_al I_ok rfl fun b10 w13 hn10 hb10 hE13 => ?_))
      have ne7_10 : b7 ≠ b10 := Nat.ne_of_lt (Nat.lt_of_lt_of_le hb7.lt hn10)
      have ne9_10 : b9 ≠ b10 := Nat.ne_of_lt (Nat.lt_of_lt_of_le hb9.lt hn10)
      have fr10 := Nat.le_trans hX.size hn10
      have frhZ10 := Nat.le_trans hZ.size hn10
      have hb7 := hb7.extNo hE13
      have hb9 := hb9.extNo hE13
      have hZ := hZ.thenNo hE13
      have hX := hX.thenNo hE13
      refine wl (st_stW (l' := bytesL (D.act l[i]).2.1) I_ok hb10 rfl (by rw [cells_num]) hb64 (by rw [hb64]; rfl) OneC.h fun w14 hb10 hE14 hs14 => ?_)
      have hb7 := hb7.ext1 hE14 ne7_10
      have hb9 := hb9.ext1 hE14 ne9_10
      have hZ := hZ.thenNew hE14 frhZ10
      have hX := hX.thenNew hE14 fr10
      refine wl_p I_ok rfl (wl_nil (f_then (c_seq (c_region (wl (st_ldB I_ok hb7 rfl rfl (wl (st_ldB I_ok hb9 rfl hr4 ?_))))))))
      have hsZ := hZ.size
      refine wl (st_call Try.call20 rfl rfl rfl rfl rfl rfl (should_calls w14 x rp rc hfits ⟨Sl.ext0 hR2.1 hZ fun h b off hb => (hrf h b off hb).2, hR2.2⟩ (by omega) (hat.ext hX fun _ _ => id)) fun v15 w15 hr15 => ?_)
      obtain ⟨p2, c2, rfl, hR3, hN3, hE15⟩ := hr15
      have hb7 := hb7.extNo hE15
      have hb9 := hb9.extNo hE15
      have hb10 := hb10.extNo hE15
      have hZ := hZ.thenNo hE15
      have hX := hX.thenNo hE15
      have hne2 : (x.should l[i]).1.wr.length ≠ 0 → ∀ b off, p2 = some ⟨b, off, none⟩ → ¬ Grow F w11 w12 b ∧ b ≠ b7 := fun h b off hb => by
        rcases hN3 with ⟨e1, e2⟩ | hN3
        · rw [e2] at h
          rw [e1] at hb
          have h1 := hrf h b off hb
          have h2 := hR.lt h b off hb
          exact ⟨fun e => e.elim h1.1 fun e => by omega, h1.2⟩
        · have h1 := hN3 b off hb
          exact ⟨fun e => by have := hA.lt b e; omega, by omega⟩
      have hV := Ext.refl (One b7) w15
      refine wl_p I_ok rfl (wl (st_al I_ok rfl fun b12 w16 hn12 hb12 hE16 => ?_))
      have ne7_12 : b7 ≠ b12 := Nat.ne_of_lt (Nat.lt_of_lt_of_le hb7.lt hn12)
      have ne9_12 : b9 ≠ b12 := Nat.ne_of_lt (Nat.lt_of_lt_of_le hb9.lt hn12)
      have ne10_12 : b10 ≠ b12 := Nat.ne_of_lt (Nat.lt_of_lt_of_le hb10.lt hn12)
      have fr12 := Nat.le_trans hX.size hn12
      have frhZ12 := Nat.le_trans hZ.size hn12
      have frhV12 := Nat.le_trans hV.size hn12
      have hb7 := hb7.extNo hE16
      have hb9 := hb9.extNo hE16
      have hb10 := hb10.extNo hE16
      have hZ := hZ.thenNo hE16
      have hV := hV.thenNo hE16
      have hX := hX.thenNo hE16
      refine wl (st_al I_ok rfl fun b13 w17 hn13 hb13 hE17 => ?_)
      have ne7_13 : b7 ≠ b13 := Nat.ne_of_lt (Nat.lt_of_lt_of_le hb7.lt hn13)
      have ne9_13 : b9 ≠ b13 := Nat.ne_of_lt (Nat.lt_of_lt_of_le hb9.lt hn13)
      have ne10_13 : b10 ≠ b13 := Nat.ne_of_lt (Nat.lt_of_lt_of_le hb10.lt hn13)
      have ne12_13 : b12 ≠ b13 := Nat.ne_of_lt (Nat.lt_of_lt_of_le hb12.lt hn13)
      have fr13 := Nat.le_trans hX.size hn13
      have frhZ13 := Nat.le_trans hZ.size hn13
      have frhV13 := Nat.le_trans hV.size hn13
      have hb7 := hb7.extNo hE17
      have hb9 := hb9.extNo hE17
      have hb10 := hb10.extNo hE17
      have hb12 := hb12.extNo hE17
      have hZ := hZ.thenNo hE17
      have hV := hV.thenNo hE17
      have hX := hX.thenNo hE17
      refine wl (st_stW (l' := refL (x.should l[i]).1 p2 c2) I_ok hb12 rfl rfl rfl rfl OneC.h fun w18 hb12 hE18 hs18 => ?_)
      have hb7 := hb7.ext1 hE18 ne7_12
      have hb9 := hb9.ext1 hE18 ne9_12
      have hb10 := hb10.ext1 hE18 ne10_12
      have hb13 := hb13.ext1 hE18 ne12_13.symm
      have hZ := hZ.thenNew hE18 frhZ12
      have hV := hV.thenNew hE18 frhV12
      have hX := hX.thenNew hE18 fr12
      refine wl (st_stW (l' := bytesL (x.should l[i]).2.1) I_ok hb13 rfl (by rw [cells_num]) hx64 (by rw [hx64]; rfl) OneC.h fun w19 hb13 hE19 hs19 => ?_)
      have hb7 := hb7.ext1 hE19 ne7_13
      have hb9 := hb9.ext1 hE19 ne9_13
      have hb10 := hb10.ext1 hE19 ne10_13
      have hb12 := hb12.ext1 hE19 ne12_13
      have hZ := hZ.thenNew hE19 frhZ13
      have hV := hV.thenNew hE19 frhV13
      have hX := hX.thenNew hE19 fr13
      refine wl_p I_ok rfl (wl_nil (f_then (c_seq (c_region (wl (st_ldB I_ok hb12 rfl rfl (wl (st_stW (l' := refL (x.should l[i]).1 p2 c2) I_ok hb7 rfl rfl rfl rfl OneC.h fun w20 hb7 hE20 hs20 => ?_))))))))
      have hb9 := hb9.ext1 hE20 ne7_9.symm
      have hb10 := hb10.ext1 hE20 ne7_10.symm
      have hb12 := hb12.ext1 hE20 ne7_12.symm
      have hb13 := hb13.ext1 hE20 ne7_13.symm
      have hZ := hZ.then (hE20.mono fun _ _ e => by have e : _ = _ := e; subst e; first | rfl | simp)
      have hV := hV.then (hE20.mono fun _ _ e => by have e : _ = _ := e; subst e; first | rfl | simp)
      have hX := hX.thenNew hE20 fr7
      refine wl_nil (f_then (c_cutK (α := Bool) [0, 5, 7, 43, 44, 45] rfl (fun z => [(76, .bool z)]) (fun z u => (z = false) ∧ Blk u b7 48 (refL (x.should l[i]).1 p2 c2) ∧ Ext (One b7) w12 u ∧ Ext (One b7) w15 u ∧ Ext No w u) ?_ ?_))
      · refine c_region ?_
        refine wl (st_ldB I_ok hb10 rfl hb64 (wl (st_ldB I_ok hb13 rfl hx64 ?_)))
        refine wl (st_eqA (xs := (D.act l[i]).2.1) (ys := (x.should l[i]).2.1) I_ok rfl (by kernel_rfl) rfl rfl (act_blk hok l[i]) ((congrArg (fun y => y.1.length) hsh).trans (act_blk hok l[i])) ?_)
        refine wl_p I_ok rfl (wl_caseD 66 rfl (fun hg => ?_) (fun hg => ?_))
        · exact absurd (congrArg Prod.fst hsh).symm hg
        · refine wl_pk I_ok 5 rfl ?_
          refine wl_caseD 71 rfl (fun hg => ?_) (fun hg => ?_)
          · exact absurd (congrArg Prod.snd hsh).symm hg
          · refine wl_pk I_ok 1 rfl ?_
            refine wl (st_ldB I_ok hb7 rfl rfl ?_)
            refine wl (st_call Try.call21 rfl rfl rfl rfl rfl rfl (stands_calls w20 (hA.ext hZ fun y hy e => by have e : y = b7 := e; subst e; exact hy.elim hF7 fun h => by omega) hok2 (by omega) _ p2 c2 ⟨Sl.ext0 hR3.1 hV fun h b off hb => (hne2 h b off hb).2, hR3.2⟩ (by omega) hGo2) fun v21 w21 hr21 => ?_)
            obtain ⟨rfl, hE21⟩ := hr21
            have hb7 := hb7.extNo hE21
            have hb9 := hb9.extNo hE21
            have hb10 := hb10.extNo hE21
            have hb12 := hb12.extNo hE21
            have hb13 := hb13.extNo hE21
            have hZ := hZ.thenNo hE21
            have hV := hV.thenNo hE21
            have hX := hX.thenNo hE21
            refine wl_pk I_ok 2 rfl (wl_nil ?_)
            exact f_cut (false) rfl ⟨rfl, hb7, hZ, hV, hX⟩
      rintro z w22 ⟨rfl, hb7, hZ, hV, hX⟩
      refine c_condF rfl (c_skip (f_blockN (f_then (c_region (wl_p I_ok rfl ?_)))))
      rw [IntWalk.i64_in _ (by omega)]
      refine wl_nil ?_
      exact f_round (i + 1, (D.act l[i]).1, Grow F w11 w12, (x.should l[i]).1, p2, c2) rfl ⟨⟨by dsimp only; omega, ⟨hok2.mono (by dsimp only; omega), hA.ext hZ fun y hy e => (by have e : y = b7 := e; subst e; exact hy.elim hF7 fun h => by omega), fun y hy => hy.elim (hnew y) fun h => Nat.le_trans hXo.size h.1, fun e => e.elim hF7 fun h => (by omega), ⟨Sl.ext0 hR3.1 hV fun h b off hb => (hne2 h b off hb).2, hR3.2⟩, ⟨_, _, hGo2⟩, by dsimp only; omega, hne2, by rw [act_len]; exact hlen⟩⟩, hb7, hX⟩ (by first | omega | (dsimp only; omega))
    · have hlt7 := hb7.lt
      refine c_exit (f_thenE (f_thenE (f_blockE (f_then (c_seq (c_seq (c_region (wl_p I_ok rfl ?_))))))))
      refine wl (st_call Try.call22 rfl rfl rfl rfl rfl rfl (crash_calls (keep := []) w9 (hA.ext hY fun _ _ => id) hok (by omega) rfl (Sl.nil _ _ _) (fun b off hb => by cases hb)) fun v23 w23 hr23 => ?_)
      obtain ⟨rfl, hA, hE23⟩ := hr23
      have hb7 := hb7.ext hE23 hF7
      have hX := hX.trans hE23 fun y hy hF => by have := hnew y hF; omega
      have hR2 : RefW w23 rp x.wr := ⟨Sl.ext0 (hR.extNo hY).1 hE23 fun h b off hb => (hrf h b off hb).1, hR.2⟩
      have hY := Ext.refl (One b7) w23
      refine wl_p I_ok rfl (wl_nil (f_then (c_if rfl (fun hc => ?_) (fun hc => ?_))))
      · exact absurd rfl hc
      · refine c_skip ?_
        refine f_then (c_seq (c_region (wl (st_ldB I_ok hb7 rfl rfl ?_))))
        have hsE := hE23.size
        refine wl (st_call Try.call23 rfl rfl rfl rfl rfl rfl (refCrash_calls (keep := []) w23 x rp rc hR2 (by omega) (Sl.nil _ _ _) (by decide)) fun v24 w24 hr24 => ?_)
        obtain ⟨p3, c3, rfl, hR3, hN3, hE24⟩ := hr24
        have hb7 := hb7.extNo hE24
        have hY := hY.thenNo hE24
        have hX := hX.thenNo hE24
        obtain ⟨gs3, gt3, hGo3⟩ := crash_goes hGo hok
        have hokc := hok.crash []
        have hll := liveL_len false [] x.wr 0
        have hne3 : (x.crash []).wr.length ≠ 0 → ∀ b off, p3 = some ⟨b, off, none⟩ → ¬ F b ∧ b ≠ b7 := fun h b off hb => by
          rcases hN3 with ⟨e1, e2⟩ | hN3
          · rw [e2] at h
            rw [e1] at hb
            exact hrf h b off hb
          · have h1 := hN3 b off hb
            exact ⟨fun e => by have := hA.lt b e; omega, by omega⟩
        have hlen3 : ((D.crash []).secs.length : Int) = n := by simp only [Dsk.crash, settle_len]; exact hlen
        refine wl (st_stW (l' := refL (x.crash []) p3 c3) I_ok hb7 rfl rfl rfl rfl OneC.h fun w25 hb7 hE25 hs25 => ?_)
        have hY := hY.then (hE25.mono fun _ _ e => by have e : _ = _ := e; subst e; first | rfl | simp)
        have hX := hX.thenNew hE25 fr7
        have hR3 : RefW w25 p3 (x.crash []).wr := ⟨Sl.ext0 hR3.1 hE25 fun h b off hb => (hne3 h b off hb).2, hR3.2⟩
        refine wl_nil (f_then (c_seq (c_seq (c_region (wl_p I_ok rfl (wl_nil (f_then (c_block ?_))))))))
        refine c_loopK (α := Nat) [5, 7, 84] rfl (fun z => [(85, .int .i64 (z : Int))]) (fun z u => (((z : Int) ≤ n ∧ z ≤ 20) ∧ At u d F ((D.crash []).ran z) ∧ RefW u p3 (x.crash []).wr) ∧ Blk u b7 48 (refL (x.crash []) p3 c3) ∧ Ext No w u) (fun z u => 20 - z) (0) rfl ⟨⟨by constructor <;> omega, by rw [ran_zero]; exact hA.ext hY fun y hy e => hF7 (e ▸ hy), hR3⟩, hb7, hX⟩ ?_
        rintro k w26 ⟨⟨hk, hA, hR3⟩, hb7, hX⟩
        have hY := Ext.refl No w26
        refine c_seq (c_region (wl_p I_ok rfl (wl_nil (f_then (c_seq (c_if rfl (fun hc => ?_) (fun hc => ?_)))))))
        · have hk' : (k : Int) < n ∧ k < 20 := by split at hc <;> omega
          have hkt : ((k : Int)).toNat = k := by omega
          have h64 := now_length hokc k
          have hnow := now_goes hGo3 (i := k) (by omega)
          refine c_skip (f_then (c_seq (c_block (c_seq (c_region (wl_p I_ok rfl (wl_nil (f_then (c_seq (c_region (wl_p I_ok rfl ?_)))))))))))
          refine wl (st_call Try.call24 rfl rfl rfl rfl rfl rfl (readAlive_calls w26 hA (hokc.ran k) (by omega) rfl rfl (i := (k : Int)) ⟨by omega, by rw [show ((D.crash []).ran k).secs.length = (D.crash []).secs.length from rfl, hlen3]; omega⟩) fun v27 w27 hr27 => ?_)
          obtain ⟨rfl, hA, hE27⟩ := hr27
          have hb7 := hb7.ext hE27 hF7
          have hX := hX.trans hE27 fun y hy hF => by have := hnew y hF; omega
          rw [ran_ran] at hA
          rw [hkt, Dsk.ran_now]
          have hR3 : RefW w27 p3 (x.crash []).wr := ⟨Sl.ext0 hR3.1 hE27 fun h b off hb => (hne3 h b off hb).1, hR3.2⟩
          have hY := Ext.refl No w27
          refine wl_p I_ok rfl (wl (st_al I_ok rfl fun b16 w28 hn16 hb16 hE28 => ?_))
          have ne7_16 : b7 ≠ b16 := Nat.ne_of_lt (Nat.lt_of_lt_of_le hb7.lt hn16)
          have fr16 := Nat.le_trans hX.size hn16
          have frhY16 := Nat.le_trans hY.size hn16
          have hb7 := hb7.extNo hE28
          have hY := hY.thenNo hE28
          have hX := hX.thenNo hE28
          refine wl (st_stW (l' := bytesL ((D.crash []).now k)) I_ok hb16 rfl (by rw [cells_num]) (bytesL_len h64) (by rw [bytesL_len h64]; rfl) OneC.h fun w29 hb16 hE29 hs29 => ?_)
          have hb7 := hb7.ext1 hE29 ne7_16
          have hY := hY.thenNew hE29 frhY16
          have hX := hX.thenNew hE29 fr16
          refine wl_p I_ok rfl (wl_nil (f_then (c_cutK (α := Bool) [5, 7, 84, 85] rfl (fun z => [(102, .bool z)]) (fun z u => (z = false) ∧ Blk u b7 48 (refL (x.crash []) p3 c3) ∧ Ext No w27 u ∧ Ext No w u) ?_ ?_)))
          · refine c_draw rfl 9 [(0, true), (1, true), (2, true), (3, true), (4, true), (5, true), (6, false), (7, true), (8, true)] [] (No) (by kernel_rfl) fun w30 hE30 hs30 => ?_
            have hd7 := hb7
            have hd16 := hb16
            have hb7 := hb7.extNo hE30
            have hb16 := hb16.extNo hE30
            have hY := hY.thenNo hE30
            have hX := hX.thenNo hE30
            have hC : Ext (No) _ w30 := hE30.no
            refine wd_k I_ok 3 rfl (wd_caseD 96 rfl (fun hg => ?_) (fun hg => ?_))
            · exact absurd rfl hg
            · refine wd_ldN I_ok rfl rfl (fun w' hw' => (hd16.extNo hw').seg) (bytesL_len h64) ?_
              refine wd_ldN I_ok rfl rfl (fun w' hw' => (hd7.extNo hw').seg) rfl ?_
              refine wd_k I_ok 1 rfl ?_
              refine wd_l rfl (st_call Try.call25 rfl rfl rfl rfl rfl rfl (refHolds_calls w30 (x.crash []) p3 c3 (hR3.extNo hY) (by simp only [RDsk.crash]; omega) (k : Int)) fun v31 w31 hr31 => ⟨(by obtain ⟨rfl, hE31⟩ := hr31; exact hC.thenNo hE31), ?_⟩)
              obtain ⟨rfl, hE31⟩ := hr31
              have hb7 := hb7.extNo hE31
              have hb16 := hb16.extNo hE31
              have hY := hY.thenNo hE31
              have hX := hX.thenNo hE31
              have hC := hC.thenNo hE31
              refine wd_eqA (xs := (D.crash []).now k) (ys := (x.crash []).holds k) I_ok rfl rfl (by kernel_rfl) rfl rfl h64 (by rw [hnow]; exact h64) (wd_k I_ok 1 rfl (wd_sw (wb_nil ?_)))
              exact f_cut (_) rfl ⟨by simp [hnow], hb7, hY, hX⟩
          rintro z w32 ⟨rfl, hb7, hY, hX⟩
          refine c_condF rfl (c_skip (f_blockN (f_then (c_region (wl_p I_ok rfl ?_)))))
          rw [IntWalk.i64_in _ (by omega)]
          refine wl_nil ?_
          exact f_round (k + 1) rfl ⟨⟨by constructor <;> omega, hA.extNo hY, hR3.extNo hY⟩, hb7, hX⟩ (by first | omega | (dsimp only; omega))
        · refine c_exit ?_
          refine f_thenE (f_thenE (f_blockE (f_then (c_seq (c_region (wl_p I_ok rfl (wl_nil (f_then (c_ret (f_ret1 rfl rfl ?_))))))))))
          exact ⟨rfl, hX⟩
theorem goes_calls (w : World) (n : Int) {p : Option Addr} {c : Nat} {l : List PAct} {G : Nat → Prop} (hcap : l.length ≤ c) (hl : ActsSl w G p l) (hG : ∀ x, G x → x < w.heap.size) : CallsV Try.prog 4 [.int .i64 n, .slice p l.length c] w fun v w' => v = .bool true ∧ Ext No w w' := by
  by_cases hn : 1 ≤ n ∧ n ≤ 2048
  · exact goesGood_calls w hn hcap hl hG
  · exact goesBad_calls w hn _
end Go.Proofs.Ytoldbdocgimpnaa
