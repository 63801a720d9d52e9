/- two disks that differ in a fuse, or in a fault: plain facts; a used disk -/
import Derived.Test.YtoldbdocgimpnaaR8
namespace Go.Proofs.Ytoldbdocgimpnaa
open Go.Vc

/-- is the act at a sector that is there, or a sync? -/
def There (a : PAct) : Prop := whichN a.k = 3 ∨ 0 ≤ a.n ∧ a.n < 6
instance (a : PAct) : Decidable (There a) := inferInstanceAs (Decidable (_ ∨ _))

abbrev Dsk.fu (B : Dsk) (n : Int) : Dsk := { B with fuse := n }
abbrev Dsk.fa (B : Dsk) (n : Int) : Dsk := { B with fault := n }
theorem begin_fu {B : Dsk} (h : B.Calm) {n : Int} (hn : 0 ≤ n) (i : Int) (b : Bool) : (B.fu n).begin i b = if 0 ≤ i ∧ i < 6 then (if b = true ∧ n = 0 then ({ B with fuse := -1, dead := true }, 9) else ((B.ran 1).fu (if b = true then n - 1 else n), 0)) else (B.fu n, 2) := by
  simp only [Dsk.begin, Dsk.fu, h.dead, h.fault, h.size]
  rw [if_neg (by decide)]
  by_cases hi : 0 ≤ i ∧ i < 6
  · rw [if_neg (by simpa using hi), if_neg (by decide), if_pos hi]
    by_cases hb : b = true ∧ n = 0
    · rw [if_pos hb, if_pos hb]; simp [faultTo]
    · rw [if_neg hb, if_neg hb]
      have e : fuseTo b n = if b = true then n - 1 else n := by
        unfold fuseTo
        by_cases hbb : b = true
        · rw [if_pos ⟨hbb, by omega⟩, if_pos hbb]
        · rw [if_neg fun e => hbb e.1, if_neg hbb]
      rw [e]
      simp [faultTo, Dsk.ran, h.dead, h.fault]
  · rw [if_pos (by simpa using hi), if_neg hi]
theorem begin_fu_in {B : Dsk} (h : B.Calm) {n : Int} (hn : 0 ≤ n) {i : Int} (hi : 0 ≤ i ∧ i < 6) {b : Bool} (hb : ¬ (b = true ∧ n = 0)) : (B.fu n).begin i b = ((B.ran 1).fu (if b = true then n - 1 else n), 0) := by
  rw [begin_fu h hn, if_pos hi, if_neg hb]
theorem begin_fu_out {B : Dsk} (h : B.Calm) {n : Int} (hn : 0 ≤ n) {i : Int} (hi : ¬ (0 ≤ i ∧ i < 6)) (b : Bool) : (B.fu n).begin i b = (B.fu n, 2) := by
  rw [begin_fu h hn, if_neg hi]
theorem begin_fu_end {B : Dsk} (h : B.Calm) {i : Int} (hi : 0 ≤ i ∧ i < 6) : (B.fu 0).begin i true = ({ B with fuse := -1, dead := true }, 9) := by
  rw [begin_fu h (Int.le_refl 0), if_pos hi, if_pos ⟨rfl, rfl⟩]
theorem fuse_step {B : Dsk} (h : B.Calm) {n : Int} (hn : 0 ≤ n) (a : PAct) (hk : whichN a.k < 4) (hx : ¬ (n = 0 ∧ There a ∧ 0 < whichN a.k)) :
    ((B.fu n).act a).2 = (B.act a).2 ∧ ((B.fu n).act a).1 = (B.act a).1.fu (if There a ∧ 0 < whichN a.k then n - 1 else n) := by
  by_cases h0 : whichN a.k = 0
  · have e2 : (if There a ∧ 0 < whichN a.k then n - 1 else n) = n := if_neg fun e => by omega
    rw [e2]
    simp only [Dsk.act, if_pos h0, h.read]
    by_cases hi : 0 ≤ a.n ∧ a.n < 6
    · simp only [Dsk.read, begin_fu_in h hn hi (b := false) (by simp), if_pos hi]
      refine ⟨?_, ?_⟩ <;> first | rfl | trivial
    · simp only [Dsk.read, begin_fu_out h hn hi, if_neg hi]
      refine ⟨?_, ?_⟩ <;> first | rfl | trivial
  by_cases h1 : whichN a.k = 1 ∨ whichN a.k = 2
  · simp only [Dsk.act, if_neg h0, if_pos h1, h.write]
    by_cases hi : 0 ≤ a.n ∧ a.n < 6
    · have ht : There a := .inr hi
      have hn0 : ¬ n = 0 := fun e => hx ⟨e, ht, by omega⟩
      have e2 : (if There a ∧ 0 < whichN a.k then n - 1 else n) = n - 1 := if_pos ⟨ht, by omega⟩
      rw [e2]
      simp only [Dsk.write, begin_fu_in h hn hi (b := true) (by simpa using hn0), if_pos hi]
      refine ⟨?_, ?_⟩ <;> first | rfl | trivial
    · have ht : ¬ There a := fun e => e.elim (fun e => by omega) hi
      have e2 : (if There a ∧ 0 < whichN a.k then n - 1 else n) = n := if_neg fun e => ht e.1
      rw [e2]
      simp only [Dsk.write, begin_fu_out h hn hi, if_neg hi]
      refine ⟨?_, ?_⟩ <;> first | rfl | trivial
  have h3 : whichN a.k = 3 := by omega
  simp only [Dsk.act, if_neg h0, if_neg h1, if_pos h3, h.sync]
  have ht : There a := .inl h3
  have hn0 : ¬ n = 0 := fun e => hx ⟨e, ht, by omega⟩
  have e2 : (if There a ∧ 0 < whichN a.k then n - 1 else n) = n - 1 := if_pos ⟨ht, by omega⟩
  rw [e2]
  simp only [Dsk.sync, begin_fu_in h hn (i := 0) (by decide) (b := true) (by simpa using hn0)]
  refine ⟨?_, ?_⟩ <;> first | rfl | trivial
theorem fuse_end {B : Dsk} (h : B.Calm) (a : PAct) (hk : whichN a.k < 4) (ht : There a) (hp : 0 < whichN a.k) : (B.fu 0).act a = ({ B with fuse := -1, dead := true }, zeros, 9) := by
  have h0 : ¬ whichN a.k = 0 := by omega
  by_cases h1 : whichN a.k = 1 ∨ whichN a.k = 2
  · have hi : 0 ≤ a.n ∧ a.n < 6 := ht.resolve_left (by omega)
    simp only [Dsk.act, if_neg h0, if_pos h1, Dsk.write, begin_fu_end h hi]
    rfl
  · have h3 : whichN a.k = 3 := by omega
    simp only [Dsk.act, if_neg h0, if_neg h1, if_pos h3, Dsk.sync, begin_fu_end h (i := 0) (by decide)]
    rfl
theorem begin_fa {B : Dsk} (h : B.Calm) {n : Int} (hn : 0 ≤ n) (i : Int) (b : Bool) : (B.fa n).begin i b = if 0 ≤ i ∧ i < 6 then (if n = 0 then (B, 8) else ((B.ran 1).fa (n - 1), 0)) else (B.fa n, 2) := by
  have e : ({ B with fault := -1 } : Dsk) = B := by obtain ⟨_, _, _, _, _, _⟩ := B; simp [h.fault.symm] 
  simp only [Dsk.begin, Dsk.fa, h.dead, h.fuse, h.size]
  rw [if_neg (by decide)]
  by_cases hi : 0 ≤ i ∧ i < 6
  · rw [if_neg (by simpa using hi), if_pos hi]
    by_cases hb : n = 0
    · rw [if_pos hb, if_pos hb, ← e]
      simp [h.dead, h.fuse]
    · rw [if_neg hb, if_neg hb, if_neg (by simp)]
      have e : faultTo n = n - 1 := by unfold faultTo; rw [if_neg (by omega)]
      rw [e]
      simp [fuseTo, Dsk.ran, h.dead, h.fuse]
  · rw [if_pos (by simpa using hi), if_neg hi]
theorem begin_fa_in {B : Dsk} (h : B.Calm) {n : Int} (hn : 0 ≤ n) {i : Int} (hi : 0 ≤ i ∧ i < 6) (hb : ¬ n = 0) (b : Bool) : (B.fa n).begin i b = ((B.ran 1).fa (n - 1), 0) := by
  rw [begin_fa h hn, if_pos hi, if_neg hb]
theorem begin_fa_out {B : Dsk} (h : B.Calm) {n : Int} (hn : 0 ≤ n) {i : Int} (hi : ¬ (0 ≤ i ∧ i < 6)) (b : Bool) : (B.fa n).begin i b = (B.fa n, 2) := by
  rw [begin_fa h hn, if_neg hi]
theorem begin_fa_end {B : Dsk} (h : B.Calm) {i : Int} (hi : 0 ≤ i ∧ i < 6) (b : Bool) : (B.fa 0).begin i b = (B, 8) := by
  rw [begin_fa h (Int.le_refl 0), if_pos hi, if_pos rfl]
theorem fault_step {B : Dsk} (h : B.Calm) {n : Int} (hn : 0 ≤ n) (a : PAct) (hk : whichN a.k < 4) (hx : ¬ (There a ∧ n = 0)) :
    ((B.fa n).act a).2 = (B.act a).2 ∧ ((B.fa n).act a).1 = (B.act a).1.fa (if There a then n - 1 else n) := by
  by_cases h0 : whichN a.k = 0
  · simp only [Dsk.act, if_pos h0, h.read]
    by_cases hi : 0 ≤ a.n ∧ a.n < 6
    · have ht : There a := .inr hi
      have e2 : (if There a then n - 1 else n) = n - 1 := if_pos ht
      rw [e2]
      simp only [Dsk.read, begin_fa_in h hn hi (fun e => hx ⟨ht, e⟩), if_pos hi]
      refine ⟨?_, ?_⟩ <;> first | rfl | trivial
    · have ht : ¬ There a := fun e => e.elim (fun e => by omega) hi
      have e2 : (if There a then n - 1 else n) = n := if_neg ht
      rw [e2]
      simp only [Dsk.read, begin_fa_out h hn hi, if_neg hi]
      refine ⟨?_, ?_⟩ <;> first | rfl | trivial
  by_cases h1 : whichN a.k = 1 ∨ whichN a.k = 2
  · simp only [Dsk.act, if_neg h0, if_pos h1, h.write]
    by_cases hi : 0 ≤ a.n ∧ a.n < 6
    · have ht : There a := .inr hi
      have e2 : (if There a then n - 1 else n) = n - 1 := if_pos ht
      rw [e2]
      simp only [Dsk.write, begin_fa_in h hn hi (fun e => hx ⟨ht, e⟩), if_pos hi]
      refine ⟨?_, ?_⟩ <;> first | rfl | trivial
    · have ht : ¬ There a := fun e => e.elim (fun e => by omega) hi
      have e2 : (if There a then n - 1 else n) = n := if_neg ht
      rw [e2]
      simp only [Dsk.write, begin_fa_out h hn hi, if_neg hi]
      refine ⟨?_, ?_⟩ <;> first | rfl | trivial
  have h3 : whichN a.k = 3 := by omega
  simp only [Dsk.act, if_neg h0, if_neg h1, if_pos h3, h.sync]
  have ht : There a := .inl h3
  have e2 : (if There a then n - 1 else n) = n - 1 := if_pos ht
  rw [e2]
  simp only [Dsk.sync, begin_fa_in h hn (i := 0) (by decide) (fun e => hx ⟨ht, e⟩)]
  refine ⟨?_, ?_⟩ <;> first | rfl | trivial
theorem fault_end {B : Dsk} (h : B.Calm) (a : PAct) (hk : whichN a.k < 4) (ht : There a) : (B.fa 0).act a = (B, zeros, 8) := by
  by_cases h0 : whichN a.k = 0
  · have hi : 0 ≤ a.n ∧ a.n < 6 := ht.resolve_left (by omega)
    simp only [Dsk.act, if_pos h0, Dsk.read, begin_fa_end h hi]
    rfl
  by_cases h1 : whichN a.k = 1 ∨ whichN a.k = 2
  · have hi : 0 ≤ a.n ∧ a.n < 6 := ht.resolve_left (by omega)
    simp only [Dsk.act, if_neg h0, if_pos h1, Dsk.write, begin_fa_end h hi]
    rfl
  · have h3 : whichN a.k = 3 := by omega
    simp only [Dsk.act, if_neg h0, if_neg h1, if_pos h3, Dsk.sync, begin_fa_end h (i := 0) (by decide)]
    rfl
theorem ActsSl.extNo {w w' : World} {G : Nat → Prop} {p : Option Addr} {l : List PAct} (h : ActsSl w G p l) (hE : Ext No w w') : ActsSl w' G p l :=
  let ⟨L, h1, h2⟩ := h
  ⟨L, h1.extNo hE, ⟨h2.len, fun i a r ha hr => (h2.at' i a r ha hr).ext hE fun _ _ => id⟩⟩
theorem whichAt_calls (w : World) {w0 : World} {G : Nat → Prop} {a : PAct} {r : List Value} (h : ActAt w0 G a r) : CallsV Try.prog 13 [.agg r.toArray] w fun v w' => v = .int .i64 (whichN a.k : Int) ∧ Ext No w w' := by
  obtain ⟨q, qc, rfl, _⟩ := h
  exact which_calls w a q qc

/-- two disks that have nothing to do with one another -/
structure FI (w u : World) (d c m : Nat) (D : Dsk) (F : Nat → Prop) (E : Dsk) (Fc : Nat → Prop) : Prop where
  okD : D.Ok m
  okE : E.Ok m
  atD : At u d F D
  atE : At u c Fc E
  newD : ∀ t, F t → w.heap.size ≤ t
  newE : ∀ t, Fc t → w.heap.size ≤ t
  disj : ∀ t, F t → ¬ Fc t
section
variable {w u u2 : World} {d c m m' : Nat} {D : Dsk} {F : Nat → Prop} {E : Dsk} {Fc : Nat → Prop}
theorem FI.swap (h : FI w u d c m D F E Fc) : FI w u c d m E Fc D F := ⟨h.okE, h.okD, h.atE, h.atD, h.newE, h.newD, fun t h1 h2 => h.disj t h2 h1⟩
theorem FI.ext (h : FI w u d c m D F E Fc) (hE : Ext No u u2) : FI w u2 d c m D F E Fc := { h with atD := h.atD.extNo hE, atE := h.atE.extNo hE }
theorem FI.ext1 {b : Nat} (h : FI w u d c m D F E Fc) (hE : Ext (One b) u u2) (h1 : ¬ F b) (h2 : ¬ Fc b) : FI w u2 d c m D F E Fc :=
  { h with atD := h.atD.ext hE fun t ht e => h1 ((show t = b from e) ▸ ht), atE := h.atE.ext hE fun t ht e => h2 ((show t = b from e) ▸ ht) }
theorem FI.up (h : FI w u d c m D F E Fc) (hm : m ≤ m') : FI w u d c m' D F E Fc := { h with okD := h.okD.mono hm, okE := h.okE.mono hm }
theorem FI.left {D' : Dsk} (h : FI w u d c m D F E Fc) (hw : w.heap.size ≤ u.heap.size) (hA : At u2 d (Grow F u u2) D') (hE : Ext F u u2) (hm : m ≤ m') (hok : D'.Ok m') : FI w u2 d c m' D' (Grow F u u2) E Fc :=
  ⟨hok, h.okE.mono hm, hA, h.atE.ext hE fun t ht e => h.disj t e ht, fun t ht => ht.elim (h.newD t) fun e => Nat.le_trans hw e.1, h.newE, fun t ht hc => ht.elim (fun e => h.disj t e hc) fun e => by have := h.atE.lt t hc; omega⟩
theorem FI.leftF {D' : Dsk} (h : FI w u d c m D F E Fc) (hA : At u2 d F D') (hE : Ext F u u2) (hm : m ≤ m') (hok : D'.Ok m') : FI w u2 d c m' D' F E Fc :=
  ⟨hok, h.okE.mono hm, hA, h.atE.ext hE fun t ht e => h.disj t e ht, h.newD, h.newE, h.disj⟩
end
theorem Dsk.Ok.fu {B : Dsk} {m : Nat} (h : B.Ok m) {n : Int} (hn : -1 ≤ n ∧ n < 9223372036854775808) : (B.fu n).Ok m := ⟨h.size, h.safe, h.inside, h.count, h.few, hn, h.fault, h.done⟩
theorem Dsk.Ok.fa {B : Dsk} {m : Nat} (h : B.Ok m) {n : Int} (hn : -1 ≤ n ∧ n < 9223372036854775808) : (B.fa n).Ok m := ⟨h.size, h.safe, h.inside, h.count, h.few, h.fuse, hn, h.done⟩
theorem used_calls (w : World) {p : Option Addr} {c : Nat} {l : List PAct} {G : Nat → Prop} (hcap : l.length ≤ c) (hl : ActsSl w G p l) :
    CallsV Try.prog 26 [.slice p l.length c] w fun v w' => ∃ d D F, v = .tuple #[.pointer (some ⟨d, 0, none⟩), .bool true] ∧ At w' d F D ∧ D.Calm ∧ D.Ok 200 ∧ (∀ y, F y → w.heap.size ≤ y) ∧ Ext No w w' := by
  refine calls_enter Try.func26 rfl rfl rfl rfl ?_
  have hX := Ext.refl No w
  refine c_seq (c_region (wl_p I_ok rfl (wl_nil (f_then (c_seq (c_region ?_))))))
  have hX1 := hX
  refine wl (st_call Try.call11 rfl rfl rfl rfl rfl rfl (newGood_calls w 6 (by decide)) fun v1 w1 hr1 => ?_)
  obtain ⟨d, rfl, frd, hA, hE1⟩ := hr1
  have hX := hX.thenNo hE1
  have hnew : ∀ x, Grow No w w1 x → w.heap.size ≤ x := fun x hx => hx.elim False.elim fun h => Nat.le_trans hX1.size h.1
  have hY := Ext.refl No w1
  refine wl_p I_ok rfl (wl_nil (f_then (c_seq (c_seq (c_region (wl_p I_ok rfl (wl (st_call Try.call12 rfl rfl rfl rfl rfl rfl (someActs_calls w1 hcap hl) fun v2 w2 hr2 => ?_))))))))
  obtain ⟨rfl, hl, hE2⟩ := hr2
  have hY := hY.thenNo hE2
  have hX := hX.thenNo hE2
  have hl100 : (l.take 100).length ≤ 100 := by simp; omega
  generalize l.take 100 = l at hl hl100
  refine wl_p I_ok rfl (wl_nil (f_then (c_block ?_)))
  refine c_loopK (α := Nat × Dsk × (Nat → Prop)) [4, 5, 13, 14] rfl (fun z => [(15, .int .i64 (z.1 : Int))]) (fun z u => (z.1 ≤ l.length ∧ At u d z.2.2 z.2.1 ∧ z.2.1.Calm ∧ z.2.1.Ok (2 * z.1) ∧ (∀ y, z.2.2 y → w.heap.size ≤ y)) ∧ Ext No w u) (fun z u => l.length - z.1) (0, Dsk.fresh 6, Grow No w w1) rfl ⟨⟨Nat.zero_le _, hA.ext hY fun _ _ => id, ⟨⟨rfl, rfl, rfl⟩, rfl⟩, (Dsk.Ok.fresh (by decide)).mono (by omega), hnew⟩, hX⟩ ?_
  rintro ⟨i, D, F⟩ w3 ⟨⟨hi, hA, hcalm, hok, hnew⟩, hX⟩
  dsimp only
  dsimp only at hi hA hcalm hok hnew
  have hY := Ext.refl No w3
  refine c_seq (c_region (wl_p I_ok rfl (wl_nil (f_then (c_seq (c_if rfl (fun hc => ?_) (fun hc => ?_)))))))
  · have hi' : i < l.length := by omega
    obtain ⟨bl, off, r, hp, hseg, hr4, hat⟩ := hl.get2 (Ext.refl No w) hi'
    subst hp
    refine c_skip (f_then (c_cutK (α := Dsk × (Nat → Prop)) [4, 5, 13, 14, 15] rfl (fun z => []) (fun z u => (At u d z.2 z.1 ∧ z.1.Calm ∧ z.1.Ok (2 * (i + 1)) ∧ (∀ y, z.2 y → w.heap.size ≤ y)) ∧ Ext No w u) ?_ ?_))
    · refine c_block ?_
      refine c_seq (c_region (wl (st_ix I_ok rfl 4 rfl i rfl hi' (off + i * 4) rfl (wl (st_ldN I_ok rfl (hseg.extNo hX) hr4 (wl (st_al I_ok rfl fun b7 w4 hn7 hb7 hE4 => ?_)))))))
      have fr7 := Nat.le_trans hX.size hn7
      have frhY7 := Nat.le_trans hY.size hn7
      have hY := hY.thenNo hE4
      have hX := hX.thenNo hE4
      have hF7 : ¬ F b7 := fun e => by have := hA.lt b7 e; omega
      refine wl (st_stW (l' := r) I_ok hb7 rfl (by rw [cellsOf_agg]) hr4 hr4 hat.one fun w5 hb7 hE5 hs5 => ?_)
      have hY := hY.thenNew hE5 frhY7
      have hX := hX.thenNew hE5 fr7
      refine wl_nil (f_then (c_cutK (α := Bool) [4, 5, 7, 13, 14, 15] rfl (fun z => [(25, .bool z)]) (fun z u => (z = decide (whichN (l[i]).k < 4)) ∧ Blk u b7 35 (r) ∧ Ext No w3 u ∧ Ext No w u) ?_ ?_))
      · refine c_region ?_
        refine wl_p I_ok rfl (wl_caseD 21 rfl (fun hg => ?_) (fun hg => ?_))
        · refine wl (st_ldB I_ok hb7 rfl hr4 ?_)
          refine wl (st_call Try.call13 rfl rfl rfl rfl rfl rfl (whichAt_calls w5 hat) fun v6 w6 hr6 => ?_)
          obtain ⟨rfl, hE6⟩ := hr6
          have hb7 := hb7.extNo hE6
          have hY := hY.thenNo hE6
          have hX := hX.thenNo hE6
          refine wl_pk I_ok 2 rfl (wl_nil ?_)
          exact f_cut (_) rfl ⟨by simp only [decide_eq_decide]; omega, hb7, hY, hX⟩
        · exact absurd rfl hg
      rintro z w7 ⟨rfl, hb7, hY, hX⟩
      refine c_if rfl (fun hc => ?_) (fun hc => ?_)
      · refine c_region ?_
        refine wl_p I_ok rfl (wl (st_ldB I_ok hb7 rfl hr4 ?_))
        have hXo := hX
        refine wl (st_call Try.call15 rfl rfl rfl rfl rfl rfl (happens_calls w7 (hA.ext hY fun _ _ => id) hok (by omega) (hat.ext hX fun _ _ => id)) fun v8 w8 hr8 => ?_)
        obtain ⟨rfl, hA, hE8⟩ := hr8
        have hb7 := hb7.ext hE8 hF7
        have hX := hX.trans hE8 fun y hy hF => by have := hnew y hF; omega
        refine wl_nil ?_
        exact f_blockN (f_cut ((D.act l[i]).1, Grow F _ _) rfl ⟨⟨hA, (hcalm.act _ hc).1, (hok.act _ hat.nb.1 hat.nb.2).mono (by omega), fun y hy => hy.elim (hnew y) fun h => Nat.le_trans hXo.size h.1⟩, hX⟩)
      · refine c_skip ?_
        exact f_blockN (f_cut (D, F) rfl ⟨⟨hA.ext hY fun _ _ => id, hcalm, hok.mono (by omega), hnew⟩, hX⟩)
    rintro ⟨D, F⟩ w9 ⟨⟨hA, hcalm, hok, hnew⟩, hX⟩
    dsimp only at hA hcalm hok hnew
    refine c_region (wl_p I_ok rfl ?_)
    rw [IntWalk.i64_in _ (by omega)]
    refine wl_nil ?_
    exact f_round (i + 1, D, F) rfl ⟨⟨by dsimp only; omega, hA, hcalm, hok, hnew⟩, hX⟩ (by first | omega | (dsimp only; omega))
  · refine c_exit ?_
    refine f_thenE (f_thenE (f_blockE (f_then (c_seq (c_region (wl_p I_ok rfl (wl_nil (f_then (c_ret (f_ret [_, _] ⟨rfl, rfl, trivial⟩ ?_))))))))))
    exact ⟨d, D, F, rfl, hA.ext hY fun _ _ => id, hcalm, hok.mono (by omega), hnew, hX⟩
end Go.Proofs.Ytoldbdocgimpnaa
