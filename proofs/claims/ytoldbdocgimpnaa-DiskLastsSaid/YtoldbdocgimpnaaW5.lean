/- Write -/
import Derived.Test.YtoldbdocgimpnaaW4
import Derived.Test.YtoldbdocgimpnaaVcT
namespace Go.Proofs.Ytoldbdocgimpnaa
open Go.Vc

/-- a disk, wherever its rows are -/
def At (w : World) (d : Nat) (F : Nat → Prop) (D : Dsk) : Prop := ∃ sb op oc, DiskAt w d sb op oc F D

theorem DiskAt.mono {F F' : Nat → Prop} {w : World} {d sb oc : Nat} {op : Option Addr} {D : Dsk} (h : DiskAt w d sb op oc F D) (hF : ∀ x, F x → F' x) (hlt : ∀ x, F' x → x < w.heap.size) : DiskAt w d sb op oc F' D := by
  obtain ⟨L, h1, h2⟩ := h.secs
  exact ⟨h.head, ⟨L, h1, h2.mono hF⟩, h.order, ⟨hF _ h.own.1, hF _ h.own.2.1, fun x hx => hF _ (h.own.2.2 x hx)⟩, hlt⟩
theorem DiskAt.grow {F : Nat → Prop} {w w' : World} {d sb oc : Nat} {op : Option Addr} {D : Dsk} (h : DiskAt w' d sb op oc F D) : DiskAt w' d sb op oc (Grow F w w') D :=
  h.mono (fun _ => .inl) fun x hx => hx.elim (h.lt x) fun hx => hx.2
theorem At.ext {S F : Nat → Prop} {w w' : World} {d : Nat} {D : Dsk} (h : At w d F D) (hE : Ext S w w') (hS : ∀ x, F x → ¬ S x) : At w' d F D := let ⟨sb, op, oc, h⟩ := h; ⟨sb, op, oc, h.ext hE hS⟩
theorem At.extNo {F : Nat → Prop} {w w' : World} {d : Nat} {D : Dsk} (h : At w d F D) (hE : Ext No w w') : At w' d F D := let ⟨sb, op, oc, h⟩ := h; ⟨sb, op, oc, h.extNo hE⟩
theorem At.grow {F : Nat → Prop} {w w' : World} {d : Nat} {D : Dsk} (h : At w' d F D) : At w' d (Grow F w w') D := let ⟨sb, op, oc, h⟩ := h; ⟨sb, op, oc, h.grow⟩
theorem At.mono {F F' : Nat → Prop} {w : World} {d : Nat} {D : Dsk} (h : At w d F D) (hF : ∀ x, F x → F' x) (hlt : ∀ x, F' x → x < w.heap.size) : At w d F' D := let ⟨sb, op, oc, h⟩ := h; ⟨sb, op, oc, h.mono hF hlt⟩
theorem At.lt {F : Nat → Prop} {w : World} {d : Nat} {D : Dsk} (h : At w d F D) : ∀ x, F x → x < w.heap.size := let ⟨_, _, _, h⟩ := h; h.lt
theorem At.own {F : Nat → Prop} {w : World} {d : Nat} {D : Dsk} (h : At w d F D) : F d := let ⟨_, _, _, h⟩ := h; h.own.1
theorem Grow.wide {F : Nat → Prop} {w0 w w' w1 : World} (h0 : w0.heap.size ≤ w.heap.size) (h1 : w'.heap.size ≤ w1.heap.size) {x : Nat} (h : Grow F w w' x) : Grow F w0 w1 x :=
  h.imp id fun h => ⟨Nat.le_trans h0 h.1, Nat.lt_of_lt_of_le h.2 h1⟩

theorem cells_num (b : List Int) : cellsOf (numA .u8 b) = bytesL b := by simp [numA, bytesL, cellsOf_agg]

theorem write_calls (w : World) {d m : Nat} {F : Nat → Prop} {D : Dsk} (h : At w d F D) (hok : D.Ok m) (hm : m + 1 < 1000000000) (i : Int) {b : List Int} (hb : b.length = 64) :
    CallsV Try.prog 37 [.pointer (some ⟨d, 0, none⟩), .int .i64 i, numA .u8 b] w fun v w' => v = .int .i64 (D.write i b).2 ∧ At w' d (Grow F w w') (D.write i b).1 ∧ Ext F w w' := by
  obtain ⟨sb, op, oc, h⟩ := h
  refine calls_enter Try.func37 rfl rfl rfl rfl ?_
  have hX := Ext.refl F w
  refine c_seq (c_region (wl (st_al I_ok rfl fun b3 w1 hn3 hb3 hE1 => ?_)))
  have fr3 := Nat.le_trans hX.size hn3
  have hX := hX.thenNo hE1
  refine wl (st_al I_ok rfl fun b4 w2 hn4 hb4 hE2 => ?_)
  have ne3_4 : b3 ≠ b4 := Nat.ne_of_lt (Nat.lt_of_lt_of_le hb3.lt hn4)
  have fr4 := Nat.le_trans hX.size hn4
  have hb3 := hb3.extNo hE2
  have hX := hX.thenNo hE2
  refine wl (st_al I_ok rfl fun b5 w3 hn5 hb5 hE3 => ?_)
  have fr5 := Nat.le_trans hX.size hn5
  have hb3 := hb3.extNo hE3
  have hb4 := hb4.extNo hE3
  have hX := hX.thenNo hE3
  have hF : ∀ x, w.heap.size ≤ x → ¬ F x := fun x hx e => by have := h.lt x e; omega
  have h := ((h.extNo hE1).extNo hE2).extNo hE3
  have hb5 : Blk w3 b5 29 (bytesL b) := by rw [← cells_num]; exact hb5
  have hop := operation_any w3 i true Try.call57 h.head hok.fuse hok.fault ⟨hok.done.1, by have := hok.done.2; omega⟩
    (fun v w' => v = .int .i64 (D.write i b).2 ∧ At w' d (Grow F w w') (D.write i b).1 ∧ Ext F w w') (caps := #[.pointer (some ⟨b5, 0, none⟩), .pointer (some ⟨b3, 0, none⟩), .pointer (some ⟨b4, 0, none⟩)])
    (fun hd => ?_) (fun hd hi => ?_) (fun hd hi hf w' hb' hE => ?_) (fun hd hi hf hbu hfu w' hb' hE => ?_) (fun hd hi hf hbu w' hb' hE => ?_)
  · refine wl_p I_ok rfl (wl_nil (f_then (c_seq (c_region (wl (st_ldb I_ok hb3 rfl rfl (wl (st_ldb I_ok hb4 rfl rfl (wl_p I_ok rfl (wl (st_call Try.call47 rfl rfl rfl rfl rfl rfl hop fun v4 w4 hr4 => ?_)))))))))))
    obtain ⟨rfl, hr4⟩ := hr4
    refine wl_p I_ok rfl (wl_nil (f_then (c_ret (f_ret1 rfl rfl ?_))))
    exact ⟨rfl, hr4⟩
  · have e : D.write i b = (D, 9) := by simp [Dsk.write, Dsk.begin, hd]
    rw [e]
    exact ⟨rfl, ⟨_, _, _, h.grow⟩, hX⟩
  · have e : D.write i b = (D, 2) := by simp [Dsk.write, Dsk.begin, hd, hi]
    rw [e]
    exact ⟨rfl, ⟨_, _, _, h.grow⟩, hX⟩
  · have e : D.write i b = ({ D with fault := -1 }, 8) := by simp [Dsk.write, Dsk.begin, hd, hi, hf]
    rw [e]
    have h' := h.headTo (D' := { D with fault := -1 }) rfl rfl (by rw [hd]; exact hb') hE
    exact ⟨rfl, ⟨_, _, _, h'.grow⟩, hX.trans hE fun x _ e => e ▸ h.own.1⟩
  · have e : D.write i b = ({ D with fault := faultTo D.fault, fuse := -1, dead := true }, 9) := by simp [Dsk.write, Dsk.begin, hd, hi, hf, hfu]
    rw [e]
    have h' := h.headTo (D' := { D with fault := faultTo D.fault, fuse := -1, dead := true }) rfl rfl hb' hE
    exact ⟨rfl, ⟨_, _, _, h'.grow⟩, hX.trans hE fun x _ e => e ▸ h.own.1⟩
  · have hbu' : ¬ (D.fuse = 0) := fun e => hbu ⟨rfl, e⟩
    have e0 : D.begin i true = ({ D with fault := faultTo D.fault, fuse := fuseTo true D.fuse, done := D.done + 1 }, 0) := by simp [Dsk.begin, hd, hi, hf, hbu']
    have e : D.write i b = (({ D with fault := faultTo D.fault, fuse := fuseTo true D.fuse, done := D.done + 1 } : Dsk).put i.toNat b, 0) := by
      simp only [Dsk.write, e0, if_true]
    rw [e]
    have h' := h.headTo (D' := { D with fault := faultTo D.fault, fuse := fuseTo true D.fuse, done := D.done + 1 }) rfl rfl (by rw [hd]; exact hb') hE
    have hok' := hok.begin i true
    rw [e0] at hok'
    have nd : ∀ x, w.heap.size ≤ x → x ≠ d := fun x hx e => hF x hx (e ▸ h.own.1)
    have hi' : (i.toNat : Int) = i := by omega
    refine (writeIn_calls w' h' hok' (by omega) (i := i.toNat) (by simp only; omega) hb (hb5.ext1 hE (nd _ fr5)) (hb3.ext1 hE (nd _ fr3)) (by rw [hi']; exact hb4.ext1 hE (nd _ fr4)) ⟨hF _ fr5, hF _ fr3, hF _ fr4⟩).mono fun v w2 ⟨op', oc', h2, hE2⟩ => ?_
    have hXw : Ext F w w' := hX.trans hE fun x _ e => e ▸ h.own.1
    refine ⟨rfl, ⟨_, _, _, h2.mono (fun x hx => hx.wide hXw.size (Nat.le_refl _)) fun x hx => ?_⟩, hXw.trans hE2 fun x _ => id⟩
    exact hx.elim (fun hx => h2.lt x (.inl hx)) fun hx => hx.2
end Go.Proofs.Ytoldbdocgimpnaa
