/- first walks -/
import Derived.Test.YtoldbdocgimpnaaHd
namespace Go.Proofs.Ytoldbdocgimpnaa
open Go.Vc

/-- the bytes of an act's block -/
def actByte (b : Int) (i : Nat) : Int := IntKind.u8.wrap (b + IntKind.u8.wrap (IntKind.i64.wrap (3 * (i : Int))))
def actBytes (b : Int) : List Int := (List.range 64).map (actByte b)
def upTo (f : Nat → Int) (i n : Nat) : List Value := (List.range n).map fun j => Value.int .u8 (if j < i then f j else 0)
theorem upTo_zero (f : Nat → Int) (n : Nat) : upTo f 0 n = List.replicate n (.int .u8 0) := by
  apply List.ext_getElem
  · simp [upTo]
  · intro i h1 h2; simp [upTo]
theorem upTo_put (f : Nat → Int) (i n : Nat) : (upTo f i n).set i (.int .u8 (f i)) = upTo f (i + 1) n := by
  apply List.ext_getElem
  · simp [upTo]
  · intro j h1 h2
    simp only [upTo, List.length_set, List.length_map, List.length_range] at h1
    rw [List.getElem_set]
    by_cases e : i = j
    · subst e; simp [upTo]
    · simp only [e, if_false, upTo, List.getElem_map, List.getElem_range]
      by_cases h' : j < i
      · simp [h', show j < i + 1 from by omega]
      · simp [h', show ¬ j < i + 1 from by omega]
theorem upTo_full (f : Nat → Int) (n : Nat) : upTo f n n = ((List.range n).map f).map (Value.int .u8) := by
  apply List.ext_getElem
  · simp [upTo]
  · intro i h1 h2
    simp only [upTo, List.length_map, List.length_range] at h1
    simp [upTo, h1]

theorem block_calls (w : World) (k n b : Int) (p : Option Addr) (ln c : Nat) : CallsV Try.prog 14 [.agg #[.int .i64 k, .int .i64 n, .int .u8 b, .slice p ln c]] w fun v w' => v = numA .u8 (actBytes b) ∧ Ext No w w' := by
  refine calls_enter Try.func14 rfl rfl rfl rfl ?_
  have hX := Ext.refl No w
  refine c_seq ?_
  refine c_region ?_
  refine wl (st_al I_ok rfl fun b1 w1 hn1 hb1 hE1 => ?_)
  have fr1 := Nat.le_trans hX.size hn1
  have hX := hX.thenNo hE1
  refine wl (st_al I_ok rfl fun b2 w2 hn2 hb2 hE2 => ?_)
  have ne1_2 : b1 ≠ b2 := Nat.ne_of_lt (Nat.lt_of_lt_of_le hb1.lt hn2)
  have fr2 := Nat.le_trans hX.size hn2
  have hb1 := hb1.extNo hE2
  have hX := hX.thenNo hE2
  refine wl_nil ?_
  refine f_then ?_
  refine c_seq ?_
  refine c_seq ?_
  refine c_region ?_
  refine wl_p I_ok rfl ?_
  refine wl_nil ?_
  refine f_then ?_
  refine c_block ?_
  have hb2 : Blk w2 b2 29 (upTo (actByte b) 0 64) := by rw [upTo_zero]; exact hb2
  refine c_loop (α := Nat) (fun i u => i ≤ 64 ∧ Ext No w u ∧ Blk u b1 35 [.int .i64 k, .int .i64 n, .int .u8 b, .slice p ln c] ∧ Blk u b2 29 (upTo (actByte b) i 64))
    (fun i => [(4, .int .i64 (i : Int)), (2, .pointer (some ⟨b2, 0, none⟩)), (1, .pointer (some ⟨b1, 0, none⟩))]) (fun i _ => 64 - i) 0 rfl ⟨by omega, hX, hb1, hb2⟩ ?_
  clear hX hb1 hb2 hE2 hE1
  rintro i w2 ⟨hi, hX, hb1, hb2⟩
  refine c_seq ?_
  refine c_region ?_
  refine wl_p I_ok rfl ?_
  refine wl_nil ?_
  refine f_then ?_
  refine c_seq ?_
  refine c_if rfl (fun hc => ?_) (fun hc => ?_)
  · skip
    refine c_skip ?_
    refine f_then ?_
    refine c_seq ?_
    refine c_block ?_
    refine c_seq ?_
    refine c_region ?_
    refine wl_p I_ok rfl ?_
    refine wl_nil ?_
    refine f_then ?_
    refine c_region ?_
    refine wl_p I_ok rfl ?_
    refine wl (st_ldb I_ok hb1 rfl rfl ?_)
    refine wl_p I_ok rfl ?_
    refine wl (st_ix I_ok rfl 1 rfl i rfl (by omega) i (by omega) ?_)
    refine wl (st_set I_ok hb2 rfl rfl (by simp [upTo]; omega) fun w3 hb2 hE3 hs3 => ?_)
    have hb1 := hb1.ext1 hE3 ne1_2
    have hX := hX.thenNew hE3 fr2
    refine wl_nil ?_
    refine f_blockN (f_then ?_)
    refine c_region ?_
    refine wl_p I_ok rfl ?_
    refine wl_nil ?_
    rw [IntWalk.i64_in _ (by omega)]
    refine f_round (i + 1) rfl ⟨by omega, hX, hb1, ?_⟩ (by omega)
    rw [← upTo_put]; exact hb2
  · skip
    refine c_exit ?_
    refine f_thenE (f_thenE (f_blockE (f_then ?_)))
    obtain rfl : i = 64 := by omega
    rw [upTo_full] at hb2
    refine c_seq ?_
    refine c_region ?_
    refine wl (st_ldB I_ok hb2 rfl (by simp) ?_)
    refine wl (st_stW I_ok hb2 rfl rfl (by simp) (by simp) one_ints fun w3 hb2 hE3 hs3 => ?_)
    have hX := hX.thenNew hE3 fr2
    refine wl_nil ?_
    refine f_then ?_
    refine c_ret ?_
    refine f_ret [_] ⟨⟨b2, 0, rfl, ld_all I_ok rfl rfl hb2.seg (by simp; rfl)⟩, trivial⟩ ?_
    exact ⟨rfl, hX⟩
end Go.Proofs.Ytoldbdocgimpnaa
