/- acts; which, some, keep -/
import Derived.Test.YtoldbdocgimpnaaW9
namespace Go.Proofs.Ytoldbdocgimpnaa
open Go.Vc

/-- an act -/
structure PAct where
  k : Int
  n : Int
  b : Int
  keep : List Bool

def whichN (k : Int) : Nat := ((k % 18446744073709551616) % 7).toNat
theorem whichN_lt (k : Int) : whichN k < 7 := by unfold whichN; omega

abbrev actV (a : PAct) (p : Option Addr) (c : Nat) : List Value := [.int .i64 a.k, .int .i64 a.n, .int .u8 a.b, .slice p a.keep.length c]
def boolsL (l : List Bool) : List Value := l.map Value.bool

/-- an act's cells, what it keeps in blocks of G -/
def ActAt (w : World) (G : Nat → Prop) (a : PAct) (r : List Value) : Prop :=
  ∃ p c, r = actV a p c ∧ a.keep.length ≤ c ∧ c ≤ maxLen ∧ Sl w p a.keep.length 1 (boolsL a.keep) ∧ (a.keep ≠ [] → ∀ b off, p = some ⟨b, off, none⟩ → G b) ∧ -9223372036854775808 ≤ a.n ∧ a.n < 9223372036854775808
theorem ActAt.ext {S G : Nat → Prop} {w w' : World} {a : PAct} {r : List Value} (h : ActAt w G a r) (hE : Ext S w w') (hS : ∀ b, G b → ¬ S b) : ActAt w' G a r := by
  obtain ⟨p, c, h1, h2, h3, h4, h5, h6⟩ := h
  refine ⟨p, c, h1, h2, h3, ?_, h5, h6⟩
  by_cases hk : a.keep = []
  · rw [hk]; exact Sl.nil _ _ _
  · exact h4.ext hE fun b off hb => hS b (h5 hk b off hb)

theorem which_calls (w : World) (a : PAct) (p : Option Addr) (c : Nat) : CallsV Try.prog 13 [.agg (actV a p c).toArray] w fun v w' => v = .int .i64 (whichN a.k : Int) ∧ Ext No w w' := by
  refine calls_enter Try.func13 rfl rfl rfl rfl ?_
  refine c_seq (c_region (wl (st_al I_ok rfl fun b1 w1 hn1 hb1 hE1 => ?_)))
  refine wl_p I_ok rfl (wl_nil (f_then (c_seq (c_region (wl_p I_ok rfl (wl (st_ldb I_ok hb1 rfl rfl (wl_p I_ok rfl (wl_nil (f_then (c_ret (f_ret1 rfl rfl ?_))))))))))))
  refine ⟨?_, hE1⟩
  have e : IntKind.i64.wrap ((IntKind.u64.wrap a.k).tmod 7) = (whichN a.k : Int) := by
    rw [IntKind.wrap_u64, IntWalk.rem_in _ _ (by omega), IntWalk.i64_in _ (by omega)]
    unfold whichN
    omega
  exact congrArg _ e

theorem some_calls (w : World) (p : Option Addr) (n c : Nat) (hc : n ≤ c) : CallsV Try.prog 12 [.slice p n c] w fun v w' => v = .slice p (min n 100) c ∧ w' = w := by
  refine calls_enter Try.func12 rfl rfl rfl rfl ?_
  refine c_seq (c_region (wl_p I_ok rfl (wl_nil (f_then (c_seq (c_region (wl_p I_ok rfl (wl (st_sl I_ok rfl 0 (min n 100) c 4 rfl (.inr ⟨rfl, rfl⟩) (.inl ?_) (.inr ⟨rfl, rfl⟩) (by omega) (by omega) (Nat.le_refl c) (wl_p I_ok rfl (wl_nil (f_then (c_ret (f_ret1 rfl rfl ?_))))))))))))))
  · show some (if (100 : Int) < (n : Int) then (100 : Int) else (n : Int)) = _
    congr 1; omega
  · refine ⟨?_, rfl⟩
    dsimp only
    rw [slBase_zero]; rfl

theorem clone_calls (w : World) {p : Option Addr} {c : Nat} {l : List Bool} (hs : Sl w p l.length 1 (boolsL l)) (hl : l.length < 1000) :
    CallsV Try.prog 34 [.slice p l.length c] w fun v w' => ∃ q c', v = .slice q l.length c' ∧ Sl w' q l.length 1 (boolsL l) ∧ (∀ b off, q = some ⟨b, off, none⟩ → w.heap.size ≤ b) ∧ Ext No w w' := by
  refine calls_enter Try.func34 rfl rfl rfl rfl ?_
  have hX := Ext.refl No w
  cases p with
  | none =>
    have h0 : l.length = 0 := by
      rcases hs.2 with h | ⟨b, off, h, _⟩
      · exact h
      · cases h
    refine c_seq (c_region (wl_p I_ok rfl (wl_nil (f_then (c_seq (c_seq (c_region (wl_p I_ok rfl (wl_nil (f_then (c_condT rfl ?_)))))))))))
    refine c_seq (c_region (wl_p I_ok rfl (wl_nil (f_then (c_ret (f_thenR (f_ret1 rfl rfl ?_)))))))
    refine ⟨none, 0, by rw [h0], ?_, fun b off hb => (by cases hb), hX⟩
    exact ⟨hs.1, .inl h0⟩
  | some q =>
    refine c_seq (c_region (wl_p I_ok rfl (wl_nil (f_then (c_seq (c_seq (c_region (wl_p I_ok rfl (wl_nil (f_then (c_condF rfl ?_)))))))))))
    refine c_skip ?_
    refine f_then (c_seq (c_region (wl (st_bs I_ok rfl 1 rfl rfl rfl (by decide) (by decide) trivial (l' := []) rfl fun b5 w1 hn5 hb5 hE1 hs1 => ?_))))
    have hX := hX.thenNo hE1
    have hown : Own w1 (some ⟨b5, 0, none⟩) 0 0 4 1 [] := .inr ⟨b5, [], rfl, hb5, rfl, Nat.le_refl _, by unfold maxLen; omega, rfl⟩
    have hsrc : Src Try.prog w1 1 (.slice (some q) l.length c) l.length (boolsL l) := Src.slice (hs.extNo hE1) fun v hv => by
      obtain ⟨x, _, rfl⟩ := List.mem_map.1 hv
      rfl
    refine wl_p I_ok rfl (wl (st_app I_ok rfl 1 1 rfl rfl rfl (by decide) hown hsrc (by dsimp only [maxLen]; omega) (by dsimp only; omega) fun p2 c2 w2 ho2 hE2 hB2 => ?_))
    have ho2 : Own w2 p2 (0 + l.length) c2 4 1 (boolsL l) := ho2
    have hE2 : Ext (One b5) w1 w2 := hE2.mono fun x _ e => by
      have e : some (⟨b5, 0, none⟩ : Addr) = some ⟨x, 0, none⟩ := e
      simp at e; exact e.symm
    have hX := hX.thenNew hE2 hn5
    refine wl_p I_ok rfl (wl_nil (f_then (c_ret (f_ret1 rfl rfl ?_))))
    dsimp only
    rw [Nat.zero_add] at ho2 ⊢
    refine ⟨p2, c2, rfl, ho2.sl, fun b off hb => ?_, hX⟩
    rcases ho2 with ⟨hp, _⟩ | ⟨b', l', hp, _⟩
    · rw [hp] at hb; cases hb
    · rw [hp] at hb
      simp at hb
      obtain ⟨rfl, rfl⟩ := hb
      rcases hB2 b' hp with h' | h'
      · have h' : some (⟨b5, 0, none⟩ : Addr) = some ⟨b', 0, none⟩ := h'
        simp at h'
        omega
      · have := hE1.size
        omega

theorem keepOf_calls (w : World) {a : PAct} {p : Option Addr} {c : Nat} (hs : Sl w p a.keep.length 1 (boolsL a.keep)) (hc : a.keep.length ≤ c) :
    CallsV Try.prog 38 [.agg (actV a p c).toArray] w fun v w' => ∃ q c', v = .slice q (a.keep.take 200).length c' ∧ Sl w' q (a.keep.take 200).length 1 (boolsL (a.keep.take 200)) ∧ (∀ b off, q = some ⟨b, off, none⟩ → w.heap.size ≤ b) ∧ Ext No w w' := by
  refine calls_enter Try.func38 rfl rfl rfl rfl ?_
  have hX := Ext.refl No w
  refine c_seq (c_region (wl (st_al I_ok rfl fun b1 w1 hn1 hb1 hE1 => ?_)))
  have hX := hX.thenNo hE1
  refine wl_p I_ok rfl (wl_nil (f_then (c_seq (c_region (wl_p I_ok rfl (wl (st_ldb I_ok hb1 rfl rfl (wl_p I_ok rfl (wl (st_ldb I_ok hb1 rfl rfl (wl_p I_ok rfl ?_)))))))))))
  have hlen : (a.keep.take 200).length = min a.keep.length 200 := by simp [Nat.min_comm]
  have hs1 := (hs.extNo hE1).slice 0 (min a.keep.length 200) c (by omega) (by omega) (by omega)
  have e1 : ((boolsL a.keep).drop (0 * 1)).take ((min a.keep.length 200 - 0) * 1) = boolsL (a.keep.take 200) := by
    simp only [boolsL, List.drop_zero, Nat.mul_one, Nat.sub_zero, ← List.map_take]
    congr 1
    rw [Nat.min_comm, List.take_eq_take_iff]
    omega
  rw [e1, slBase_zero, Nat.sub_zero, ← hlen] at hs1
  refine wl (st_sl I_ok rfl 0 (a.keep.take 200).length c 1 rfl (.inr ⟨rfl, rfl⟩) (.inl ?_) (.inr ⟨rfl, rfl⟩) (by omega) (by omega) (Nat.le_refl c) ?_)
  · show some (if (200 : Int) < (a.keep.length : Int) then (200 : Int) else (a.keep.length : Int)) = _
    rw [hlen]; congr 1; omega
  dsimp only
  rw [slBase_zero, Nat.sub_zero]
  refine wl (st_call Try.call34 rfl rfl rfl rfl rfl rfl (clone_calls w1 hs1 (by omega)) fun v2 w2 hr2 => ?_)
  obtain ⟨q, c', rfl, h1, h2, hE2⟩ := hr2
  refine wl_p I_ok rfl (wl_nil (f_then (c_ret (f_ret1 rfl rfl ?_))))
  exact ⟨q, c', rfl, h1, fun b off hb => Nat.le_trans hE1.size (h2 b off hb), hX.thenNo hE2⟩
end Go.Proofs.Ytoldbdocgimpnaa
