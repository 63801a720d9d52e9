/-
  Walks and laws towards: ObjectSame: which objects are the same, for every two objects; the condition: the table of the digest reads as the card lists it (tied to the text of the program).
-/
import Derived.DeepKeys3
import Derived.MapKept
import Derived.MapFrom
import Derived.TacticsIn
import Derived.RangeFuncSeq
import Derived.RangeFuncLeaves
import Derived.Test.YtjghckniloikgaaDoorSamB
namespace Go.Proofs.YtjghckniloikgaaDoor
open Go.Vc
theorem row_eq {r s : RowD} : ([.string r.path, .string r.text] : List Lit) = [.string s.path, .string s.text] ↔ r = s := by
  obtain ⟨a, b⟩ := r
  obtain ⟨c, d⟩ := s
  simp
theorem chg_eq {r s : ChgD} : ([.string r.path, .bool r.is, .string r.text] : List Lit) = [.string s.path, .bool s.is, .string s.text] ↔ r = s := by
  obtain ⟨a, b, c⟩ := r
  obtain ⟨d, e, f⟩ := s
  simp
theorem leaf_eq {r s : LeafD} : ((.string r.path : Lit) :: idLits r.id) = .string s.path :: idLits s.id ↔ r = s := by
  obtain ⟨a, b⟩ := r
  obtain ⟨c, d⟩ := s
  simp [idLits_inj]
theorem list_ext {α : Type} {l m : List α} (hl : l.length = m.length) (h : ∀ k (hk : k < l.length), l[k] = m[k]'(by omega)) : l = m :=
  List.ext_getElem hl fun k h1 _ => h k h1
def RowsIn (l : List RowD) : Prop := ∀ r ∈ l, r.path.length ≤ maxLen ∧ r.text.length ≤ maxLen
theorem same5_calls (w : World) {p q : Option Addr} {c d : Nat} {l m : List RowD} (h : Sl w p l.length 2 (l.flatMap RowD.cells)) (h' : Sl w q m.length 2 (m.flatMap RowD.cells)) (hl : l.length < 1000000000) (h1 : RowsIn l) (h2 : RowsIn m) :
    CallsV Tryd.prog 27 [.agg #[.slice p l.length c], .agg #[.slice q m.length d]] w fun v w' => v = .bool (decide (l = m)) ∧ Ext No w w' := by
  refine calls_enter Tryd.func27 rfl rfl rfl rfl ?_
  have hX := Ext.refl No w
  refine c_seq (c_region (wl (st_al I_ok rfl fun b2 w1 hn2 hb2 hE1 => ?_)))
  have fr2 := Nat.le_trans hX.size hn2
  have hX := hX.thenNo hE1
  have hb2 : Blk w1 b2 58 ([.slice p l.length c]) := hb2
  refine wl (st_al I_ok rfl fun b3 w2 hn3 hb3 hE2 => ?_)
  have ne2_3 : b2 ≠ b3 := Nat.ne_of_lt (Nat.lt_of_lt_of_le hb2.lt hn3)
  have fr3 := Nat.le_trans hX.size hn3
  have hb2 := hb2.extNo hE2
  have hX := hX.thenNo hE2
  have hb3 : Blk w2 b3 58 ([.slice q m.length d]) := hb3
  refine wl_p I_ok rfl (wl_nil (f_then (c_seq (c_seq (c_region (wl_p I_ok rfl (wl (st_ldb I_ok hb2 rfl rfl (wl_p I_ok rfl (wl (st_ldb I_ok hb3 rfl rfl (wl_p I_ok rfl (wl_nil (f_then (c_if rfl (fun hc => ?_) (fun hc => ?_))))))))))))))))
  · refine c_seq ?_
    refine c_region (wl_p I_ok rfl (wl_nil (f_then (c_ret (f_thenR (f_ret1 rfl rfl ?_))))))
    exact ⟨congrArg Value.bool (by symm; rw [decide_eq_false_iff_not]; intro h; rw [h] at hc; exact hc rfl), hX⟩
  · have hlm : l.length = m.length := by omega
    refine c_skip (f_then (c_seq (c_seq (c_region (wl_p I_ok rfl (wl_nil (f_then (c_block ?_))))))))
    refine c_loopK (α := Nat) [2, 3] rfl (fun z => [(5, .int .i64 (z : Int))]) (fun z u => (z ≤ l.length ∧ ∀ k (hk : k < l.length), k < z → l[k] = m[k]'(by omega)) ∧ Blk u b2 58 ([.slice p l.length c]) ∧ Blk u b3 58 ([.slice q m.length d]) ∧ Ext No w u) (fun z u => l.length - z) (0) rfl ⟨⟨Nat.zero_le _, fun k _ h => absurd h (Nat.not_lt_zero _)⟩, hb2, hb3, hX⟩ ?_
    rintro i w3 ⟨⟨hi, hok⟩, hb2, hb3, hX⟩
    refine c_seq (c_seq (c_region (wl_p I_ok rfl (wl (st_ldb I_ok hb2 rfl rfl (wl_p I_ok rfl (wl_nil (f_then (c_if rfl (fun hc => ?_) (fun hc => ?_))))))))))
    · have hi : i < l.length := by omega
      have him : i < m.length := by omega
      obtain ⟨b, off, rfl, hsa⟩ := h.rowAll (fun r _ => r.len) (by omega)
      obtain ⟨b', off', rfl, hsb⟩ := h'.rowAll (fun r _ => r.len) (by omega)
      have ha1 := h1 _ (List.getElem_mem hi)
      have ha2 := h2 _ (List.getElem_mem him)
      refine c_skip (f_then (c_seq (c_block (c_seq (c_draw rfl 11 [(0, true), (1, true), (2, true), (3, true), (4, true), (5, true), (6, true), (7, true), (8, true), (9, true), (10, true)] [] (No) (by kernel_rfl) fun w4 hE4 hs4 => ?_)))))
      have hd2 := hb2
      have hd3 := hb3
      have hXd := hX
      have hb2 := hb2.extNo hE4
      have hb3 := hb3.extNo hE4
      have hX := hX.thenNo hE4
      have hC : Ext (No) _ w4 := hE4.no
      refine wd_k I_ok 1 rfl (wd_ld I_ok rfl rfl (fun w' hw' => (hd2.extNo hw').cell rfl) ?_)
      refine wd_k I_ok 1 rfl (wd_ix I_ok rfl rfl 2 rfl i rfl (by omega) (off + i * 2) rfl (wd_ldN I_ok rfl rfl (fun w' hw' => ((hsa i hi).extNo (hXd.thenNo hw'))) rfl ?_))
      refine wd_k I_ok 1 rfl (wd_ld I_ok rfl rfl (fun w' hw' => (hd3.extNo hw').cell rfl) ?_)
      refine wd_k I_ok 1 rfl (wd_ix I_ok rfl rfl 2 rfl i rfl (by omega) (off' + i * 2) rfl (wd_ldN I_ok rfl rfl (fun w' hw' => ((hsb i him).extNo (hXd.thenNo hw'))) rfl ?_))
      refine wd_eqK rfl rfl gRowD 10 (by decide) kRowD (rowForm rfl) (rowForm rfl) (rowKey ha1.1 ha1.2) (rowKey ha2.1 ha2.2) row_eq ?_
      simp only [Bool.false_eq_true, if_false]
      refine wd_sw (wb_nil (f_then (c_if rfl (fun hc => ?_) (fun hc => ?_))))
      · refine c_seq ?_
        refine c_region (wl_p I_ok rfl (wl_nil (f_then (c_ret (f_blockR (f_thenR (f_thenR (f_blockR (f_thenR (f_ret1 rfl rfl ?_))))))))))
        exact ⟨congrArg Value.bool (by symm; rw [decide_eq_false_iff_not]; intro e; subst e; exact hc rfl), hX⟩
      · have hei := Decidable.not_not.1 hc
        refine c_skip (f_blockN (f_then (c_region (wl_p I_ok rfl ?_))))
        rw [IntWalk.i64_in _ (by omega)]
        refine wl_nil ?_
        exact f_round (i + 1) rfl ⟨⟨by omega, fun k hk hlt => (by rcases Nat.lt_or_ge k i with h0 | h0; exact hok k hk h0; (have e : k = i := (by omega)); subst e; exact hei)⟩, hb2, hb3, hX⟩ (by first | omega | (dsimp only; omega))
    · have hall : l = m := list_ext hlm fun k hk => hok k hk (by omega)
      refine c_exit (f_thenE (f_thenE (f_blockE (f_then (c_seq (c_region (wl_p I_ok rfl (wl_nil (f_then (c_ret (f_ret1 rfl rfl ?_)))))))))))
      exact ⟨congrArg Value.bool (decide_eq_true hall).symm, hX⟩
end Go.Proofs.YtjghckniloikgaaDoor
namespace Go.Proofs.YtjghckniloikgaaDoor
open Go.Vc
def LeafIn (r : LeafD) : Prop := r.path.length ≤ maxLen ∧ r.id.length = 32
def ChgIn (r : ChgD) : Prop := r.path.length ≤ maxLen ∧ r.text.length ≤ maxLen
def IdIn (r : List UInt8) : Prop := r.length = 32
theorem IdIn.len {r : List UInt8} (h : IdIn r) : (bytesU r).length = 32 := by rw [bytesU_len]; exact h
theorem equalLeaf_calls (w : World) {p q : Option Addr} {c d : Nat} {l m : (List (LeafD))} (h : Sl w p l.length 33 (l.flatMap LeafD.cells)) (h' : Sl w q m.length 33 (m.flatMap LeafD.cells)) (hl : l.length < 1000000000) (h1 : ∀ r ∈ l, LeafIn r) (h2 : ∀ r ∈ m, LeafIn r) :
    CallsV Tryd.prog 58 [.slice p l.length c, .slice q m.length d] w fun v w' => v = .bool (decide (l = m)) ∧ Ext No w w' := by
  refine calls_enter Tryd.func58 rfl rfl rfl rfl ?_
  have hX := Ext.refl No w
  refine c_seq (c_region (wl_p I_ok rfl (wl_nil (f_then (c_seq (c_seq (c_region (wl_p I_ok rfl (wl_nil (f_then (c_if rfl (fun hc => ?_) (fun hc => ?_))))))))))))
  · refine c_seq ?_
    refine c_region (wl_p I_ok rfl (wl_nil (f_then (c_ret (f_thenR (f_ret1 rfl rfl ?_))))))
    exact ⟨congrArg Value.bool (by symm; rw [decide_eq_false_iff_not]; intro h; rw [h] at hc; exact hc rfl), hX⟩
  · have hlm : l.length = m.length := by omega
    refine c_skip (f_then (c_seq (c_seq (c_region (wl_p I_ok rfl (wl_nil (f_then (c_block ?_))))))))
    refine c_loopK (α := Nat) [0, 1, 12] rfl (fun z => [(13, .int .i64 (z : Int))]) (fun z u => (z ≤ l.length ∧ ∀ k (hk : k < l.length), k < z → l[k] = m[k]'(by omega)) ∧ Ext No w u) (fun z u => l.length - z) (0) rfl ⟨⟨Nat.zero_le _, fun k _ h => absurd h (Nat.not_lt_zero _)⟩, hX⟩ ?_
    rintro i w1 ⟨⟨hi, hok⟩, hX⟩
    refine c_seq (c_region (wl_p I_ok rfl (wl_nil (f_then (c_seq (c_if rfl (fun hc => ?_) (fun hc => ?_)))))))
    · have hi : i < l.length := by omega
      have him : i < m.length := by omega
      obtain ⟨b, off, rfl, hsa⟩ := h.rowAll (fun r hr => LeafD.len (h1 r hr).2) (by omega)
      obtain ⟨b', off', rfl, hsb⟩ := h'.rowAll (fun r hr => LeafD.len (h2 r hr).2) (by omega)
      have ha1 := h1 _ (List.getElem_mem hi)
      have ha2 := h2 _ (List.getElem_mem him)
      refine c_skip (f_then (c_seq (c_block (c_seq (c_region (wl_p I_ok rfl (wl_nil (f_then (c_seq ?_)))))))))
      refine c_draw rfl 9 [(0, true), (1, true), (2, true), (3, true), (4, true), (5, true), (6, true), (7, true), (8, true)] [] (No) (by kernel_rfl) fun w2 hE2 hs2 => ?_
      have hXd := hX
      have hX := hX.thenNo hE2
      have hC : Ext (No) _ w2 := hE2.no
      refine wd_k I_ok 2 rfl (wd_ix I_ok rfl rfl 33 rfl i rfl (by omega) (off + i * 33) rfl (wd_ldN I_ok rfl rfl (fun w' hw' => ((hsa i hi).extNo (hXd.thenNo hw'))) (LeafD.len ha1.2) ?_))
      refine wd_k I_ok 2 rfl (wd_ix I_ok rfl rfl 33 rfl i rfl (by omega) (off' + i * 33) rfl (wd_ldN I_ok rfl rfl (fun w' hw' => ((hsb i him).extNo (hXd.thenNo hw'))) (LeafD.len ha2.2) ?_))
      refine wd_eqK rfl rfl gLeafD 10 (by decide) kLeafD (leafForm (LeafD.len ha1.2)) (leafForm (LeafD.len ha2.2)) (leafKey ha1.1 ha1.2) (leafKey ha2.1 ha2.2) leaf_eq ?_
      simp only [Bool.false_eq_true, if_false]
      refine wd_sw (wb_nil (f_then (c_if rfl (fun hc => ?_) (fun hc => ?_))))
      · refine c_seq ?_
        refine c_region (wl_p I_ok rfl (wl_nil (f_then (c_ret (f_blockR (f_thenR (f_thenR (f_blockR (f_thenR (f_ret1 rfl rfl ?_))))))))))
        exact ⟨congrArg Value.bool (by symm; rw [decide_eq_false_iff_not]; intro e; subst e; exact hc rfl), hX⟩
      · have hei := Decidable.not_not.1 hc
        refine c_skip (f_blockN (f_then (c_region (wl_p I_ok rfl ?_))))
        rw [IntWalk.i64_in _ (by omega)]
        refine wl_nil ?_
        exact f_round (i + 1) rfl ⟨⟨by omega, fun k hk hlt => (by rcases Nat.lt_or_ge k i with h0 | h0; exact hok k hk h0; (have e : k = i := (by omega)); subst e; exact hei)⟩, hX⟩ (by first | omega | (dsimp only; omega))
    · have hall : l = m := list_ext hlm fun k hk => hok k hk (by omega)
      refine c_exit (f_thenE (f_thenE (f_blockE (f_then (c_seq (c_region (wl_p I_ok rfl (wl_nil (f_then (c_ret (f_ret1 rfl rfl ?_)))))))))))
      exact ⟨congrArg Value.bool (decide_eq_true hall).symm, hX⟩

theorem equalChange_calls (w : World) {p q : Option Addr} {c d : Nat} {l m : (List (ChgD))} (h : Sl w p l.length 3 (l.flatMap ChgD.cells)) (h' : Sl w q m.length 3 (m.flatMap ChgD.cells)) (hl : l.length < 1000000000) (h1 : ∀ r ∈ l, ChgIn r) (h2 : ∀ r ∈ m, ChgIn r) :
    CallsV Tryd.prog 60 [.slice p l.length c, .slice q m.length d] w fun v w' => v = .bool (decide (l = m)) ∧ Ext No w w' := by
  refine calls_enter Tryd.func60 rfl rfl rfl rfl ?_
  have hX := Ext.refl No w
  refine c_seq (c_region (wl_p I_ok rfl (wl_nil (f_then (c_seq (c_seq (c_region (wl_p I_ok rfl (wl_nil (f_then (c_if rfl (fun hc => ?_) (fun hc => ?_))))))))))))
  · refine c_seq ?_
    refine c_region (wl_p I_ok rfl (wl_nil (f_then (c_ret (f_thenR (f_ret1 rfl rfl ?_))))))
    exact ⟨congrArg Value.bool (by symm; rw [decide_eq_false_iff_not]; intro h; rw [h] at hc; exact hc rfl), hX⟩
  · have hlm : l.length = m.length := by omega
    refine c_skip (f_then (c_seq (c_seq (c_region (wl_p I_ok rfl (wl_nil (f_then (c_block ?_))))))))
    refine c_loopK (α := Nat) [0, 1, 12] rfl (fun z => [(13, .int .i64 (z : Int))]) (fun z u => (z ≤ l.length ∧ ∀ k (hk : k < l.length), k < z → l[k] = m[k]'(by omega)) ∧ Ext No w u) (fun z u => l.length - z) (0) rfl ⟨⟨Nat.zero_le _, fun k _ h => absurd h (Nat.not_lt_zero _)⟩, hX⟩ ?_
    rintro i w1 ⟨⟨hi, hok⟩, hX⟩
    refine c_seq (c_region (wl_p I_ok rfl (wl_nil (f_then (c_seq (c_if rfl (fun hc => ?_) (fun hc => ?_)))))))
    · have hi : i < l.length := by omega
      have him : i < m.length := by omega
      obtain ⟨b, off, rfl, hsa⟩ := h.rowAll (fun r _ => r.len) (by omega)
      obtain ⟨b', off', rfl, hsb⟩ := h'.rowAll (fun r _ => r.len) (by omega)
      have ha1 := h1 _ (List.getElem_mem hi)
      have ha2 := h2 _ (List.getElem_mem him)
      refine c_skip (f_then (c_seq (c_block (c_seq (c_region (wl_p I_ok rfl (wl_nil (f_then (c_seq ?_)))))))))
      refine c_draw rfl 9 [(0, true), (1, true), (2, true), (3, true), (4, true), (5, true), (6, true), (7, true), (8, true)] [] (No) (by kernel_rfl) fun w2 hE2 hs2 => ?_
      have hXd := hX
      have hX := hX.thenNo hE2
      have hC : Ext (No) _ w2 := hE2.no
      refine wd_k I_ok 2 rfl (wd_ix I_ok rfl rfl 3 rfl i rfl (by omega) (off + i * 3) rfl (wd_ldN I_ok rfl rfl (fun w' hw' => ((hsa i hi).extNo (hXd.thenNo hw'))) rfl ?_))
      refine wd_k I_ok 2 rfl (wd_ix I_ok rfl rfl 3 rfl i rfl (by omega) (off' + i * 3) rfl (wd_ldN I_ok rfl rfl (fun w' hw' => ((hsb i him).extNo (hXd.thenNo hw'))) rfl ?_))
      refine wd_eqK rfl rfl gChgD 10 (by decide) kChgD (chgForm rfl) (chgForm rfl) (chgKey ha1.1 ha1.2) (chgKey ha2.1 ha2.2) chg_eq ?_
      simp only [Bool.false_eq_true, if_false]
      refine wd_sw (wb_nil (f_then (c_if rfl (fun hc => ?_) (fun hc => ?_))))
      · refine c_seq ?_
        refine c_region (wl_p I_ok rfl (wl_nil (f_then (c_ret (f_blockR (f_thenR (f_thenR (f_blockR (f_thenR (f_ret1 rfl rfl ?_))))))))))
        exact ⟨congrArg Value.bool (by symm; rw [decide_eq_false_iff_not]; intro e; subst e; exact hc rfl), hX⟩
      · have hei := Decidable.not_not.1 hc
        refine c_skip (f_blockN (f_then (c_region (wl_p I_ok rfl ?_))))
        rw [IntWalk.i64_in _ (by omega)]
        refine wl_nil ?_
        exact f_round (i + 1) rfl ⟨⟨by omega, fun k hk hlt => (by rcases Nat.lt_or_ge k i with h0 | h0; exact hok k hk h0; (have e : k = i := (by omega)); subst e; exact hei)⟩, hX⟩ (by first | omega | (dsimp only; omega))
    · have hall : l = m := list_ext hlm fun k hk => hok k hk (by omega)
      refine c_exit (f_thenE (f_thenE (f_blockE (f_then (c_seq (c_region (wl_p I_ok rfl (wl_nil (f_then (c_ret (f_ret1 rfl rfl ?_)))))))))))
      exact ⟨congrArg Value.bool (decide_eq_true hall).symm, hX⟩

theorem equalId_calls (w : World) {p q : Option Addr} {c d : Nat} {l m : (List (List UInt8))} (h : Sl w p l.length 32 (l.flatMap bytesU)) (h' : Sl w q m.length 32 (m.flatMap bytesU)) (hl : l.length < 1000000000) (h1 : ∀ r ∈ l, IdIn r) (h2 : ∀ r ∈ m, IdIn r) :
    CallsV Tryd.prog 59 [.slice p l.length c, .slice q m.length d] w fun v w' => v = .bool (decide (l = m)) ∧ Ext No w w' := by
  refine calls_enter Tryd.func59 rfl rfl rfl rfl ?_
  have hX := Ext.refl No w
  refine c_seq (c_region (wl_p I_ok rfl (wl_nil (f_then (c_seq (c_seq (c_region (wl_p I_ok rfl (wl_nil (f_then (c_if rfl (fun hc => ?_) (fun hc => ?_))))))))))))
  · refine c_seq ?_
    refine c_region (wl_p I_ok rfl (wl_nil (f_then (c_ret (f_thenR (f_ret1 rfl rfl ?_))))))
    exact ⟨congrArg Value.bool (by symm; rw [decide_eq_false_iff_not]; intro h; rw [h] at hc; exact hc rfl), hX⟩
  · have hlm : l.length = m.length := by omega
    refine c_skip (f_then (c_seq (c_seq (c_region (wl_p I_ok rfl (wl_nil (f_then (c_block ?_))))))))
    refine c_loopK (α := Nat) [0, 1, 12] rfl (fun z => [(13, .int .i64 (z : Int))]) (fun z u => (z ≤ l.length ∧ ∀ k (hk : k < l.length), k < z → l[k] = m[k]'(by omega)) ∧ Ext No w u) (fun z u => l.length - z) (0) rfl ⟨⟨Nat.zero_le _, fun k _ h => absurd h (Nat.not_lt_zero _)⟩, hX⟩ ?_
    rintro i w1 ⟨⟨hi, hok⟩, hX⟩
    refine c_seq (c_region (wl_p I_ok rfl (wl_nil (f_then (c_seq (c_if rfl (fun hc => ?_) (fun hc => ?_)))))))
    · have hi : i < l.length := by omega
      have him : i < m.length := by omega
      obtain ⟨b, off, rfl, hsa⟩ := h.rowAll (fun r hr => (h1 r hr).len) (by omega)
      obtain ⟨b', off', rfl, hsb⟩ := h'.rowAll (fun r hr => (h2 r hr).len) (by omega)
      have ha1 := h1 _ (List.getElem_mem hi)
      have ha2 := h2 _ (List.getElem_mem him)
      refine c_skip (f_then (c_seq (c_block (c_seq (c_region (wl_p I_ok rfl (wl_nil (f_then (c_seq ?_)))))))))
      refine c_draw rfl 9 [(0, true), (1, true), (2, true), (3, true), (4, true), (5, true), (6, true), (7, true), (8, true)] [] (No) (by kernel_rfl) fun w2 hE2 hs2 => ?_
      have hXd := hX
      have hX := hX.thenNo hE2
      have hC : Ext (No) _ w2 := hE2.no
      refine wd_k I_ok 2 rfl (wd_ix I_ok rfl rfl 32 rfl i rfl (by omega) (off + i * 32) rfl (wd_ldN I_ok rfl rfl (fun w' hw' => ((hsa i hi).extNo (hXd.thenNo hw'))) (IdIn.len ha1) ?_))
      refine wd_k I_ok 2 rfl (wd_ix I_ok rfl rfl 32 rfl i rfl (by omega) (off' + i * 32) rfl (wd_ldN I_ok rfl rfl (fun w' hw' => ((hsb i him).extNo (hXd.thenNo hw'))) (IdIn.len ha2) ?_))
      refine wd_eqK rfl rfl gId 10 (by decide) kId (idForm ha1) (idForm ha2) (idKey ha1) (idKey ha2) idLits_inj ?_
      simp only [Bool.false_eq_true, if_false]
      refine wd_sw (wb_nil (f_then (c_if rfl (fun hc => ?_) (fun hc => ?_))))
      · refine c_seq ?_
        refine c_region (wl_p I_ok rfl (wl_nil (f_then (c_ret (f_blockR (f_thenR (f_thenR (f_blockR (f_thenR (f_ret1 rfl rfl ?_))))))))))
        exact ⟨congrArg Value.bool (by symm; rw [decide_eq_false_iff_not]; intro e; subst e; exact hc rfl), hX⟩
      · have hei := Decidable.not_not.1 hc
        refine c_skip (f_blockN (f_then (c_region (wl_p I_ok rfl ?_))))
        rw [IntWalk.i64_in _ (by omega)]
        refine wl_nil ?_
        exact f_round (i + 1) rfl ⟨⟨by omega, fun k hk hlt => (by rcases Nat.lt_or_ge k i with h0 | h0; exact hok k hk h0; (have e : k = i := (by omega)); subst e; exact hei)⟩, hX⟩ (by first | omega | (dsimp only; omega))
    · have hall : l = m := list_ext hlm fun k hk => hok k hk (by omega)
      refine c_exit (f_thenE (f_thenE (f_blockE (f_then (c_seq (c_region (wl_p I_ok rfl (wl_nil (f_then (c_ret (f_ret1 rfl rfl ?_)))))))))))
      exact ⟨congrArg Value.bool (decide_eq_true hall).symm, hX⟩

end Go.Proofs.YtjghckniloikgaaDoor
namespace Go.Vc
structure ObjD where
  kind : Int
  text : Str
  leaves : List LeafD
  style : Int
  tree : List UInt8
  base : List UInt8
  parents : List (List UInt8)
  rows : List ChgD
  number : Nat
  author : Nat
  note : Str
  deriving DecidableEq
/-- where an object's lists begin, and how far they reach -/
structure ObjP where
  lp : Option Addr
  lc : Nat
  pp : Option Addr
  pc : Nat
  rp : Option Addr
  rc : Nat
def objC (o : ObjD) (a : ObjP) : List Value :=
  [.int .i64 o.kind, strV o.text, .slice a.lp o.leaves.length a.lc, .int .i64 o.style] ++ (bytesU o.tree ++ (bytesU o.base ++
    [.slice a.pp o.parents.length a.pc, .slice a.rp o.rows.length a.rc, .int .u32 (o.number : Int), .int .u32 (o.author : Int), strV o.note]))
instance (o : ObjD) (a : ObjP) : OneC (objC o a) := by unfold objC; infer_instance
/-- what every object has -/
structure ObjIn (o : ObjD) : Prop where
  tree : o.tree.length = 32
  base : o.base.length = 32
  parents : ∀ r ∈ o.parents, r.length = 32
  leaves : ∀ r ∈ o.leaves, r.path.length ≤ maxLen ∧ r.id.length = 32
  rows : ∀ r ∈ o.rows, r.path.length ≤ maxLen ∧ r.text.length ≤ maxLen
  number : o.number < 2 ^ 32
  author : o.author < 2 ^ 32
theorem objC_len {o : ObjD} {a : ObjP} (h : ObjIn o) : (objC o a).length = 73 := by
  simp only [objC, List.length_append, bytesU_len, h.tree, h.base, List.length_cons, List.length_nil]
/-- an object's lists -/
structure ObjL (w : World) (o : ObjD) (a : ObjP) : Prop where
  leaves : Sl w a.lp o.leaves.length 33 (o.leaves.flatMap LeafD.cells)
  parents : Sl w a.pp o.parents.length 32 (o.parents.flatMap bytesU)
  rows : Sl w a.rp o.rows.length 3 (o.rows.flatMap ChgD.cells)
theorem ObjL.extNo {w w' : World} {o : ObjD} {a : ObjP} (h : ObjL w o a) (hE : Ext No w w') : ObjL w' o a := ⟨h.leaves.extNo hE, h.parents.extNo hE, h.rows.extNo hE⟩
/-- an object's own cells -/
structure ObjAt (w : World) (b off : Nat) (o : ObjD) (a : ObjP) : Prop where
  kind : w.cell? ⟨b, off, none⟩ = some (.int .i64 o.kind)
  text : w.cell? ⟨b, off + 1, none⟩ = some (strV o.text)
  leaves : w.cell? ⟨b, off + 2, none⟩ = some (.slice a.lp o.leaves.length a.lc)
  style : w.cell? ⟨b, off + 3, none⟩ = some (.int .i64 o.style)
  tree : Seg w b (off + 4) (bytesU o.tree)
  base : Seg w b (off + 36) (bytesU o.base)
  parents : w.cell? ⟨b, off + 68, none⟩ = some (.slice a.pp o.parents.length a.pc)
  rows : w.cell? ⟨b, off + 69, none⟩ = some (.slice a.rp o.rows.length a.rc)
  number : w.cell? ⟨b, off + 70, none⟩ = some (.int .u32 (o.number : Int))
  author : w.cell? ⟨b, off + 71, none⟩ = some (.int .u32 (o.author : Int))
  note : w.cell? ⟨b, off + 72, none⟩ = some (strV o.note)
theorem Seg.obj {w : World} {b off : Nat} {o : ObjD} {a : ObjP} (hs : Seg w b off (objC o a)) (h : ObjIn o) : ObjAt w b off o a := by
  unfold objC at hs
  obtain ⟨h1, h2⟩ := Seg.append.1 hs
  obtain ⟨h3, h4⟩ := Seg.append.1 h2
  obtain ⟨h5, h6⟩ := Seg.append.1 h4
  have e1 : off + 4 + (bytesU o.tree).length = off + 36 := by rw [bytesU_len, h.tree]
  have h5 : Seg w b (off + 4 + (bytesU o.tree).length) (bytesU o.base) := h5
  have h6 : Seg w b (off + 4 + (bytesU o.tree).length + (bytesU o.base).length) _ := h6
  rw [e1] at h5 h6
  rw [bytesU_len, h.base] at h6
  exact ⟨h1 0 _ rfl, h1 1 _ rfl, h1 2 _ rfl, h1 3 _ rfl, h3, h5, h6 0 _ rfl, h6 1 _ rfl, h6 2 _ rfl, h6 3 _ rfl, h6 4 _ rfl⟩
theorem ObjAt.extNo {w w' : World} {b off : Nat} {o : ObjD} {a : ObjP} (hs : ObjAt w b off o a) (hE : Ext No w w') : ObjAt w' b off o a := by
  have key : ∀ {k : Nat} {v : Value}, w.cell? ⟨b, k, none⟩ = some v → w'.cell? ⟨b, k, none⟩ = some v := fun {k v} hk => by
    have hS : Seg w b k [v] := fun i u hi => by
      cases i with
      | zero => cases hi; exact hk
      | succ i => cases hi
    exact (hS.extNo hE) 0 v rfl
  exact ⟨key hs.kind, key hs.text, key hs.leaves, key hs.style, hs.tree.extNo hE, hs.base.extNo hE, key hs.parents, key hs.rows, key hs.number, key hs.author, key hs.note⟩
end Go.Vc
namespace Go.Vc
abbrev idZ : List UInt8 := List.replicate 32 0
def objZ : ObjD := ⟨0, [], [], 0, idZ, idZ, [], [], 0, 0, []⟩
theorem objZ_in : ObjIn objZ := ⟨rfl, rfl, fun _ h => absurd h List.not_mem_nil, fun _ h => absurd h List.not_mem_nil, fun _ h => absurd h List.not_mem_nil, by decide, by decide⟩
def StyleIs (o : ObjD) : Prop :=
  o.style = 1 ∧ o.parents.length = 0 ∧ o.base = idZ ∧ o.rows.length = 0 ∧ o.number = 0 ∨
  o.style = 2 ∧ o.parents.length = 1 ∧ o.base = idZ ∧ 0 < o.number ∨
  o.style = 3 ∧ o.parents.length = 2 ∧ o.parents.getD 0 [] ≠ o.parents.getD 1 [] ∧ 0 < o.number
instance (o : ObjD) : Decidable (StyleIs o) := inferInstanceAs (Decidable (_ ∨ _))
def StyleOk (o : ObjD) : Prop := idZ ∉ o.parents ∧ StyleIs o
instance (o : ObjD) : Decidable (StyleOk o) := inferInstanceAs (Decidable (_ ∧ _))
/-- a commit is right by its style -/
def Styled (o : ObjD) : Prop := o.tree ≠ idZ ∧ StyleOk o
instance (o : ObjD) : Decidable (Styled o) := inferInstanceAs (Decidable (_ ∧ _))
/-- nothing of a commit is there -/
def NoCom (o : ObjD) : Prop := o.style = 0 ∧ o.tree = idZ ∧ o.base = idZ ∧ o.parents.length = 0 ∧ o.rows.length = 0 ∧ o.number = 0 ∧ o.author = 0 ∧ o.note = []
instance (o : ObjD) : Decidable (NoCom o) := inferInstanceAs (Decidable (_ ∧ _))
def Leaved (l : List LeafD) : Prop := Rises (l.map LeafD.path) ∧ ∀ x ∈ l, x.id ≠ idZ
instance (l : List LeafD) : Decidable (Leaved l) := inferInstanceAs (Decidable (_ ∧ _))
def BlobOk (o : ObjD) : Prop := o.text.length ≤ 256 ∧ o.leaves.length = 0 ∧ NoCom o
instance (o : ObjD) : Decidable (BlobOk o) := inferInstanceAs (Decidable (_ ∧ _))
def TreeOk (o : ObjD) : Prop := Leaved o.leaves ∧ o.text = [] ∧ NoCom o
instance (o : ObjD) : Decidable (TreeOk o) := inferInstanceAs (Decidable (_ ∧ _))
def ComOk (o : ObjD) : Prop := o.text = [] ∧ o.leaves.length = 0 ∧ o.note.length ≤ 200 ∧ EditOk o.rows ∧ Styled o
instance (o : ObjD) : Decidable (ComOk o) := inferInstanceAs (Decidable (_ ∧ _))
/-- the fields are right -/
def FieldsOk (o : ObjD) : Prop := o.kind = 1 ∧ BlobOk o ∨ o.kind = 2 ∧ TreeOk o ∨ o.kind = 3 ∧ ComOk o
instance (o : ObjD) : Decidable (FieldsOk o) := inferInstanceAs (Decidable (_ ∨ _))
theorem blob_zero {o : ObjD} : BlobOk o ↔ o.text.length ≤ 256 ∧ { o with kind := 0, text := [] } = objZ := by
  obtain ⟨k, t, l, s, tr, ba, p, r, n, a, no⟩ := o
  simp only [BlobOk, NoCom, objZ, ObjD.mk.injEq, List.length_eq_zero_iff, true_and]
theorem tree_zero {o : ObjD} : TreeOk o ↔ Leaved o.leaves ∧ { o with kind := 0, leaves := [] } = objZ := by
  obtain ⟨k, t, l, s, tr, ba, p, r, n, a, no⟩ := o
  simp only [TreeOk, NoCom, objZ, ObjD.mk.injEq, List.length_eq_zero_iff, true_and]

/-! ### Bytes -/
def strB (n : Nat) (s : Str) : List UInt8 := be n s.length ++ s
def isB (b : Bool) : UInt8 := if b then 1 else 0
def leafB (r : LeafD) : List UInt8 := strB 1 r.path ++ r.id
def chgB (r : ChgD) : List UInt8 := strB 1 r.path ++ [isB r.is] ++ strB 2 r.text
def treeB (l : List LeafD) : List UInt8 := be 1 l.length ++ l.flatMap leafB
def comB (o : ObjD) : List UInt8 := be 1 o.style.toNat ++ o.tree ++ be 1 o.parents.length ++ o.parents.flatten ++ o.base ++ be 1 o.rows.length ++ o.rows.flatMap chgB ++ be 4 o.number ++ be 4 o.author ++ strB 1 o.note
def laidB (o : ObjD) : List UInt8 :=
  be 1 o.kind.toNat ++ if o.kind = 1 then strB 2 o.text else if o.kind = 2 then treeB o.leaves else comB o
/-- an object may be -/
def ObjOk (o : ObjD) : Prop := FieldsOk o ∧ (laidB o).length ≤ 800
instance (o : ObjD) : Decidable (ObjOk o) := inferInstanceAs (Decidable (_ ∧ _))
def idOf (o : ObjD) : List UInt8 := sumW (laidB o)
def linksOf (o : ObjD) : List (List UInt8) := if o.kind = 2 then o.leaves.map LeafD.id else if o.kind = 3 then o.tree :: o.parents else []

theorem flat_le {α β : Type} {f : α → List β} {n : Nat} : ∀ {l : List α}, (∀ x ∈ l, (f x).length ≤ n) → (l.flatMap f).length ≤ l.length * n
  | [], _ => by simp
  | x :: r, h => by
    have h1 := h x (by simp)
    have h2 := flat_le (f := f) (n := n) (l := r) fun y hy => h y (by simp [hy])
    rw [List.flatMap_cons, List.length_append, List.length_cons, Nat.succ_mul]
    omega
theorem flatten_len {l : List (List UInt8)} {n : Nat} (h : ∀ x ∈ l, x.length = n) : l.flatten.length = l.length * n := by
  induction l with
  | nil => simp
  | cons x r ih => rw [List.flatten_cons, List.length_append, h x (by simp), ih fun y hy => h y (by simp [hy]), List.length_cons, Nat.succ_mul, Nat.add_comm]
theorem bytesU_flat (l : List (List UInt8)) : l.flatMap bytesU = bytesU l.flatten := by
  induction l with
  | nil => rfl
  | cons x r ih => rw [List.flatMap_cons, ih, List.flatten_cons, bytesU_append]

/-! ### What is taken off bytes -/
structure Ds where
  rest : List UInt8
  bad : Bool
def Ds.off (s : Ds) (n : Nat) : List UInt8 × Ds := if s.bad = true ∨ s.rest.length < n then ([], ⟨s.rest, true⟩) else (s.rest.take n, ⟨s.rest.drop n, false⟩)
def Ds.err (s : Ds) : Int := if s.bad then 7 else 0
def Ds.str (s : Ds) (n : Nat) : Str × Ds := (s.off n).2.off (num (s.off n).1)
/-- an Id: what came of it, zeros behind it -/
def Ds.id (s : Ds) : List UInt8 × Ds := ((s.off 32).1 ++ List.replicate (32 - (s.off 32).1.length) 0, (s.off 32).2)
def Ds.each {α : Type} (f : Ds → α × Ds) : Nat → Ds → List α × Ds
  | 0, s => ([], s)
  | n + 1, s => if s.bad then ([], s) else ((f s).1 :: (Ds.each f n (f s).2).1, (Ds.each f n (f s).2).2)
def Ds.leaf (s : Ds) : LeafD × Ds := (⟨(s.str 1).1, (s.str 1).2.id.1⟩, (s.str 1).2.id.2)
def Ds.chg (s : Ds) : ChgD × Ds :=
  (⟨(s.str 1).1, decide (0 < num ((s.str 1).2.off 1).1), (((s.str 1).2.off 1).2.str 2).1⟩, (((s.str 1).2.off 1).2.str 2).2)
/-- a row of parts, and how many they are -/
def Ds.row {α : Type} (f : Ds → α × Ds) (s : Ds) : List α × Ds := Ds.each f (num (s.off 1).1) (s.off 1).2
def Ds.com (s : Ds) : ObjD × Ds :=
  let a := s.off 1
  let t := a.2.id
  let p := t.2.row Ds.id
  let b := p.2.id
  let r := b.2.row Ds.chg
  let n := r.2.off 4
  let m := n.2.off 4
  let x := m.2.str 1
  (⟨3, [], [], (num a.1 : Nat), t.1, b.1, p.1, r.1, num n.1, num m.1, x.1⟩, x.2)
/-- the object of bytes, and its error -/
def endB (b : List UInt8) (o : ObjD × Ds) : ObjD × Int :=
  if o.2.bad then (objZ, 7) else if ObjOk o.1 ∧ laidB o.1 = b then (o.1, 0) else (objZ, 160)
def decB (b : List UInt8) : ObjD × Int :=
  if b = [] then (objZ, 7)
  else
    let a := (⟨b, false⟩ : Ds).off 1
    if num a.1 = 1 then endB b ({ objZ with kind := 1, text := (a.2.str 2).1 }, (a.2.str 2).2)
    else if num a.1 = 2 then endB b ({ objZ with kind := 2, leaves := (a.2.row Ds.leaf).1 }, (a.2.row Ds.leaf).2)
    else if num a.1 = 3 then endB b a.2.com
    else (objZ, 160)
theorem Ds.off_len (s : Ds) (n : Nat) : (s.off n).1.length ≤ n ∧ (s.off n).2.rest.length ≤ s.rest.length ∧ (s.off n).1.length ≤ s.rest.length := by
  unfold Ds.off
  split <;> simp <;> omega
theorem Ds.id_len (s : Ds) : s.id.1.length = 32 ∧ s.id.2.rest.length ≤ s.rest.length := by
  have := s.off_len 32
  simp only [Ds.id, List.length_append, List.length_replicate]
  omega
theorem Ds.str_len (s : Ds) (n : Nat) : (s.str n).1.length ≤ s.rest.length ∧ (s.str n).2.rest.length ≤ s.rest.length := by
  have h1 := s.off_len n
  have h2 := (s.off n).2.off_len (num (s.off n).1)
  simp only [Ds.str]
  omega
theorem Ds.each_step {α : Type} {f : Ds → α × Ds} {n : Nat} {s : Ds} (h : s.bad = false) : Ds.each f (n + 1) s = ((f s).1 :: (Ds.each f n (f s).2).1, (Ds.each f n (f s).2).2) := by
  rw [Ds.each, h]; rfl
theorem Ds.each_end {α : Type} {f : Ds → α × Ds} {n : Nat} {s : Ds} (h : n = 0 ∨ s.bad = true) : Ds.each f n s = ([], s) := by
  cases n with
  | zero => rfl
  | succ n => rw [Ds.each, if_pos (h.resolve_left (by omega))]
theorem Ds.each_len {α : Type} {f : Ds → α × Ds} : ∀ (n : Nat) (s : Ds), (Ds.each f n s).1.length ≤ n
  | 0, s => by simp [Ds.each]
  | n + 1, s => by
    rw [Ds.each]
    split
    · simp
    · have := Ds.each_len (f := f) n (f s).2
      simp only [List.length_cons]
      omega
end Go.Vc
namespace Go.Proofs.YtjghckniloikgaaDoor
open Go.Vc
/-- all but the lists -/
def Flat (x y : ObjD) : Prop := x.kind = y.kind ∧ x.text = y.text ∧ x.style = y.style ∧ x.tree = y.tree ∧ x.base = y.base ∧ x.number = y.number ∧ x.author = y.author ∧ x.note = y.note
instance (x y : ObjD) : Decidable (Flat x y) := inferInstanceAs (Decidable (_ ∧ _))
theorem same_iff {x y : ObjD} : x = y ↔ Flat x y ∧ x.leaves = y.leaves ∧ x.parents = y.parents ∧ x.rows = y.rows := by
  cases x; cases y
  simp only [Flat, ObjD.mk.injEq]
  constructor
  · rintro ⟨rfl, rfl, rfl, rfl, rfl, rfl, rfl, rfl, rfl, rfl, rfl⟩
    exact ⟨⟨rfl, rfl, rfl, rfl, rfl, rfl, rfl, rfl⟩, rfl, rfl, rfl⟩
  · rintro ⟨⟨rfl, rfl, rfl, rfl, rfl, rfl, rfl, rfl⟩, rfl, rfl, rfl⟩
    exact ⟨rfl, rfl, rfl, rfl, rfl, rfl, rfl, rfl, rfl, rfl, rfl⟩
theorem str_iff {a b : Str} : strU a = strU b ↔ a = b := ⟨fun h => strU_inj h, fun h => h ▸ rfl⟩
/-- lists that a walk can go along -/
structure Short (x : ObjD) : Prop where
  leaves : x.leaves.length < 1000000000
  parents : x.parents.length < 1000000000
  rows : x.rows.length < 1000000000
  leafP : ∀ r ∈ x.leaves, r.path.length < 1000000000
  rowP : ∀ r ∈ x.rows, r.path.length < 1000000000
theorem sameObj_calls (w : World) {x y : ObjD} {a b : ObjP} (hx : ObjIn x) (hy : ObjIn y) (hxl : ObjL w x a) (hyl : ObjL w y b) (hsx : Short x) :
    CallsV Tryd.prog 31 [.agg (objC x a).toArray, .agg (objC y b).toArray] w fun v w' => v = .bool (decide (x = y)) ∧ Ext No w w' := by
  refine calls_enter Tryd.func31 rfl rfl rfl rfl ?_
  have hX := Ext.refl No w
  refine c_seq (c_region (wl (st_al I_ok rfl fun b2 w1 hn2 hb2 hE1 => ?_)))
  have fr2 := Nat.le_trans hX.size hn2
  have hX := hX.thenNo hE1
  have hb2 : Blk w1 b2 33 (objC x a) := hb2
  have oa := hb2.seg.obj hx
  refine wl (st_al I_ok rfl fun b3 w2 hn3 hb3 hE2 => ?_)
  have ne2_3 : b2 ≠ b3 := Nat.ne_of_lt (Nat.lt_of_lt_of_le hb2.lt hn3)
  have fr3 := Nat.le_trans hX.size hn3
  have hb2 := hb2.extNo hE2
  have oa := oa.extNo hE2
  have hX := hX.thenNo hE2
  have hb3 : Blk w2 b3 33 (objC y b) := hb3
  have ob := hb3.seg.obj hy
  refine wl_p I_ok rfl (wl_nil (f_then (c_cutK (α := Bool) [2, 3] rfl (fun z => [(5, .bool z)]) (fun z u => (z = decide (Flat x y)) ∧ Blk u b2 33 (objC x a) ∧ Blk u b3 33 (objC y b) ∧ Ext No w u) ?_ ?_)))
  · refine c_region ?_
    refine wl_p I_ok rfl (wl (st_ld I_ok rfl oa.kind (wl_p I_ok rfl (wl (st_ld I_ok rfl ob.kind (wl_p I_ok rfl (wl_caseD 11 rfl (fun hg => ?_) (fun hg => ?_))))))))
    · have e1 : x.kind = y.kind := by exact hg
      refine wl_pk I_ok 1 rfl (wl (st_ld I_ok rfl oa.text (wl_pk I_ok 1 rfl (wl (st_ld I_ok rfl ob.text (wl_pk I_ok 3 rfl (wl_caseD 18 rfl (fun hg => ?_) (fun hg => ?_))))))))
      · have e2 : x.text = y.text := by exact str_iff.1 hg
        refine wl_pk I_ok 1 rfl (wl (st_ld I_ok rfl oa.style (wl_pk I_ok 1 rfl (wl (st_ld I_ok rfl ob.style (wl_pk I_ok 3 rfl (wl_caseD 25 rfl (fun hg => ?_) (fun hg => ?_))))))))
        · have e3 : x.style = y.style := by exact hg
          refine wl_pk I_ok 1 rfl (wl (st_ldN I_ok rfl oa.tree (IdIn.len hx.tree) (wl_pk I_ok 1 rfl (wl (st_ldN I_ok rfl ob.tree (IdIn.len hy.tree) ?_)))))
          refine wl (st_eqK rfl gId 10 (by decide) kId (idForm hx.tree) (idForm hy.tree) (idKey hx.tree) (idKey hy.tree) idLits_inj ?_)
          simp only [if_true]
          refine wl_p I_ok rfl (wl_caseD 32 rfl (fun hg => ?_) (fun hg => ?_))
          · have e4 : x.tree = y.tree := by exact hg
            refine wl_pk I_ok 1 rfl (wl (st_ldN I_ok rfl oa.base (IdIn.len hx.base) (wl_pk I_ok 1 rfl (wl (st_ldN I_ok rfl ob.base (IdIn.len hy.base) ?_)))))
            refine wl (st_eqK rfl gId 10 (by decide) kId (idForm hx.base) (idForm hy.base) (idKey hx.base) (idKey hy.base) idLits_inj ?_)
            simp only [if_true]
            refine wl_p I_ok rfl (wl_caseD 39 rfl (fun hg => ?_) (fun hg => ?_))
            · have e5 : x.base = y.base := by exact hg
              refine wl_pk I_ok 1 rfl (wl (st_ld I_ok rfl oa.number (wl_pk I_ok 1 rfl (wl (st_ld I_ok rfl ob.number (wl_pk I_ok 3 rfl (wl_caseD 46 rfl (fun hg => ?_) (fun hg => ?_))))))))
              · have e6 : x.number = y.number := by omega
                refine wl_pk I_ok 1 rfl (wl (st_ld I_ok rfl oa.author (wl_pk I_ok 1 rfl (wl (st_ld I_ok rfl ob.author (wl_pk I_ok 3 rfl (wl_caseD 53 rfl (fun hg => ?_) (fun hg => ?_))))))))
                · have e7 : x.author = y.author := by omega
                  refine wl_pk I_ok 1 rfl (wl (st_ld I_ok rfl oa.note (wl_pk I_ok 1 rfl (wl (st_ld I_ok rfl ob.note (wl_pk I_ok 3 rfl (wl_nil ?_)))))))
                  exact f_cut (_) rfl ⟨by rw [decide_eq_decide, str_iff]; exact ⟨fun h => ⟨e1, e2, e3, e4, e5, e6, e7, h⟩, fun h => h.2.2.2.2.2.2.2⟩, hb2, hb3, hX⟩
                · have n7 : ¬ x.author = y.author := fun e => hg (by rw [e])
                  refine wl_pk I_ok 7 rfl (wl_nil ?_)
                  exact f_cut (false) rfl ⟨by symm; rw [decide_eq_false_iff_not]; exact fun h => n7 h.2.2.2.2.2.2.1, hb2, hb3, hX⟩
              · have n6 : ¬ x.number = y.number := fun e => hg (by rw [e])
                refine wl_pk I_ok 14 rfl (wl_nil ?_)
                exact f_cut (false) rfl ⟨by symm; rw [decide_eq_false_iff_not]; exact fun h => n6 h.2.2.2.2.2.1, hb2, hb3, hX⟩
            · have n5 : ¬ x.base = y.base := fun e => hg (by rw [e])
              refine wl_pk I_ok 21 rfl (wl_nil ?_)
              exact f_cut (false) rfl ⟨by symm; rw [decide_eq_false_iff_not]; exact fun h => n5 h.2.2.2.2.1, hb2, hb3, hX⟩
          · have n4 : ¬ x.tree = y.tree := fun e => hg (by rw [e])
            refine wl_pk I_ok 28 rfl (wl_nil ?_)
            exact f_cut (false) rfl ⟨by symm; rw [decide_eq_false_iff_not]; exact fun h => n4 h.2.2.2.1, hb2, hb3, hX⟩
        · have n3 : ¬ x.style = y.style := fun e => hg (by rw [e])
          refine wl_pk I_ok 35 rfl (wl_nil ?_)
          exact f_cut (false) rfl ⟨by symm; rw [decide_eq_false_iff_not]; exact fun h => n3 h.2.2.1, hb2, hb3, hX⟩
      · have n2 : ¬ x.text = y.text := fun e => hg (by rw [e])
        refine wl_pk I_ok 42 rfl (wl_nil ?_)
        exact f_cut (false) rfl ⟨by symm; rw [decide_eq_false_iff_not]; exact fun h => n2 h.2.1, hb2, hb3, hX⟩
    · have n1 : ¬ x.kind = y.kind := fun e => hg (by rw [e])
      refine wl_pk I_ok 49 rfl (wl_nil ?_)
      exact f_cut (false) rfl ⟨by symm; rw [decide_eq_false_iff_not]; exact fun h => n1 h.1, hb2, hb3, hX⟩
  rintro z w3 ⟨hz, hb2, hb3, hX⟩
  have oa := hb2.seg.obj hx
  have ob := hb3.seg.obj hy
  refine c_cutK (α := Bool) [] rfl (fun z => [(4, .bool z)]) (fun z u => (z = decide (x = y)) ∧ Ext No w u) ?_ ?_
  · refine c_region ?_
    refine wl_p I_ok rfl (wl_case 61 rfl (fun hg => ?_) (fun hg => ?_))
    · have hz : Flat x y := by simpa [hg] using hz
      refine wl_pk I_ok 1 rfl (wl (st_ld I_ok rfl oa.leaves (wl_pk I_ok 1 rfl (wl (st_ld I_ok rfl ob.leaves ?_)))))
      refine wl (st_call Tryd.call58 rfl rfl rfl rfl rfl rfl (equalLeaf_calls w3 (hxl.leaves.extNo hX) (hyl.leaves.extNo hX) hsx.leaves hx.leaves hy.leaves) fun v4 w4 hr4 => ?_)
      obtain ⟨rfl, hE4⟩ := hr4
      have hb2 := hb2.extNo hE4
      have hb3 := hb3.extNo hE4
      have oa := oa.extNo hE4
      have ob := ob.extNo hE4
      have hX := hX.thenNo hE4
      refine wl_p I_ok rfl (wl_caseD 68 rfl (fun hg => ?_) (fun hg => ?_))
      · have hl1 := hg
        refine wl_pk I_ok 1 rfl (wl (st_ld I_ok rfl oa.parents (wl_pk I_ok 1 rfl (wl (st_ld I_ok rfl ob.parents ?_)))))
        refine wl (st_call Tryd.call59 rfl rfl rfl rfl rfl rfl (equalId_calls w4 (hxl.parents.extNo hX) (hyl.parents.extNo hX) hsx.parents hx.parents hy.parents) fun v5 w5 hr5 => ?_)
        obtain ⟨rfl, hE5⟩ := hr5
        have hb2 := hb2.extNo hE5
        have hb3 := hb3.extNo hE5
        have oa := oa.extNo hE5
        have ob := ob.extNo hE5
        have hX := hX.thenNo hE5
        refine wl_p I_ok rfl (wl_caseD 75 rfl (fun hg => ?_) (fun hg => ?_))
        · have hl2 := hg
          refine wl_pk I_ok 2 rfl (wl (st_ld I_ok rfl oa.rows (wl_pk I_ok 2 rfl (wl (st_ld I_ok rfl ob.rows ?_)))))
          refine wl (st_call Tryd.call60 rfl rfl rfl rfl rfl rfl (equalChange_calls w5 (hxl.rows.extNo hX) (hyl.rows.extNo hX) hsx.rows hx.rows hy.rows) fun v6 w6 hr6 => ?_)
          obtain ⟨rfl, hE6⟩ := hr6
          have hb2 := hb2.extNo hE6
          have hb3 := hb3.extNo hE6
          have oa := oa.extNo hE6
          have ob := ob.extNo hE6
          have hX := hX.thenNo hE6
          refine wl_p I_ok rfl (wl_nil ?_)
          exact f_cut (_) rfl ⟨by rw [decide_eq_decide]; exact ⟨fun h => same_iff.2 ⟨hz, hl1, hl2, h⟩, fun h => (same_iff.1 h).2.2.2⟩, hX⟩
        · have hl2 := hg
          refine wl_pk I_ok 9 rfl (wl_nil ?_)
          exact f_cut (false) rfl ⟨by symm; rw [decide_eq_false_iff_not]; exact fun h => hl2 (same_iff.1 h).2.2.1, hX⟩
      · have hl1 := hg
        refine wl_pk I_ok 16 rfl (wl_nil ?_)
        exact f_cut (false) rfl ⟨by symm; rw [decide_eq_false_iff_not]; exact fun h => hl1 (same_iff.1 h).2.1, hX⟩
    · have hz : ¬ Flat x y := by simpa [hg] using hz
      refine wl_pk I_ok 23 rfl (wl_nil ?_)
      exact f_cut (false) rfl ⟨by symm; rw [decide_eq_false_iff_not]; exact fun h => hz (same_iff.1 h).1, hX⟩
  rintro z w7 ⟨rfl, hX⟩
  refine c_ret (f_ret1 rfl rfl ?_)
  exact ⟨rfl, hX⟩
theorem objZ_l (w : World) : ObjL w objZ ⟨none, 0, none, 0, none, 0⟩ := ⟨Sl.nil _ _ _, Sl.nil _ _ _, Sl.nil _ _ _⟩
theorem objZ_c : objC objZ ⟨none, 0, none, 0, none, 0⟩ = cellsOf ti33.zero := by kernel_rfl
theorem zeroObj_calls (w : World) {x : ObjD} {a : ObjP} (hx : ObjIn x) (hxl : ObjL w x a) (hsx : Short x) :
    CallsV Tryd.prog 68 [.agg (objC x a).toArray] w fun v w' => v = .bool (decide (x = objZ)) ∧ Ext No w w' := by
  refine calls_enter Tryd.func68 rfl rfl rfl rfl ?_
  have hX := Ext.refl No w
  refine c_seq (c_region (wl (st_al I_ok rfl fun b1 w1 hn1 hb1 hE1 => ?_)))
  have fr1 := Nat.le_trans hX.size hn1
  have hX := hX.thenNo hE1
  have hb1 : Blk w1 b1 33 (objC x a) := hb1
  refine wl_p I_ok rfl (wl_nil (f_then (c_seq (c_region (wl (st_ldB I_ok hb1 rfl (objC_len hx) (wl (st_bd I_ok rfl trivial (l' := objC objZ ⟨none, 0, none, 0, none, 0⟩) objZ_c.symm ?_))))))))
  refine wl (st_call Tryd.call31 rfl rfl rfl rfl rfl rfl (sameObj_calls w1 hx objZ_in (hxl.extNo hX) (objZ_l _) hsx) fun v2 w2 hr2 => ?_)
  obtain ⟨rfl, hE2⟩ := hr2
  have hb1 := hb1.extNo hE2
  have hX := hX.thenNo hE2
  refine wl_p I_ok rfl (wl_nil (f_then (c_ret (f_ret1 rfl rfl ?_))))
  exact ⟨rfl, hX⟩
end Go.Proofs.YtjghckniloikgaaDoor
namespace Go.Proofs.YtjghckniloikgaaDoor
open Go.Vc
theorem idZ_c : bytesU idZ = cellsOf ti26.zero := by kernel_rfl
theorem idZ_in : IdIn idZ := rfl
theorem indexId_calls (w : World) {p : Option Addr} {c : Nat} {l : List (List UInt8)} {x : List UInt8} (h : Sl w p l.length 32 (l.flatMap bytesU)) (hl : l.length < 1000000000) (h1 : ∀ r ∈ l, IdIn r) (hx : IdIn x) :
    CallsV Tryd.prog 113 [.slice p l.length c, .agg (bytesU x).toArray] w fun v w' => ∃ n : Int, v = .int .i64 n ∧ (0 ≤ n ↔ x ∈ l) ∧ Ext No w w' := by
  refine calls_enter Tryd.func113 rfl rfl rfl rfl ?_
  have hX := Ext.refl No w
  refine c_seq (c_region (wl (st_al I_ok rfl fun b3 w1 hn3 hb3 hE1 => ?_)))
  have fr3 := Nat.le_trans hX.size hn3
  have hX := hX.thenNo hE1
  have hb3 : Blk w1 b3 26 (bytesU x) := hb3
  refine wl_p I_ok rfl (wl_nil (f_then (c_seq (c_seq (c_region (wl_p I_ok rfl (wl_nil (f_then (c_block ?_)))))))))
  refine c_loopK (α := Nat) [0, 3, 7] rfl (fun z => [(8, .int .i64 (z : Int))]) (fun z u => (z ≤ l.length ∧ ∀ k (hk : k < l.length), k < z → ¬ x = l[k]) ∧ Blk u b3 26 (bytesU x) ∧ Ext No w u) (fun z u => l.length - z) (0) rfl ⟨⟨Nat.zero_le _, fun k _ h => absurd h (Nat.not_lt_zero _)⟩, hb3, hX⟩ ?_
  rintro i w2 ⟨⟨hi, hno⟩, hb3, hX⟩
  refine c_seq (c_region (wl_p I_ok rfl (wl_nil (f_then (c_seq (c_if rfl (fun hc => ?_) (fun hc => ?_)))))))
  · have hi : i < l.length := by omega
    obtain ⟨b, off, rfl, hseg⟩ := (h.rowAll (fun r hr => (h1 r hr).len) (by omega))
    have ha1 := h1 _ (List.getElem_mem hi)
    refine c_skip (f_then (c_seq (c_block (c_seq (c_region (wl_p I_ok rfl (wl_nil (f_then (c_seq (c_draw rfl 6 [(0, true), (1, true), (2, true), (3, true), (4, true), (5, true)] [] (No) (by kernel_rfl) fun w3 hE3 hs3 => ?_))))))))))
    have hd3 := hb3
    have hXd := hX
    have hb3 := hb3.extNo hE3
    have hX := hX.thenNo hE3
    have hC : Ext (No) _ w3 := hE3.no
    refine wd_ldN I_ok rfl rfl (fun w' hw' => (hd3.extNo hw').seg) hx.len ?_
    refine wd_k I_ok 2 rfl (wd_ix I_ok rfl rfl 32 rfl i rfl (by omega) (off + i * 32) rfl (wd_ldN I_ok rfl rfl (fun w' hw' => ((hseg i hi).extNo (hXd.thenNo hw'))) ha1.len ?_))
    refine wd_eqK rfl rfl gId 10 (by decide) kId (idForm hx) (idForm ha1) (idKey hx) (idKey ha1) idLits_inj ?_
    simp only [if_true]
    refine wd_sw (wb_nil (f_then (c_if rfl (fun hc => ?_) (fun hc => ?_))))
    · refine c_seq ?_
      refine c_region (wl_p I_ok rfl (wl_nil (f_then (c_ret (f_blockR (f_thenR (f_thenR (f_blockR (f_thenR (f_ret1 rfl rfl ?_))))))))))
      exact ⟨_, rfl, ⟨fun _ => hc ▸ List.getElem_mem hi, fun _ => Int.natCast_nonneg _⟩, hX⟩
    · refine c_skip ?_
      refine f_blockN (f_then (c_region (wl_p I_ok rfl ?_)))
      rw [IntWalk.i64_in _ (by omega)]
      refine wl_nil ?_
      exact f_round (i + 1) rfl ⟨⟨by omega, allStep (p := fun y => ¬ x = y) hno hi hc⟩, hb3, hX⟩ (by first | omega | (dsimp only; omega))
  · have hall : ¬ x ∈ l := fun hr => by
      obtain ⟨k, hk, e⟩ := List.mem_iff_getElem.1 hr
      exact hno k hk (by omega) e.symm
    refine c_exit (f_thenE (f_thenE (f_blockE (f_then (c_seq (c_region (wl_p I_ok rfl (wl_nil (f_then (c_ret (f_ret1 rfl rfl ?_)))))))))))
    exact ⟨_, rfl, ⟨fun h => absurd h (by decide), fun h => absurd h hall⟩, hX⟩

theorem containsId_calls (w : World) {p : Option Addr} {c : Nat} {l : List (List UInt8)} {x : List UInt8} (h : Sl w p l.length 32 (l.flatMap bytesU)) (hl : l.length < 1000000000) (h1 : ∀ r ∈ l, IdIn r) (hx : IdIn x) :
    CallsV Tryd.prog 101 [.slice p l.length c, .agg (bytesU x).toArray] w fun v w' => v = .bool (decide (x ∈ l)) ∧ Ext No w w' := by
  refine calls_enter Tryd.func101 rfl rfl rfl rfl ?_
  have hX := Ext.refl No w
  refine c_seq (c_region (wl (st_al I_ok rfl fun b3 w1 hn3 hb3 hE1 => ?_)))
  have fr3 := Nat.le_trans hX.size hn3
  have hX := hX.thenNo hE1
  have hb3 : Blk w1 b3 26 (bytesU x) := hb3
  refine wl_p I_ok rfl (wl_nil (f_then (c_seq (c_region (wl_p I_ok rfl (wl (st_ldB I_ok hb3 rfl hx.len (wl (st_call Tryd.call113 rfl rfl rfl rfl rfl rfl (indexId_calls w1 (h.extNo hX) hl h1 hx) fun v2 w2 hr2 => ?_)))))))))
  obtain ⟨n, rfl, hn1, hE2⟩ := hr2
  have hb3 := hb3.extNo hE2
  have hX := hX.thenNo hE2
  refine wl_p I_ok rfl (wl_nil (f_then (c_ret (f_ret1 rfl rfl ?_))))
  exact ⟨congrArg Value.bool (decide_eq_decide.2 hn1), hX⟩
/-- which style a commit has -/
theorem styled_no {o : ObjD} (h : idZ ∈ o.parents ∨ o.tree = idZ) : ¬ Styled o := fun hs => h.elim hs.2.1 hs.1
theorem styled1 {o : ObjD} (h : ¬ (idZ ∈ o.parents ∨ o.tree = idZ)) (hs : o.style = 1) : Styled o ↔ o.parents.length = 0 ∧ o.base = idZ ∧ o.rows.length = 0 ∧ o.number = 0 := by
  constructor
  · rintro ⟨_, _, h1 | h1 | h1⟩
    · exact h1.2
    · exact absurd (hs.symm.trans h1.1) (by decide)
    · exact absurd (hs.symm.trans h1.1) (by decide)
  · exact fun h1 => ⟨fun e => h (.inr e), fun e => h (.inl e), .inl ⟨hs, h1⟩⟩
theorem styled2 {o : ObjD} (h : ¬ (idZ ∈ o.parents ∨ o.tree = idZ)) (hs : o.style = 2) : Styled o ↔ o.parents.length = 1 ∧ o.base = idZ ∧ 0 < o.number := by
  constructor
  · rintro ⟨_, _, h1 | h1 | h1⟩
    · exact absurd (hs.symm.trans h1.1) (by decide)
    · exact h1.2
    · exact absurd (hs.symm.trans h1.1) (by decide)
  · exact fun h1 => ⟨fun e => h (.inr e), fun e => h (.inl e), .inr (.inl ⟨hs, h1⟩)⟩
theorem styled3 {o : ObjD} (h : ¬ (idZ ∈ o.parents ∨ o.tree = idZ)) (hs : o.style = 3) : Styled o ↔ o.parents.length = 2 ∧ o.parents.getD 0 [] ≠ o.parents.getD 1 [] ∧ 0 < o.number := by
  constructor
  · rintro ⟨_, _, h1 | h1 | h1⟩
    · exact absurd (hs.symm.trans h1.1) (by decide)
    · exact absurd (hs.symm.trans h1.1) (by decide)
    · exact h1.2
  · exact fun h1 => ⟨fun e => h (.inr e), fun e => h (.inl e), .inr (.inr ⟨hs, h1⟩)⟩
theorem styled0 {o : ObjD} (h1 : ¬ o.style = 1) (h2 : ¬ o.style = 2) (h3 : ¬ o.style = 3) : ¬ Styled o := fun h => h.2.2.elim (fun h => h1 h.1) fun h => h.elim (fun h => h2 h.1) fun h => h3 h.1
theorem getD_get {α : Type} {l : List α} {i : Nat} (h : i < l.length) (d : α) : l.getD i d = l[i] := by rw [List.getD_eq_getElem?_getD, List.getElem?_eq_getElem h]; rfl
theorem styledObj_calls (w : World) {x : ObjD} {a : ObjP} (hx : ObjIn x) (hxl : ObjL w x a) (hsx : Short x) :
    CallsV Tryd.prog 71 [.agg (objC x a).toArray] w fun v w' => v = .bool (decide (Styled x)) ∧ Ext No w w' := by
  refine calls_enter Tryd.func71 rfl rfl rfl rfl ?_
  have hX := Ext.refl No w
  refine c_seq (c_region (wl (st_al I_ok rfl fun b1 w1 hn1 hb1 hE1 => ?_)))
  have fr1 := Nat.le_trans hX.size hn1
  have hX := hX.thenNo hE1
  have hb1 : Blk w1 b1 33 (objC x a) := hb1
  have oa := hb1.seg.obj hx
  refine wl_p I_ok rfl (wl_nil (f_then (c_seq (c_cutK (α := Bool) [1] rfl (fun z => [(13, .bool z)]) (fun z u => (z = decide (idZ ∈ x.parents ∨ x.tree = idZ)) ∧ Blk u b1 33 (objC x a) ∧ Ext No w u) ?_ ?_))))
  · refine c_region ?_
    refine wl_p I_ok rfl (wl (st_ld I_ok rfl oa.parents (wl (st_bd I_ok rfl trivial (l' := bytesU idZ) idZ_c.symm ?_))))
    refine wl (st_call Tryd.call101 rfl rfl rfl rfl rfl rfl (containsId_calls w1 (hxl.parents.extNo hX) hsx.parents hx.parents idZ_in) fun v2 w2 hr2 => ?_)
    obtain ⟨rfl, hE2⟩ := hr2
    have hb1 := hb1.extNo hE2
    have oa := oa.extNo hE2
    have hX := hX.thenNo hE2
    refine wl_p I_ok rfl (wl_caseD 8 rfl (fun hg => ?_) (fun hg => ?_))
    · refine wl_pk I_ok 5 rfl ?_
      refine wl_nil ?_
      exact f_cut (true) rfl ⟨by symm; rw [decide_eq_true_eq]; exact .inl hg, hb1, hX⟩
    · refine wl_pk I_ok 1 rfl ?_
      refine wl (st_ldN I_ok rfl oa.tree (IdIn.len hx.tree) (wl (st_bd I_ok rfl trivial (l' := bytesU idZ) idZ_c.symm (wl (st_eqK rfl gId 10 (by decide) kId (idForm hx.tree) (idForm idZ_in) (idKey hx.tree) (idKey idZ_in) idLits_inj ?_)))))
      simp only [if_true]
      refine wl_p I_ok rfl (wl_nil ?_)
      exact f_cut (_) rfl ⟨by rw [decide_eq_decide]; exact ⟨fun h => .inr h, fun h => h.resolve_left hg⟩, hb1, hX⟩
  rintro z w3 ⟨rfl, hb1, hX⟩
  have oa := hb1.seg.obj hx
  refine c_if rfl (fun hc => ?_) (fun hc => ?_)
  · have hno := styled_no hc
    refine c_seq (c_region (wl_p I_ok rfl (wl_nil (f_then (c_ret (f_thenR (f_ret1 rfl rfl ?_)))))))
    exact ⟨congrArg Value.bool (decide_eq_false hno).symm, hX⟩
  · have h0 := hc
    refine c_skip (f_then (c_seq (c_region (wl_p I_ok rfl (wl (st_ld I_ok rfl oa.parents (wl_p I_ok rfl (wl_nil (f_then (c_seq (c_seq (c_region (wl_p I_ok rfl (wl (st_ld I_ok rfl oa.style (wl_nil (f_then (c_block (c_seq (c_region ?_))))))))))))))))))))
    refine wl_p I_ok rfl (wl_nil (f_then (c_if rfl (fun hc => ?_) (fun hc => ?_))))
    · have h1 : x.style = 1 := hc
      refine c_cutK (α := Bool) [] rfl (fun z => [(2, .bool z)]) (fun z u => (z = decide (Styled x)) ∧ Ext No w u) ?_ ?_
      · refine c_region ?_
        refine wl_p I_ok rfl (wl_caseD 23 rfl (fun hg => ?_) (fun hg => ?_))
        · refine wl_pk I_ok 1 rfl ?_
          refine wl (st_ldN I_ok rfl oa.base (IdIn.len hx.base) (wl (st_bd I_ok rfl trivial (l' := bytesU idZ) idZ_c.symm (wl (st_eqK rfl gId 10 (by decide) kId (idForm hx.base) (idForm idZ_in) (idKey hx.base) (idKey idZ_in) idLits_inj ?_)))))
          simp only [if_true]
          refine wl_p I_ok rfl (wl_caseD 29 rfl (fun hg => ?_) (fun hg => ?_))
          · have hb := hg
            refine wl_pk I_ok 2 rfl (wl (st_ld I_ok rfl oa.rows (wl_pk I_ok 4 rfl (wl_caseD 36 rfl (fun hg => ?_) (fun hg => ?_)))))
            · refine wl_pk I_ok 1 rfl ?_
              refine wl (st_ld I_ok rfl oa.number (wl_pk I_ok 3 rfl (wl_nil ?_)))
              exact f_cut (_) rfl ⟨by rw [decide_eq_decide, styled1 h0 h1]; exact ⟨fun h => ⟨by omega, hb, by omega, by omega⟩, fun h => by omega⟩, hX⟩
            · refine wl_pk I_ok 5 rfl ?_
              refine wl_nil ?_
              exact f_cut (false) rfl ⟨by symm; rw [decide_eq_false_iff_not, styled1 h0 h1]; intro h; omega, hX⟩
          · have hb := hg
            refine wl_pk I_ok 12 rfl (wl_nil ?_)
            exact f_cut (false) rfl ⟨by symm; rw [decide_eq_false_iff_not, styled1 h0 h1]; intro h; exact hb h.2.1, hX⟩
        · refine wl_pk I_ok 18 rfl ?_
          refine wl_nil ?_
          exact f_cut (false) rfl ⟨by symm; rw [decide_eq_false_iff_not, styled1 h0 h1]; intro h; omega, hX⟩
      rintro z w4 ⟨rfl, hX⟩
      refine c_ret (f_blockR (f_thenR (f_ret1 rfl rfl ?_)))
      exact ⟨rfl, hX⟩
    · have h1 : ¬ x.style = 1 := hc
      refine c_seq (c_region (wl_p I_ok rfl (wl_nil (f_then (c_if rfl (fun hc => ?_) (fun hc => ?_))))))
      · have h2 : x.style = 2 := hc
        refine c_cutK (α := Bool) [] rfl (fun z => [(2, .bool z)]) (fun z u => (z = decide (Styled x)) ∧ Ext No w u) ?_ ?_
        · refine c_region ?_
          refine wl_p I_ok rfl (wl_caseD 45 rfl (fun hg => ?_) (fun hg => ?_))
          · refine wl_pk I_ok 1 rfl ?_
            refine wl (st_ldN I_ok rfl oa.base (IdIn.len hx.base) (wl (st_bd I_ok rfl trivial (l' := bytesU idZ) idZ_c.symm (wl (st_eqK rfl gId 10 (by decide) kId (idForm hx.base) (idForm idZ_in) (idKey hx.base) (idKey idZ_in) idLits_inj ?_)))))
            simp only [if_true]
            refine wl_p I_ok rfl (wl_caseD 51 rfl (fun hg => ?_) (fun hg => ?_))
            · have hb := hg
              refine wl_pk I_ok 1 rfl (wl (st_ld I_ok rfl oa.number (wl_pk I_ok 3 rfl (wl_nil ?_))))
              exact f_cut (_) rfl ⟨by rw [decide_eq_decide, styled2 h0 h2]; exact ⟨fun h => ⟨by omega, hb, by omega⟩, fun h => by omega⟩, hX⟩
            · have hb := hg
              refine wl_pk I_ok 5 rfl (wl_nil ?_)
              exact f_cut (false) rfl ⟨by symm; rw [decide_eq_false_iff_not, styled2 h0 h2]; intro h; exact hb h.2.1, hX⟩
          · refine wl_pk I_ok 11 rfl ?_
            refine wl_nil ?_
            exact f_cut (false) rfl ⟨by symm; rw [decide_eq_false_iff_not, styled2 h0 h2]; intro h; omega, hX⟩
        rintro z w5 ⟨rfl, hX⟩
        refine c_ret (f_blockR (f_thenR (f_ret1 rfl rfl ?_)))
        exact ⟨rfl, hX⟩
      · have h2 : ¬ x.style = 2 := hc
        refine c_seq (c_region (wl_p I_ok rfl (wl_nil (f_then (c_if rfl (fun hc => ?_) (fun hc => ?_))))))
        · have h3 : x.style = 3 := hc
          refine c_cutK (α := Bool) [] rfl (fun z => [(2, .bool z)]) (fun z u => (z = decide (Styled x)) ∧ Ext No w u) ?_ ?_
          · refine c_draw rfl 19 [(0, true), (1, true), (2, true), (3, true), (4, true), (5, true), (6, true), (7, true), (8, true), (9, true), (10, true), (11, true), (12, true), (13, true), (14, true), (15, true), (16, true), (17, true), (18, true)] [] (No) (by kernel_rfl) fun w6 hE6 hs6 => ?_
            have hd1 := hb1
            have oad := oa
            have hXd := hX
            have hb1 := hb1.extNo hE6
            have oa := oa.extNo hE6
            have hX := hX.thenNo hE6
            have hC : Ext (No) _ w6 := hE6.no
            refine wd_k I_ok 3 rfl (wd_caseD 60 rfl (fun hg => ?_) (fun hg => ?_))
            · have hl2 : x.parents.length = 2 := by omega
              obtain ⟨b, off, hp, hsa⟩ := hxl.parents.rowAll (fun r hr => IdIn.len (hx.parents r hr)) (by omega)
              have ha0 := hx.parents _ (List.getElem_mem (show 0 < x.parents.length by omega))
              have ha1 := hx.parents _ (List.getElem_mem (show 1 < x.parents.length by omega))
              refine wd_k I_ok 1 rfl (wd_ld I_ok rfl rfl (fun w' hw' => (oad.extNo hw').parents) ?_)
              rw [hp]
              refine wd_ix I_ok rfl rfl 32 rfl 0 rfl (by omega) (off + 0 * 32) rfl (wd_ldN I_ok rfl rfl (fun w' hw' => ((hsa 0 (by omega)).extNo (hXd.thenNo hw'))) (IdIn.len ha0) ?_)
              refine wd_k I_ok 1 rfl (wd_ld I_ok rfl rfl (fun w' hw' => (oad.extNo hw').parents) ?_)
              rw [hp]
              refine wd_ix I_ok rfl rfl 32 rfl 1 rfl (by omega) (off + 1 * 32) rfl (wd_ldN I_ok rfl rfl (fun w' hw' => ((hsa 1 (by omega)).extNo (hXd.thenNo hw'))) (IdIn.len ha1) ?_)
              refine wd_eqK rfl rfl gId 10 (by decide) kId (idForm ha0) (idForm ha1) (idKey ha0) (idKey ha1) idLits_inj ?_
              simp only [Bool.false_eq_true, if_false]
              refine wd_k I_ok 2 rfl (wd_caseD 71 rfl (fun hg => ?_) (fun hg => ?_))
              · have hne := hg
                refine wd_k I_ok 1 rfl (wd_ld I_ok rfl rfl (fun w' hw' => (oad.extNo hw').number) ?_)
                refine wd_k I_ok 3 rfl (wd_sw (wb_nil ?_))
                exact f_cut (_) rfl ⟨by rw [decide_eq_decide, styled3 h0 h3, getD_get (by omega), getD_get (by omega)]; exact ⟨fun h => ⟨hl2, hne, by omega⟩, fun h => by omega⟩, hX⟩
              · have hne := hg
                refine wd_k I_ok 5 rfl (wd_sw (wb_nil ?_))
                exact f_cut (false) rfl ⟨by symm; rw [decide_eq_false_iff_not, styled3 h0 h3, getD_get (by omega), getD_get (by omega)]; intro h; exact hne h.2.1, hX⟩
            · refine wd_k I_ok 16 rfl ?_
              refine wd_sw (wb_nil ?_)
              exact f_cut (false) rfl ⟨by symm; rw [decide_eq_false_iff_not, styled3 h0 h3]; intro h; omega, hX⟩
          rintro z w7 ⟨rfl, hX⟩
          refine c_ret (f_blockR (f_thenR (f_ret1 rfl rfl ?_)))
          exact ⟨rfl, hX⟩
        · have h3 : ¬ x.style = 3 := hc
          refine c_skip (f_blockN (f_then (c_seq (c_region (wl_p I_ok rfl (wl_nil (f_then (c_ret (f_ret1 rfl rfl ?_)))))))))
          exact ⟨congrArg Value.bool (decide_eq_false (styled0 h1 h2 h3)).symm, hX⟩
end Go.Proofs.YtjghckniloikgaaDoor
namespace Go.Vc
theorem Own.blkAt {w : World} {p : Option Addr} {n c T sz : Nat} {xs : List Value} (h : Own w p n c T sz xs) {x : Nat} (hx : OwnB p x) : ∃ l, Blk w x T l := by
  rcases h with ⟨hp, _⟩ | ⟨b, l, hp, hb, _⟩
  · rw [hp] at hx; cases hx
  · rw [hp] at hx
    obtain rfl : b = x := by simpa using hx
    exact ⟨l, hb⟩
theorem Own.neTy {w : World} {p : Option Addr} {n c T sz : Nat} {xs : List Value} (h : Own w p n c T sz xs) {x b U : Nat} {m : List Value} (hx : OwnB p x) (hb : Blk w b U m) (hT : T ≠ U) : x ≠ b := by
  obtain ⟨l, hl⟩ := h.blkAt hx
  exact hl.ne hb hT
theorem Own.extTy {w w' : World} {p : Option Addr} {n c T sz : Nat} {xs : List Value} (h : Own w p n c T sz xs) {b U : Nat} {m : List Value} (hE : Ext (One b) w w') (hb : Blk w b U m) (hT : T ≠ U) : Own w' p n c T sz xs :=
  h.ext hE fun _ hx e => h.neTy hx hb hT e
theorem Blk.extOwn {w w' : World} {p : Option Addr} {n c T sz : Nat} {xs : List Value} {b U : Nat} {m : List Value} (hb : Blk w b U m) (h : Own w p n c T sz xs) (hE : Ext (OwnB p) w w') (hT : T ≠ U) : Blk w' b U m :=
  hb.ext hE fun hx => h.neTy hx hb hT rfl
theorem Sl.lt {w : World} {p : Option Addr} {n sz : Nat} {xs : List Value} (h : Sl w p n sz xs) {b off : Nat} (hp : p = some ⟨b, off, none⟩) (hx : xs ≠ []) : b < w.heap.size := by
  obtain ⟨hl, h0 | ⟨b', off', hp', hs⟩⟩ := h
  · subst h0
    rw [Nat.zero_mul] at hl
    exact absurd (List.eq_nil_of_length_eq_zero hl) hx
  · rw [hp] at hp'
    cases hp'
    exact hs.lt hx
/-- a row that lies below, over what was not there -/
theorem Sl.extLt {S : Nat → Prop} {w w' : World} {p : Option Addr} {n sz : Nat} {xs : List Value} (h : Sl w p n sz xs) (hE : Ext S w w') (hS : ∀ x, x < w.heap.size → ¬ S x) : Sl w' p n sz xs := by
  refine ⟨h.1, ?_⟩
  rcases h.2 with h0 | ⟨b, off, hp, hs⟩
  · exact .inl h0
  · refine .inr ⟨b, off, hp, fun i v hi => ?_⟩
    have hlt : b < w.heap.size := hs.lt fun e => by rw [e] at hi; cases hi
    exact hs.ext hE (hS b hlt) i v hi
theorem Seg.one {w : World} {b off : Nat} {v : Value} (h : w.cell? ⟨b, off, none⟩ = some v) : Seg w b off [v] := fun i u hi => by
  cases i with
  | zero => cases hi; exact h
  | succ i => cases hi
instance {α : Type} (l : List α) (f : α → List Value) [∀ x, OneC (f x)] : OneC (l.flatMap f) := ⟨fun u hu => by
  obtain ⟨r, _, hr⟩ := List.mem_flatMap.1 hu
  exact OneC.h u hr⟩
end Go.Vc
namespace Go.Proofs.YtjghckniloikgaaDoor
open Go.Vc
def leafRow (x : LeafD) : RowD := ⟨x.path, []⟩
theorem leafRows_ok {l : List LeafD} : RowsOk (l.map leafRow) ↔ Rises (l.map LeafD.path) := by
  have e : (l.map leafRow).map RowD.path = l.map LeafD.path := by rw [List.map_map]; rfl
  rw [RowsOk, e]
  refine ⟨fun h => h.2, fun h => ⟨fun ⟨r, hr, ht⟩ => ?_, h⟩⟩
  obtain ⟨x, _, rfl⟩ := List.mem_map.1 hr
  exact absurd ht (by simp [leafRow])
def leafRows (l : List LeafD) : List Value := (l.map leafRow).flatMap RowD.cells
theorem leafRows_take (l : List LeafD) {i : Nat} (h : i < l.length) : leafRows (l.take (i + 1)) = leafRows (l.take i) ++ (leafRow l[i]).cells := by
  rw [leafRows, List.take_succ_eq_append_getElem h, List.map_append, List.flatMap_append]
  simp [leafRows]
theorem maxLen_big : 1000000000 ≤ maxLen := by decide
theorem leaved1_calls (w : World) (r : LeafD) (hr : r.cells.length = 33) :
    CallsV Tryd.prog 96 [.agg r.cells.toArray] w fun v w' => v = .bool (decide (r.id = idZ)) ∧ Ext No w w' := by
  have hi : IdIn r.id := by have := hr; simp only [LeafD.cells, List.length_cons, bytesU_len] at this; exact Nat.succ.inj this
  refine calls_enter Tryd.func96 rfl rfl rfl rfl ?_
  have hX := Ext.refl No w
  refine c_seq (c_region (wl (st_al I_ok rfl fun b1 w1 hn1 hb1 hE1 => ?_)))
  have fr1 := Nat.le_trans hX.size hn1
  have hX := hX.thenNo hE1
  have hb1 : Blk w1 b1 76 (r.cells) := hb1
  refine wl_p I_ok rfl (wl_nil (f_then (c_seq (c_region (wl_p I_ok rfl (wl (st_ldN I_ok rfl (by have := hb1.seg.drop 1; exact this) hi.len (wl (st_bd I_ok rfl trivial (l' := bytesU idZ) idZ_c.symm ?_)))))))))
  refine wl (st_eqK rfl gId 10 (by decide) kId (idForm hi) (idForm idZ_in) (idKey hi) (idKey idZ_in) idLits_inj ?_)
  simp only [if_true]
  refine wl_p I_ok rfl (wl_nil (f_then (c_ret (f_ret1 rfl rfl ?_))))
  exact ⟨rfl, hX⟩

theorem leaved_calls (w : World) {p : Option Addr} {c : Nat} {l : List LeafD} (h : Sl w p l.length 33 (l.flatMap LeafD.cells)) (hl : l.length < 1000000000) (h1 : ∀ r ∈ l, LeafIn r) (h2 : ∀ r ∈ l, r.path.length < 1000000000) :
    CallsV Tryd.prog 69 [.slice p l.length c] w fun v w' => v = .bool (decide (Leaved l)) ∧ Ext No w w' := by
  refine calls_enter Tryd.func69 rfl rfl rfl rfl ?_
  have hX := Ext.refl No w
  refine c_seq (c_region (wl_p I_ok rfl (wl_nil (f_then (c_seq (c_region (wl (st_al I_ok rfl fun b3 w1 hn3 hb3 hE1 => ?_))))))))
  have fr3 := Nat.le_trans hX.size hn3
  have hX := hX.thenNo hE1
  have hb3 : Blk w1 b3 58 ([.slice none 0 0]) := hb3
  refine wl_nil (f_then (c_seq (c_seq (c_region (wl_p I_ok rfl (wl_nil (f_then (c_block ?_))))))))
  refine c_loopK (α := Nat × Option Addr × Nat) [0, 3, 6, 7] rfl (fun z => [(8, .int .i64 (z.1 : Int))]) (fun z u => (z.1 ≤ l.length ∧ Own u z.2.1 z.1 z.2.2 78 2 (leafRows (l.take z.1)) ∧ (∀ x, OwnB z.2.1 x → w.heap.size ≤ x)) ∧ Blk u b3 58 ([.slice z.2.1 z.1 z.2.2]) ∧ Ext No w u) (fun z u => l.length - z.1) (0, none, 0) rfl ⟨⟨Nat.zero_le _, Own.nil _ _ _, fun x hx => by cases hx⟩, hb3, hX⟩ ?_
  rintro ⟨i, q, k⟩ w2 ⟨⟨hi, hq, hqn⟩, hb3, hX⟩
  try dsimp only
  dsimp only at hi hq hqn hb3
  refine c_seq (c_region (wl_p I_ok rfl (wl_nil (f_then (c_seq (c_if rfl (fun hc => ?_) (fun hc => ?_)))))))
  · have hi : i < l.length := by omega
    obtain ⟨b, off, rfl, hseg⟩ := h.rowAll (fun r hr => LeafD.len (h1 r hr).2) (by omega)
    have ha1 := h1 _ (List.getElem_mem hi)
    refine c_skip (f_then (c_seq (c_block (c_seq (c_region (wl (st_ix I_ok rfl 33 rfl i rfl (by omega) (off + i * 33) rfl (wl (st_ldN I_ok rfl ((hseg i hi).extNo hX) (LeafD.len ha1.2) (wl (st_al I_ok rfl fun b5 w3 hn5 hb5 hE3 => ?_)))))))))))
    have ne3_5 : b3 ≠ b5 := Nat.ne_of_lt (Nat.lt_of_lt_of_le hb3.lt hn5)
    have fr5 := Nat.le_trans hX.size hn5
    have hb3 := hb3.extNo hE3
    have hq := hq.ext hE3 fun _ _ => id
    have hX := hX.thenNo hE3
    have hb5o := hb5
    refine wl (st_stW (l' := (l[i]).cells) I_ok hb5 rfl rfl (LeafD.len ha1.2) (LeafD.len ha1.2) OneC.h fun w4 hb5 hE4 hs4 => ?_)
    have hb3 := hb3.ext1 hE4 ne3_5
    have hq := hq.extTy hE4 hb5o (by decide)
    have hX := hX.thenNew hE4 fr5
    refine wl_nil (f_then (c_region (wl_p I_ok rfl (wl (st_ldb I_ok hb3 rfl rfl (wl_p I_ok rfl (wl (st_ldb I_ok hb5 rfl rfl (wl (st_bd I_ok rfl ⟨⟨rfl, by decide⟩, trivial⟩ (l' := (leafRow l[i]).cells) rfl ?_))))))))))
    refine wl (st_bs I_ok rfl 2 rfl rfl rfl (by decide) (by decide) ⟨⟨rfl, by decide⟩, trivial⟩ (l' := (leafRow l[i]).cells) rfl fun b17 w5 hn17 hb17 hE5 hs5 => ?_)
    have ne3_17 : b3 ≠ b17 := Nat.ne_of_lt (Nat.lt_of_lt_of_le hb3.lt hn17)
    have ne5_17 : b5 ≠ b17 := Nat.ne_of_lt (Nat.lt_of_lt_of_le hb5.lt hn17)
    have fr17 := Nat.le_trans hX.size hn17
    have hb3 := hb3.extNo hE5
    have hb5 := hb5.extNo hE5
    have hq := hq.ext hE5 fun _ _ => id
    have hX := hX.thenNo hE5
    have hX1 := hX
    refine wl (st_app I_ok rfl 2 32 rfl rfl rfl (by decide) hq (Src.slice (m := 1) ⟨rfl, .inr ⟨b17, 0, rfl, hb17.seg⟩⟩ OneC.h) (by dsimp only [maxLen]; omega) (by dsimp only; omega) fun p6 c6 w6 ho6 hE6 hB6 => ?_)
    have hX := hX1.trans hE6 fun y hy hF => by have := hqn y hF; omega
    have hb3 := hb3.extOwn hq hE6 (by decide)
    have hqn2 : ∀ x, OwnB p6 x → w.heap.size ≤ x := fun x hx => (hB6 x hx).elim (fun h => hqn x h) fun h => Nat.le_trans hX1.size h
    obtain ⟨q2, k2, hq2, hb2, hn2⟩ : ∃ q2 k2, q2 = p6 ∧ k2 = c6 ∧ Own w6 q2 (i + 1) k2 78 2 (leafRows (l.take (i + 1))) := ⟨_, _, rfl, rfl, by rw [leafRows_take _ hi]; exact ho6⟩
    rw [← hq2] at hqn2
    rw [← hq2, ← hb2]
    have hb3o := hb3
    refine wl_p I_ok rfl (wl (st_st I_ok hb3 rfl rfl rfl fun w7 hb3 hE7 hs7 => ?_))
    have hn2 := hn2.extTy hE7 hb3o (by decide)
    have hX := hX.thenNew hE7 fr3
    refine wl_nil (f_blockN (f_then (c_region (wl_p I_ok rfl ?_))))
    rw [IntWalk.i64_in _ (by omega)]
    refine wl_nil ?_
    exact f_round (i + 1, q2, k2) rfl ⟨⟨hi, hn2, hqn2⟩, hb3, hX⟩ (by first | omega | (dsimp only; omega))
  · have h0 : i = l.length := by omega
    subst h0
    rw [List.take_length] at hq
    refine c_exit (f_thenE (f_thenE (f_blockE (f_then (c_cutK (α := Bool) [] rfl (fun z => [(2, .bool z)]) (fun z u => (z = decide (Leaved l)) ∧ Ext No w u) ?_ ?_)))))
    · refine c_region ?_
      refine wl (st_ldB I_ok hb3 rfl rfl ?_)
      rw [show Value.slice q l.length k = .slice q (l.map leafRow).length k from by rw [List.length_map]]
      refine wl (st_call Tryd.call54 rfl rfl rfl rfl rfl rfl (check_calls w2 (c := k) (l := l.map leafRow) (by have := hq.sl; rw [List.length_map]; exact this) (by rw [List.length_map]; exact hl) (fun r hr => by obtain ⟨x, hx, rfl⟩ := List.mem_map.1 hr; exact h2 x hx)) fun v8 w8 hr8 => ?_)
      obtain ⟨rfl, hE8⟩ := hr8
      have hb3 := hb3.extNo hE8
      have hq := hq.ext hE8 fun _ _ => id
      have hX := hX.thenNo hE8
      refine wl_p I_ok rfl (wl_caseD 24 rfl (fun hg => ?_) (fun hg => ?_))
      · have hr := leafRows_ok.1 (show RowsOk (l.map leafRow) from by by_cases h : RowsOk (l.map leafRow); exact h; rw [if_neg h] at hg; exact absurd hg (by decide))
        refine wl_pk I_ok 1 rfl (wl (st_call Tryd.call95 rfl rfl rfl rfl rfl rfl (containsFuncLeaf_calls w8 (fun r hr => LeafD.len (h1 r hr).2) (h.extNo hX) hl (fun r => r.id = idZ) Tryd.call96 fun w r hr => leaved1_calls w r hr) fun v9 w9 hr9 => ?_))
        obtain ⟨rfl, hE9⟩ := hr9
        have hb3 := hb3.extNo hE9
        have hq := hq.ext hE9 fun _ _ => id
        have hX := hX.thenNo hE9
        refine wl_pk I_ok 3 rfl (wl_nil ?_)
        exact f_cut (_) rfl ⟨by rw [← decide_not, decide_eq_decide]; exact ⟨fun h => ⟨hr, fun x hx e => h ⟨x, hx, e⟩⟩, fun h ⟨x, hx, e⟩ => h.2 x hx e⟩, hX⟩
      · have hr : ¬ Rises (l.map LeafD.path) := fun h => hg (if_pos (leafRows_ok.2 h))
        refine wl_pk I_ok 5 rfl (wl_nil ?_)
        exact f_cut (false) rfl ⟨by symm; rw [decide_eq_false_iff_not]; exact fun h => hr h.1, hX⟩
    rintro z w10 ⟨rfl, hX⟩
    refine c_ret (f_ret1 rfl rfl ?_)
    exact ⟨rfl, hX⟩
theorem if_zero {p : Prop} [Decidable p] {n : Int} (hn : n ≠ 0) : (if p then 0 else n) = 0 ↔ p := by
  by_cases h : p
  · simp [h]
  · simp [h, hn]
theorem fields1 {o : ObjD} (h : o.kind = 1) : FieldsOk o ↔ BlobOk o := by
  constructor
  · rintro (h1 | h1 | h1)
    · exact h1.2
    · exact absurd (h.symm.trans h1.1) (by decide)
    · exact absurd (h.symm.trans h1.1) (by decide)
  · exact fun h1 => .inl ⟨h, h1⟩
theorem fields2 {o : ObjD} (h : o.kind = 2) : FieldsOk o ↔ TreeOk o := by
  constructor
  · rintro (h1 | h1 | h1)
    · exact absurd (h.symm.trans h1.1) (by decide)
    · exact h1.2
    · exact absurd (h.symm.trans h1.1) (by decide)
  · exact fun h1 => .inr (.inl ⟨h, h1⟩)
theorem fields3 {o : ObjD} (h : o.kind = 3) : FieldsOk o ↔ ComOk o := by
  constructor
  · rintro (h1 | h1 | h1)
    · exact absurd (h.symm.trans h1.1) (by decide)
    · exact absurd (h.symm.trans h1.1) (by decide)
    · exact h1.2
  · exact fun h1 => .inr (.inr ⟨h, h1⟩)
theorem fields0 {o : ObjD} (h1 : ¬ o.kind = 1) (h2 : ¬ o.kind = 2) (h3 : ¬ o.kind = 3) : ¬ FieldsOk o := fun h => h.elim (fun h => h1 h.1) fun h => h.elim (fun h => h2 h.1) fun h => h3 h.1
theorem fielded_calls (w : World) {x : ObjD} {a : ObjP} (hx : ObjIn x) (hxl : ObjL w x a) (hsx : Short x) :
    CallsV Tryd.prog 35 [.agg (objC x a).toArray] w fun v w' => v = .bool (decide (FieldsOk x)) ∧ Ext No w w' := by
  have hs : (strU x.text).size = x.text.length := rfl
  have hsn : (strU x.note).size = x.note.length := rfl
  have hy1 : ObjIn { x with kind := 0, text := [] } := ⟨hx.tree, hx.base, hx.parents, hx.leaves, hx.rows, hx.number, hx.author⟩
  have hs1 : Short { x with kind := 0, text := [] } := ⟨hsx.leaves, hsx.parents, hsx.rows, hsx.leafP, hsx.rowP⟩
  have hl1 : ObjL w { x with kind := 0, text := [] } a := ⟨hxl.leaves, hxl.parents, hxl.rows⟩
  have hy2 : ObjIn { x with kind := 0, leaves := [] } := ⟨hx.tree, hx.base, hx.parents, fun _ h => absurd h List.not_mem_nil, hx.rows, hx.number, hx.author⟩
  have hs2 : Short { x with kind := 0, leaves := [] } := ⟨(by decide : (0 : Nat) < 1000000000), hsx.parents, hsx.rows, fun _ h => absurd h List.not_mem_nil, hsx.rowP⟩
  have hl2 : ObjL w { x with kind := 0, leaves := [] } ⟨none, 0, a.pp, a.pc, a.rp, a.rc⟩ := ⟨Sl.nil _ _ _, hxl.parents, hxl.rows⟩
  refine calls_enter Tryd.func35 rfl rfl rfl rfl ?_
  have hX := Ext.refl No w
  refine c_seq (c_region (wl (st_al I_ok rfl fun b1 w1 hn1 hb1 hE1 => ?_)))
  have fr1 := Nat.le_trans hX.size hn1
  have hX := hX.thenNo hE1
  have hb1 : Blk w1 b1 33 (objC x a) := hb1
  refine wl_p I_ok rfl (wl_nil (f_then (c_seq (c_region (wl (st_ldB I_ok hb1 rfl (objC_len hx) (wl (st_al I_ok rfl fun b3 w2 hn3 hb3 hE2 => ?_))))))))
  have ne1_3 : b1 ≠ b3 := Nat.ne_of_lt (Nat.lt_of_lt_of_le hb1.lt hn3)
  have fr3 := Nat.le_trans hX.size hn3
  have hb1 := hb1.extNo hE2
  have hX := hX.thenNo hE2
  refine wl (st_stW (l' := objC x a) I_ok hb3 rfl rfl (objC_len hx) (objC_len hx) OneC.h fun w3 hb3 hE3 hs3 => ?_)
  have hb1 := hb1.ext1 hE3 ne1_3
  have hX := hX.thenNew hE3 fr3
  refine wl_nil (f_then (c_seq (c_region (wl_p I_ok rfl (wl (st_st I_ok hb3 rfl rfl rfl fun w4 hb3 hE4 hs4 => ?_))))))
  have hb1 := hb1.ext1 hE4 ne1_3
  have hX := hX.thenNew hE4 fr3
  have hb3 : Blk w4 b3 33 (objC { x with kind := 0 } a) := hb3
  have oa := hb1.seg.obj hx
  refine wl_nil (f_then (c_seq (c_region (wl_p I_ok rfl (wl_nil (f_then (c_cutK (α := Bool) [] rfl (fun z => [(4, .bool z)]) (fun z u => (z = decide (FieldsOk x)) ∧ Ext No w u) ?_ ?_)))))))
  · refine c_seq ?_
    refine c_region (wl_p I_ok rfl (wl (st_ld I_ok rfl oa.kind (wl_nil (f_then (c_block (c_seq (c_region (wl_p I_ok rfl (wl_nil (f_then (c_if rfl (fun hc => ?_) (fun hc => ?_)))))))))))))
    · have h1 : x.kind = 1 := hc
      refine c_seq (c_region (wl_p I_ok rfl (wl (st_st I_ok hb3 rfl rfl rfl fun w5 hb3 hE5 hs5 => ?_))))
      have hb1 := hb1.ext1 hE5 ne1_3
      have oa := (hb1.seg.obj hx)
      have hX := hX.thenNew hE5 fr3
      have hb3 : Blk w5 b3 33 (objC { x with kind := 0, text := [] } a) := hb3
      refine wl_nil (f_then (c_region (wl_p I_ok rfl (wl (st_ld I_ok rfl oa.text (wl_p I_ok rfl (wl_caseD 16 rfl (fun hg => ?_) (fun hg => ?_))))))))
      · refine wl (st_ldB I_ok hb3 rfl (objC_len hy1) ?_)
        refine wl (st_call Tryd.call68 rfl rfl rfl rfl rfl rfl (zeroObj_calls w5 hy1 (hl1.extNo hX) hs1) fun v6 w6 hr6 => ?_)
        obtain ⟨rfl, hE6⟩ := hr6
        have hb1 := hb1.extNo hE6
        have hb3 := hb3.extNo hE6
        have oa := oa.extNo hE6
        have hX := hX.thenNo hE6
        refine wl_p I_ok rfl (wl_nil ?_)
        exact f_blockN (f_cut (_) rfl ⟨by rw [decide_eq_decide, fields1 h1, blob_zero]; exact ⟨fun h => ⟨by omega, h⟩, fun h => h.2⟩, hX⟩)
      · refine wl_pk I_ok 4 rfl ?_
        refine wl_nil ?_
        exact f_blockN (f_cut (false) rfl ⟨by symm; rw [decide_eq_false_iff_not, fields1 h1]; exact fun h => absurd h.1 (by omega), hX⟩)
    · have h1 : ¬ x.kind = 1 := hc
      refine c_seq (c_region (wl_p I_ok rfl (wl_nil (f_then (c_if rfl (fun hc => ?_) (fun hc => ?_))))))
      · have h2 : x.kind = 2 := hc
        refine c_seq (c_region (wl_p I_ok rfl (wl (st_st I_ok hb3 rfl rfl rfl fun w7 hb3 hE7 hs7 => ?_))))
        have hb1 := hb1.ext1 hE7 ne1_3
        have oa := (hb1.seg.obj hx)
        have hX := hX.thenNew hE7 fr3
        have hb3 : Blk w7 b3 33 (objC { x with kind := 0, leaves := [] } ⟨none, 0, a.pp, a.pc, a.rp, a.rc⟩) := hb3
        refine wl_nil (f_then (c_region (wl_p I_ok rfl (wl (st_ld I_ok rfl oa.leaves (wl (st_call Tryd.call69 rfl rfl rfl rfl rfl rfl (leaved_calls w7 (hxl.leaves.extNo hX) hsx.leaves hx.leaves hsx.leafP) fun v8 w8 hr8 => ?_)))))))
        obtain ⟨rfl, hE8⟩ := hr8
        have hb1 := hb1.extNo hE8
        have hb3 := hb3.extNo hE8
        have oa := oa.extNo hE8
        have hX := hX.thenNo hE8
        refine wl_p I_ok rfl (wl_caseD 26 rfl (fun hg => ?_) (fun hg => ?_))
        · have hlv := hg
          refine wl (st_ldB I_ok hb3 rfl (objC_len hy2) (wl (st_call Tryd.call68 rfl rfl rfl rfl rfl rfl (zeroObj_calls w8 hy2 (hl2.extNo hX) hs2) fun v9 w9 hr9 => ?_)))
          obtain ⟨rfl, hE9⟩ := hr9
          have hb1 := hb1.extNo hE9
          have hb3 := hb3.extNo hE9
          have oa := oa.extNo hE9
          have hX := hX.thenNo hE9
          refine wl_p I_ok rfl (wl_nil ?_)
          exact f_blockN (f_cut (_) rfl ⟨by rw [decide_eq_decide, fields2 h2, tree_zero]; exact ⟨fun h => ⟨hlv, h⟩, fun h => h.2⟩, hX⟩)
        · have hlv := hg
          refine wl_pk I_ok 4 rfl (wl_nil ?_)
          exact f_blockN (f_cut (false) rfl ⟨by symm; rw [decide_eq_false_iff_not, fields2 h2]; exact fun h => hlv h.1, hX⟩)
      · have h2 : ¬ x.kind = 2 := hc
        refine c_seq (c_region (wl_p I_ok rfl (wl_nil (f_then (c_if rfl (fun hc => ?_) (fun hc => ?_))))))
        · have h3 : x.kind = 3 := hc
          refine c_region (wl_p I_ok rfl (wl (st_ld I_ok rfl oa.text (wl_p I_ok rfl (wl_caseD 35 rfl (fun hg => ?_) (fun hg => ?_))))))
          · have e1 : x.text = [] := strU_inj (b := []) hg
            refine wl_pk I_ok 1 rfl (wl (st_ld I_ok rfl oa.leaves (wl_pk I_ok 4 rfl (wl_caseD 41 rfl (fun hg => ?_) (fun hg => ?_)))))
            · refine wl_pk I_ok 1 rfl ?_
              refine wl (st_ld I_ok rfl oa.note (wl_pk I_ok 4 rfl (wl_caseD 47 rfl (fun hg => ?_) (fun hg => ?_))))
              · refine wl_pk I_ok 1 rfl ?_
                refine wl (st_ldN I_ok rfl (Seg.one oa.rows) rfl (wl (st_call Tryd.call70 rfl rfl rfl rfl rfl rfl (checkEdit_calls w4 (hxl.rows.extNo hX) hsx.rows hsx.rowP) fun v10 w10 hr10 => ?_)))
                obtain ⟨rfl, hE10⟩ := hr10
                have hb1 := hb1.extNo hE10
                have hb3 := hb3.extNo hE10
                have oa := oa.extNo hE10
                have hX := hX.thenNo hE10
                refine wl_pk I_ok 3 rfl (wl_caseD 53 rfl (fun hg => ?_) (fun hg => ?_))
                · have e6 : EditOk x.rows := (if_zero (by decide)).1 hg
                  refine wl (st_ldB I_ok hb1 rfl (objC_len hx) (wl (st_call Tryd.call71 rfl rfl rfl rfl rfl rfl (styledObj_calls w10 hx (hxl.extNo hX) hsx) fun v11 w11 hr11 => ?_)))
                  obtain ⟨rfl, hE11⟩ := hr11
                  have hb1 := hb1.extNo hE11
                  have hb3 := hb3.extNo hE11
                  have oa := oa.extNo hE11
                  have hX := hX.thenNo hE11
                  refine wl_p I_ok rfl (wl_nil ?_)
                  exact f_blockN (f_cut (_) rfl ⟨by rw [decide_eq_decide, fields3 h3]; exact ⟨fun h => ⟨e1, by omega, by omega, e6, h⟩, fun h => h.2.2.2.2⟩, hX⟩)
                · have e6 : ¬ EditOk x.rows := fun h => hg (if_pos h)
                  refine wl_pk I_ok 4 rfl (wl_nil ?_)
                  exact f_blockN (f_cut (false) rfl ⟨by symm; rw [decide_eq_false_iff_not, fields3 h3]; exact fun h => e6 h.2.2.2.1, hX⟩)
              · refine wl_pk I_ok 10 rfl ?_
                refine wl_nil ?_
                exact f_blockN (f_cut (false) rfl ⟨by symm; rw [decide_eq_false_iff_not, fields3 h3]; exact fun h => absurd h.2.2.1 (by omega), hX⟩)
            · refine wl_pk I_ok 16 rfl ?_
              refine wl_nil ?_
              exact f_blockN (f_cut (false) rfl ⟨by symm; rw [decide_eq_false_iff_not, fields3 h3]; exact fun h => absurd h.2.1 (by omega), hX⟩)
          · have e1 : ¬ x.text = [] := fun e => hg (by rw [e]; rfl)
            refine wl_pk I_ok 22 rfl (wl_nil ?_)
            exact f_blockN (f_cut (false) rfl ⟨by symm; rw [decide_eq_false_iff_not, fields3 h3]; exact fun h => e1 h.1, hX⟩)
        · have h3 : ¬ x.kind = 3 := hc
          refine c_skip ?_
          exact f_blockN (f_cut (false) rfl ⟨(decide_eq_false (fields0 h1 h2 h3)).symm, hX⟩)
  rintro z w12 ⟨rfl, hX⟩
  refine c_seq (c_region (wl_p I_ok rfl (wl_nil (f_then (c_ret (f_ret1 rfl rfl ?_))))))
  exact ⟨rfl, hX⟩
end Go.Proofs.YtjghckniloikgaaDoor
namespace Go.Proofs.YtjghckniloikgaaDoor
open Go.Vc
/-- a writer, and where its bytes lie -/
def Wr (w : World) (b : Nat) (p : Option Addr) (l : List UInt8) : Prop :=
  ∃ c, Blk w b 121 [.slice p l.length c] ∧ Own w p l.length c 5 1 (bytesU l)
abbrev WrF (b : Nat) (p : Option Addr) : Nat → Prop := fun x => x = b ∨ OwnB p x
theorem Wr.lt {w : World} {b : Nat} {p : Option Addr} {l : List UInt8} (h : Wr w b p l) : b < w.heap.size := by obtain ⟨_, hb, _⟩ := h; exact hb.lt
theorem Wr.extNo {w w' : World} {b : Nat} {p : Option Addr} {l : List UInt8} (h : Wr w b p l) (hE : Ext No w w') : Wr w' b p l := by
  obtain ⟨c, hb, ho⟩ := h
  exact ⟨c, hb.extNo hE, ho.ext hE fun _ _ => id⟩
theorem Wr.ext1 {w w' : World} {b : Nat} {p : Option Addr} {l : List UInt8} (h : Wr w b p l) {x T : Nat} {L : List Value} (hE : Ext (One x) w w') (hb : Blk w x T L) (h1 : 121 ≠ T) (h2 : 5 ≠ T) : Wr w' b p l := by
  obtain ⟨c, hw, ho⟩ := h
  exact ⟨c, hw.ext1 hE (hw.ne hb h1), ho.extTy hE hb h2⟩
theorem _root_.Go.Vc.Blk.keepW {w w' : World} {b : Nat} {p : Option Addr} {l : List UInt8} {x T : Nat} {L : List Value} (hb : Blk w x T L) (h : Wr w b p l) (hE : Ext (WrF b p) w w') (h1 : 121 ≠ T) (h2 : 5 ≠ T) : Blk w' x T L := by
  obtain ⟨c, hw, ho⟩ := h
  exact hb.ext hE fun hF => hF.elim (fun e => hw.ne hb h1 e.symm) fun hx => ho.neTy hx hb h2 rfl
theorem _root_.Go.Vc.Ext.thenW {w0 w w' : World} {b : Nat} {p : Option Addr} (hX : Ext No w0 w) (hE : Ext (WrF b p) w w') (h1 : w0.heap.size ≤ b) (h2 : ∀ x, OwnB p x → w0.heap.size ≤ x) : Ext No w0 w' :=
  hX.trans hE fun y hy hF => hF.elim (fun e => by omega) fun h => by have := h2 y h; omega
theorem newW {w0 w : World} {p p' : Option Addr} (hX : Ext No w0 w) (h2 : ∀ x, OwnB p x → w0.heap.size ≤ x) (h3 : ∀ x, OwnB p' x → OwnB p x ∨ w.heap.size ≤ x) : ∀ x, OwnB p' x → w0.heap.size ≤ x :=
  fun x hx => (h3 x hx).elim (fun h => h2 x h) fun h => Nat.le_trans hX.size h
theorem small_calls (w : World) {b : Nat} {p : Option Addr} {l : List UInt8} (h : Wr w b p l) (s : Str) (hl : l.length + s.length < 900000000) :
    CallsV Tryd.prog 66 [.pointer (some ⟨b, 0, none⟩), strV s] w fun v w' => v = .tuple #[] ∧ ∃ p', Wr w' b p' (l ++ strB 1 s) ∧ (∀ x, OwnB p' x → OwnB p x ∨ w.heap.size ≤ x) ∧ Ext (WrF b p) w w' := by
  obtain ⟨c, hwb, hwo⟩ := h
  have hsz : (strU s).size = s.length := rfl
  refine calls_enter Tryd.func66 rfl rfl rfl rfl ?_
  have hX := Ext.refl (WrF b p) w
  refine c_region (wl_p I_ok rfl (wl (st_ld I_ok rfl (hwb.cell rfl) (wl_p I_ok rfl ?_))))
  rw [wrap_byte]
  refine wl (st_bs I_ok rfl 1 rfl rfl rfl (by decide) (by decide) (by simp [partsOk]) (l' := bytesU [UInt8.ofNat s.length]) rfl fun b12 w1 hn12 hb12 hE1 hs1 => ?_)
  have fr12 := Nat.le_trans hX.size hn12
  have hX := hX.thenNo hE1
  have hwb := hwb.extNo hE1
  have hwo := hwo.ext hE1 fun _ _ => id
  have hX0 := hX
  refine wl (st_app I_ok rfl 1 1 rfl rfl rfl (by decide) hwo (Src.slice (m := 1) ⟨rfl, .inr ⟨b12, 0, rfl, hb12.seg⟩⟩ OneC.h) (by dsimp only [maxLen]; omega) (by dsimp only; omega) fun p2 c2 w2 ho2 hE2 hB2 => ?_)
  dsimp only at ho2 hE2 hB2 ⊢
  have hX := hX.trans hE2 fun y hy hF => .inr hF
  have hwb := hwb.extOwn hwo hE2 (show (5 : Nat) ≠ 121 from by decide)
  obtain ⟨q1, k1, e1, e2⟩ : ∃ q1 k1, q1 = p2 ∧ k1 = c2 := ⟨_, _, rfl, rfl⟩
  rw [← e1, ← e2] at ho2
  rw [← e1] at hB2
  rw [← e1, ← e2]
  have ho1 := ho2
  have hn1 := hB2
  have hn1 : ∀ x, OwnB q1 x → OwnB p x ∨ w.heap.size ≤ x := fun x hx => (hn1 x hx).elim .inl fun h => .inr (Nat.le_trans hX0.size h)
  refine wl_p I_ok rfl ?_
  have hX2 := hX
  refine wl (st_app I_ok rfl 1 1 rfl rfl rfl (by decide) ho1 Src.string (by dsimp only [maxLen]; omega) (by dsimp only; omega) fun p3 c3 w3 ho3 hE3 hB3 => ?_)
  dsimp only at ho3 hE3 hB3 ⊢
  have hX := hX.trans hE3 fun y hy hF => (hn1 y hF).elim .inr fun h => absurd hy (by omega)
  have hwb := hwb.extOwn ho1 hE3 (show (5 : Nat) ≠ 121 from by decide)
  have hn2 : ∀ x, OwnB p3 x → OwnB p x ∨ w.heap.size ≤ x := fun x hx => (hB3 x hx).elim (fun h => hn1 x h) fun h => .inr (Nat.le_trans hX2.size h)
  have e3 : l.length + 1 + (strU s).size = (l ++ strB 1 s).length := by simp [strB, be]; omega
  have ho2 : Own w3 p3 (l ++ strB 1 s).length c3 5 1 (bytesU (l ++ strB 1 s)) := by
    have e4 : l ++ strB 1 s = l ++ [UInt8.ofNat s.length] ++ s := by simp [strB, be]
    rw [← e3, e4, bytesU_append, bytesU_append]
    exact ho3
  rw [e3]
  refine wl_p I_ok rfl (wl (st_st I_ok hwb rfl rfl rfl fun w4 hwb2 hE4 hs4 => ?_))
  have ho3 := ho2.extTy hE4 hwb (by decide)
  have hX := hX.trans hE4 fun y hy hF => .inl hF
  refine wl_nil (f_end0 rfl ?_)
  exact ⟨rfl, _, ⟨_, hwb2, ho3⟩, hn2, hX⟩

theorem text_calls (w : World) {b : Nat} {p : Option Addr} {l : List UInt8} (h : Wr w b p l) (s : Str) (hl : l.length < 900000000) (hs : s.length < 65536) :
    CallsV Tryd.prog 65 [.pointer (some ⟨b, 0, none⟩), strV s] w fun v w' => v = .tuple #[] ∧ ∃ p', Wr w' b p' (l ++ strB 2 s) ∧ (∀ x, OwnB p' x → OwnB p x ∨ w.heap.size ≤ x) ∧ Ext (WrF b p) w w' := by
  obtain ⟨c, hwb, hwo⟩ := h
  have hsz : (strU s).size = s.length := rfl
  refine calls_enter Tryd.func65 rfl rfl rfl rfl ?_
  have hX := Ext.refl (WrF b p) w
  refine c_region (wl_p I_ok rfl (wl (st_ld I_ok rfl (hwb.cell rfl) (wl_p I_ok rfl ?_))))
  rw [IntWalk.u16_in _ (by omega)]
  refine wl (st_call Tryd.call94 rfl rfl rfl rfl rfl rfl (put16_calls w hwo.sl (by omega) s.length hs) fun v1 w1 hr1 => ?_)
  obtain ⟨bp, rfl, hnp, hbp, hE1⟩ := hr1
  have hX := hX.thenNo hE1
  have hwb := hwb.extNo hE1
  have hX0 := hX
  have hbl : (bytesU (l ++ be 2 s.length)).length = (l ++ be 2 s.length).length * 1 := by rw [bytesU_len, Nat.mul_one]
  refine wl_p I_ok rfl ?_
  refine wl (st_app I_ok rfl 1 1 rfl rfl rfl (by decide) (Own.blk (n := (l ++ be 2 s.length).length) (c := (l ++ be 2 s.length).length) hbp 1 hbl (Nat.le_refl _) (by rw [List.length_append, be_len]; dsimp only [maxLen]; omega)) Src.string (by rw [List.length_append, be_len]; dsimp only [maxLen]; omega) (by dsimp only; rw [List.length_append, be_len]; omega) fun p2 c2 w2 ho2 hE2 hB2 => ?_)
  dsimp only at ho2 hE2 hB2 ⊢
  have hX := hX.trans hE2 fun y hy hF => by have e : bp = y := congrArg Addr.block (Option.some.inj hF); omega
  have hwbo := hwb
  have hwb := hwb.extOwn (Own.blk (n := 0) (c := (l ++ be 2 s.length).length) hbp 1 hbl (Nat.zero_le _) (by rw [List.length_append, be_len]; dsimp only [maxLen]; omega)) hE2 (show (5 : Nat) ≠ 121 from by decide)
  have hn2 : ∀ x, OwnB p2 x → OwnB p x ∨ w.heap.size ≤ x := fun x hx => (hB2 x hx).elim (fun hF => by have e : bp = x := congrArg Addr.block (Option.some.inj hF); exact .inr (by omega)) fun h => .inr (Nat.le_trans hX0.size h)
  have e3 : (l ++ be 2 s.length).length + (strU s).size = (l ++ strB 2 s).length := by simp only [strB, List.length_append, hsz]; omega
  have ho2 : Own w2 p2 (l ++ strB 2 s).length c2 5 1 (bytesU (l ++ strB 2 s)) := by
    have e4 : bytesU (l ++ strB 2 s) = bytesU (l ++ be 2 s.length) ++ bytesU s := by rw [strB, ← List.append_assoc, bytesU_append]
    have e5 : (bytesU (l ++ be 2 s.length)).take ((l ++ be 2 s.length).length * 1) = bytesU (l ++ be 2 s.length) := List.take_of_length_le (by rw [hbl]; exact Nat.le_refl _)
    rw [← e3, e4]
    rw [e5] at ho2
    exact ho2
  rw [e3]
  refine wl_p I_ok rfl (wl (st_st I_ok hwb rfl rfl rfl fun w3 hwb2 hE3 hs3 => ?_))
  have ho3 := ho2.extTy hE3 hwb (by decide)
  have hX := hX.trans hE3 fun y hy hF => .inl hF
  refine wl_nil (f_end0 rfl ?_)
  exact ⟨rfl, _, ⟨_, hwb2, ho3⟩, hn2, hX⟩
end Go.Proofs.YtjghckniloikgaaDoor
namespace Go.Proofs.YtjghckniloikgaaDoor
open Go.Vc
theorem flatten_take {l : List (List UInt8)} {i : Nat} (h : i < l.length) : (l.take (i + 1)).flatten = (l.take i).flatten ++ l[i] := by
  rw [List.take_succ_eq_append_getElem h, List.flatten_append]
  simp
theorem flatten_in {l : List (List UInt8)} (h : ∀ r ∈ l, IdIn r) (i : Nat) : (l.take i).flatten.length = (l.take i).length * 32 := flatten_len fun x hx => h x (List.mem_of_mem_take hx)
theorem ids_calls (w : World) {b : Nat} {p : Option Addr} {l : List UInt8} (h : Wr w b p l) {q : Option Addr} {d : Nat} {m : List (List UInt8)} (hq : Sl w q m.length 32 (m.flatMap bytesU)) (hm : ∀ r ∈ m, IdIn r) (hl : l.length < 900000000) (hml : m.length < 1000000)
    (hsep : ∀ x off, q = some ⟨x, off, none⟩ → m ≠ [] → ¬ WrF b p x) :
    CallsV Tryd.prog 67 [.pointer (some ⟨b, 0, none⟩), .slice q m.length d] w fun v w' => v = .tuple #[] ∧ ∃ p', Wr w' b p' (l ++ m.flatten) ∧ (∀ x, OwnB p' x → OwnB p x ∨ w.heap.size ≤ x) ∧ Ext (WrF b p) w w' := by
  refine calls_enter Tryd.func67 rfl rfl rfl rfl ?_
  have hX := Ext.refl (WrF b p) w
  refine c_seq (c_region (wl_p I_ok rfl (wl_nil (f_then (c_block ?_)))))
  refine c_loopK (α := Nat × Option Addr) [0, 6, 7] rfl (fun z => [(8, .int .i64 (z.1 : Int))]) (fun z u => (z.1 ≤ m.length ∧ Wr u b z.2 (l ++ (m.take z.1).flatten) ∧ (∀ x, OwnB z.2 x → OwnB p x ∨ w.heap.size ≤ x)) ∧ Ext (WrF b p) w u) (fun z u => m.length - z.1) (0, p) rfl ⟨⟨Nat.zero_le _, by simpa using h, fun _ h => .inl h⟩, hX⟩ ?_
  rintro ⟨i, pp⟩ w1 ⟨⟨hi, hW, hpn⟩, hX⟩
  try dsimp only
  dsimp only at hi hW hpn
  obtain ⟨k, hwb, hwo⟩ := hW
  refine c_seq (c_region (wl_p I_ok rfl (wl_nil (f_then (c_seq (c_if rfl (fun hc => ?_) (fun hc => ?_)))))))
  · have hi : i < m.length := by omega
    have hne : m ≠ [] := fun e => by rw [e] at hi; exact absurd hi (Nat.not_lt_zero _)
    obtain ⟨qb, qoff, rfl, hsq⟩ := hq.rowAll (fun r hr => (hm r hr).len) (by omega)
    have hqs := hsep qb qoff rfl hne
    have ha1 := hm _ (List.getElem_mem hi)
    have hfl := flatten_in hm i
    rw [List.length_take, Nat.min_eq_left (by omega)] at hfl
    refine c_skip (f_then (c_seq (c_block (c_seq (c_region (wl (st_ix I_ok rfl 32 rfl i rfl (by omega) (qoff + i * 32) rfl (wl (st_ldN I_ok rfl ((hsq i hi).ext hX hqs) ha1.len (wl (st_al I_ok rfl fun b5 w2 hn5 hb5 hE2 => ?_)))))))))))
    have fr5 := Nat.le_trans hX.size hn5
    have hwb := hwb.extNo hE2
    have hwo := hwo.ext hE2 fun _ _ => id
    have hX := hX.thenNo hE2
    have hb5o := hb5
    refine wl (st_stW (l' := bytesU m[i]) I_ok hb5 rfl rfl ha1.len (ha1.len) OneC.h fun w3 hb5 hE3 hs3 => ?_)
    have hwb := hwb.ext1 hE3 (hwb.ne hb5o (by decide))
    have hwo := hwo.extTy hE3 hb5o (by decide)
    have hX := hX.thenNew hE3 fr5
    refine wl_nil (f_then (c_draw rfl 9 [(0, true), (1, true), (2, true), (3, true), (4, true), (5, true), (6, false), (7, true), (8, true)] [9] (OwnB pp) (by kernel_rfl) fun w4 hE4 hs4 => ?_))
    have hd5 := hb5
    have hwbd := hwb
    have hwod := hwo
    have hXd := hX
    have hb5 := hb5.extNo hE4
    have hwb := hwb.extNo hE4
    have hwo := hwo.ext hE4 fun _ _ => id
    have hX := hX.thenNo hE4
    have hC : Ext (OwnB pp) _ w4 := hE4.no
    refine wd_k I_ok 4 rfl (wd_ld I_ok rfl rfl (fun w' hw' => ((hwbd.ext (show Ext (OwnB pp) _ w' from hw') fun hx => hwod.neTy hx hwbd (by decide) rfl).cell rfl)) ?_)
    refine wd_sa I_ok rfl rfl 0 32 32 1 rfl ⟨.inr ⟨rfl, rfl⟩, .inr ⟨rfl, rfl⟩, .inr ⟨rfl, rfl⟩, by decide, by decide, by decide⟩ ?_
    rw [slBase_zero, Nat.sub_zero]
    have hX0 := hX
    refine wd_l rfl (st_app I_ok rfl 1 1 rfl rfl rfl (by decide) hwo (Src.slice (m := 32) ⟨ha1.len, .inr ⟨b5, 0, rfl, hb5.seg⟩⟩ OneC.h) (by dsimp only [maxLen]; rw [List.length_append]; omega) (by dsimp only; rw [List.length_append]; omega) fun p5 c5 w5 ho5 hE5 hB5 => ⟨hC.then hE5, ?_⟩)
    have hC := hC.then hE5
    dsimp only at ho5 hE5 hB5 ⊢
    have hX := hX.trans hE5 fun y hy hF => (hpn y hF).elim .inr fun h => absurd hy (by omega)
    have hwb := hwb.extOwn hwo hE5 (show (5 : Nat) ≠ 121 from by decide)
    have hn2 : ∀ x, OwnB p5 x → OwnB p x ∨ w.heap.size ≤ x := fun x hx => (hB5 x hx).elim (fun h => hpn x h) fun h => .inr (Nat.le_trans hX0.size h)
    have e3 : (l ++ (m.take i).flatten).length + 32 = (l ++ (m.take (i + 1)).flatten).length := by rw [flatten_take hi, List.length_append, List.length_append, List.length_append, ha1]; omega
    obtain ⟨q2, k2, e1, e2, ho2⟩ : ∃ q2 k2, q2 = p5 ∧ k2 = c5 ∧ Own w5 q2 (l ++ (m.take (i + 1)).flatten).length k2 5 1 (bytesU (l ++ (m.take (i + 1)).flatten)) := ⟨_, _, rfl, rfl, by
      rw [← e3, flatten_take hi, ← List.append_assoc, bytesU_append]
      exact ho5⟩
    rw [← e1] at hn2
    rw [← e1, ← e2, e3]
    refine wd_k I_ok 2 rfl (wd_sw (wb rfl (st_st I_ok hwb rfl rfl rfl fun w6 hwb2 hE6 hs6 => ?_)))
    have ho3 := ho2.extTy hE6 hwb (by decide)
    have hX := hX.trans hE6 fun y hy hF => .inl hF
    refine wb_nil (f_blockN (f_then (c_region (wl_p I_ok rfl ?_))))
    rw [IntWalk.i64_in _ (by omega)]
    refine wl_nil ?_
    exact f_round (i + 1, q2) rfl ⟨⟨hi, ⟨k2, hwb2, ho3⟩, hn2⟩, hX⟩ (by first | omega | (dsimp only; omega))
  · have h0 : i = m.length := by omega
    subst h0
    rw [List.take_length] at hwb hwo
    refine c_exit (f_thenE (f_thenE (f_blockE (f_end0 rfl ?_))))
    exact ⟨rfl, _, ⟨_, hwb, hwo⟩, hpn, hX⟩
end Go.Proofs.YtjghckniloikgaaDoor
namespace Go.Proofs.YtjghckniloikgaaDoor
open Go.Vc
theorem strB_len (n : Nat) (s : Str) : (strB n s).length = n + s.length := by simp [strB, be_len]
theorem wrap_byteI {x : Int} (h : 0 ≤ x) : IntKind.u8.wrap x = ((UInt8.ofNat x.toNat).toNat : Int) := by
  have := wrap_byte x.toNat
  rw [Int.toNat_of_nonneg h] at this
  exact this
theorem flat_take {α β : Type} {f : α → List β} {l : List α} {i : Nat} (h : i < l.length) : (l.take (i + 1)).flatMap f = (l.take i).flatMap f ++ f l[i] := by
  rw [List.take_succ_eq_append_getElem h, List.flatMap_append]
  simp
theorem rises_at {l : List Str} (h : Rises l) {s : Str} (hs : s ∈ l) : s.length ≤ 48 := by
  obtain ⟨i, hi, rfl⟩ := List.mem_iff_getElem.1 hs
  exact (h.2 i hi).1.2.2
theorem leaved_at {l : List LeafD} (h : Leaved l) : l.length ≤ 32 ∧ ∀ r ∈ l, r.path.length ≤ 48 :=
  ⟨by have := h.1.1; rwa [List.length_map] at this, fun r hr => rises_at h.1 (List.mem_map.2 ⟨r, hr, rfl⟩)⟩
theorem edit_at {l : List ChgD} (h : EditOk l) : l.length ≤ 32 ∧ ∀ r ∈ l, r.path.length ≤ 48 ∧ r.text.length ≤ 256 :=
  ⟨by have := h.2.1; rwa [List.length_map] at this, fun r hr => ⟨rises_at h.2 (List.mem_map.2 ⟨r, hr, rfl⟩), Nat.not_lt.1 fun ht => h.1 ⟨r, hr, .inl ht⟩⟩⟩
theorem styled_at {o : ObjD} (h : Styled o) : o.parents.length ≤ 2 ∧ 0 ≤ o.style := by
  obtain ⟨_, _, h | h | h⟩ := h
  · exact ⟨by omega, by omega⟩
  · exact ⟨by omega, by omega⟩
  · exact ⟨by omega, by omega⟩
theorem kind_at {o : ObjD} (h : FieldsOk o) : 0 ≤ o.kind := by
  rcases h with h | h | h <;> omega
theorem leafB_le {r : LeafD} (h : r.path.length ≤ 48) (hi : r.id.length = 32) : (leafB r).length ≤ 100 := by
  rw [leafB, List.length_append, strB_len]; omega
theorem chgB_le {r : ChgD} (h : r.path.length ≤ 48 ∧ r.text.length ≤ 256) : (chgB r).length ≤ 400 := by
  rw [chgB, List.length_append, List.length_append, strB_len, strB_len]; simp; omega
theorem flat_ne {m : List (List UInt8)} (h : ∀ r ∈ m, IdIn r) (hm : m ≠ []) : m.flatMap bytesU ≠ [] := fun e => by
  have h1 : (m.flatMap bytesU).length = m.length * 32 := flat_len fun r hr => (h r hr).len
  rw [e] at h1
  have : 0 < m.length := List.length_pos_iff.2 hm
  simp at h1
  omega
theorem one_id {r : List UInt8} (h : IdIn r) : putAll (rep 1 (bytesU idZ)) [(0 * (0 + 32), 0 + 32, .agg (bytesU r).toArray)] = bytesU r := by
  simp only [putAll, cellsOf_agg]
  rw [Nat.zero_mul, put_whole (by rw [rep_length, bytesU_len, bytesU_len, h]; rfl)]
theorem laid_calls (w : World) {x : ObjD} {a : ObjP} (hx : ObjIn x) (hxl : ObjL w x a) (hf : FieldsOk x) :
    CallsV Tryd.prog 34 [.agg (objC x a).toArray] w fun v w' => ∃ q k, v = .slice q (laidB x).length k ∧ Own w' q (laidB x).length k 5 1 (bytesU (laidB x)) ∧ (∀ b, OwnB q b → w.heap.size ≤ b) ∧ Ext No w w' := by
  have hk0 := kind_at hf
  refine calls_enter Tryd.func34 rfl rfl rfl rfl ?_
  have hX := Ext.refl No w
  refine c_seq (c_region (wl (st_al I_ok rfl fun b1 w1 hn1 hb1 hE1 => ?_)))
  have fr1 := Nat.le_trans hX.size hn1
  have hX := hX.thenNo hE1
  have hb1 : Blk w1 b1 33 (objC x a) := hb1
  refine wl_p I_ok rfl (wl_nil (f_then (c_seq (c_region (wl_p I_ok rfl (wl (st_ld I_ok rfl (hb1.seg.obj hx).kind (wl_p I_ok rfl ?_))))))))
  rw [wrap_byteI hk0]
  refine wl (st_bs I_ok rfl 1 rfl rfl rfl (by decide) (by decide) (by simp [partsOk]) (l' := bytesU [UInt8.ofNat x.kind.toNat]) rfl fun b12 w2 hn12 hb12 hE2 hs2 => ?_)
  have ne1_12 : b1 ≠ b12 := Nat.ne_of_lt (Nat.lt_of_lt_of_le hb1.lt hn12)
  have fr12 := Nat.le_trans hX.size hn12
  have hb1 := hb1.extNo hE2
  have hX := hX.thenNo hE2
  have fr12 := hn12
  refine wl (st_bd I_ok rfl ⟨⟨rfl, by decide⟩, trivial⟩ (l' := [.slice (some ⟨b12, 0, none⟩) 1 1]) rfl (wl (st_al I_ok rfl fun b14 w3 hn14 hb14 hE3 => ?_)))
  have ne1_14 : b1 ≠ b14 := Nat.ne_of_lt (Nat.lt_of_lt_of_le hb1.lt hn14)
  have ne12_14 : b12 ≠ b14 := Nat.ne_of_lt (Nat.lt_of_lt_of_le hb12.lt hn14)
  have fr14 := Nat.le_trans hX.size hn14
  have hb1 := hb1.extNo hE3
  have hb12 := hb12.extNo hE3
  have hX := hX.thenNo hE3
  have hb14 : Blk w3 b14 121 ([.slice (some ⟨b12, 0, none⟩) (be 1 x.kind.toNat).length 1]) := hb14
  have hwb := hb14
  have hX12 := hX.size
  have hwo : Own w3 (some ⟨b12, 0, none⟩) (be 1 x.kind.toNat).length 1 5 1 (bytesU (be 1 x.kind.toNat)) := Own.blk (n := 1) (c := 1) hb12 1 rfl (Nat.le_refl _) (by decide)
  have hpn : ∀ y, OwnB (some ⟨b12, 0, none⟩) y → w.heap.size ≤ y := fun y hy => by have e : b12 = y := congrArg Addr.block (Option.some.inj hy); omega
  obtain ⟨p, hp⟩ : ∃ p : Option Addr, p = some ⟨b12, 0, none⟩ := ⟨_, rfl⟩
  rw [← hp] at hwb hwo hpn
  refine wl_p I_ok rfl (wl_nil (f_then (c_cutK (α := Option Addr) [3] rfl (fun z => []) (fun z u => (Wr u b14 z (laidB x) ∧ ∀ y, OwnB z y → w.heap.size ≤ y) ∧ Ext No w u) ?_ ?_)))
  · refine c_seq ?_
    refine c_region (wl_p I_ok rfl (wl (st_ld I_ok rfl (hb1.seg.obj hx).kind (wl_nil (f_then (c_block (c_seq (c_region (wl_p I_ok rfl (wl_nil (f_then (c_if rfl (fun hc => ?_) (fun hc => ?_)))))))))))))
    · have h1 : x.kind = 1 := hc
      have hB := (fields1 h1).1 hf
      have hBl := hB.1
      refine c_region (wl_p I_ok rfl (wl (st_ld I_ok rfl (hb1.seg.obj hx).text ?_)))
      have hXo := hX
      refine wl (st_call Tryd.call65 rfl rfl rfl rfl rfl rfl (text_calls w3 ⟨_, hwb, hwo⟩ x.text (by simp only [be_len]; omega) (by omega)) fun v4 w4 hr4 => ?_)
      obtain ⟨rfl, p, hW2, hn2, hE4⟩ := hr4
      have hb1 := hb1.keepW ⟨_, hwb, hwo⟩ hE4 (by decide) (by decide)
      have hX := Ext.thenW hX hE4 fr14 hpn
      have hpn := newW hXo hpn hn2
      obtain ⟨k4, hwb, hwo⟩ := hW2
      refine wl_nil ?_
      exact f_blockN (f_cut (p) rfl ⟨⟨by rw [laidB, if_pos h1]; exact ⟨_, hwb, hwo⟩, hpn⟩, hX⟩)
    · have h1 : ¬ x.kind = 1 := hc
      refine c_seq (c_region (wl_p I_ok rfl (wl_nil (f_then (c_if rfl (fun hc => ?_) (fun hc => ?_))))))
      · have h2 : x.kind = 2 := hc
        have hB := (fields2 h2).1 hf
        obtain ⟨hl32, hp48⟩ := leaved_at hB.1
        refine c_seq (c_draw rfl 13 [(0, true), (1, true), (2, true), (3, true), (4, true), (5, true), (6, true), (7, true), (8, true), (9, false), (10, false), (11, true), (12, true)] [13] (OwnB p) (by kernel_rfl) fun w5 hE5 hs5 => ?_)
        have hd1 := hb1
        have hwbd := hwb
        have hwod := hwo
        have hXd := hX
        have hb1 := hb1.extNo hE5
        have hwb := hwb.extNo hE5
        have hwo := hwo.ext hE5 fun _ _ => id
        have hX := hX.thenNo hE5
        have hC : Ext (OwnB p) _ w5 := hE5.no
        refine wd_k I_ok 4 rfl (wd_ld I_ok rfl rfl (fun w' hw' => ((hwbd.ext (show Ext (OwnB p) _ w' from hw') fun hx' => hwod.neTy hx' hwbd (by decide) rfl).cell rfl)) ?_)
        refine wd_k I_ok 1 rfl (wd_ld I_ok rfl rfl (fun w' hw' => ((hd1.ext (show Ext (OwnB p) _ w' from hw') fun hx' => hwod.neTy hx' hd1 (by decide) rfl).seg.obj hx).leaves) ?_)
        refine wd_k I_ok 2 rfl ?_
        rw [wrap_byte]
        refine wd_l rfl (st_bs I_ok rfl 1 rfl rfl rfl (by decide) (by decide) (by simp [partsOk]) (l' := bytesU [UInt8.ofNat x.leaves.length]) rfl fun b34 w6 hn34 hb34 hE6 hs6 => ⟨hC.thenNo hE6, ?_⟩)
        have ne1_34 : b1 ≠ b34 := Nat.ne_of_lt (Nat.lt_of_lt_of_le hb1.lt hn34)
        have fr34 := Nat.le_trans hX.size hn34
        have hb1 := hb1.extNo hE6
        have hwb := hwb.extNo hE6
        have hwo := hwo.ext hE6 fun _ _ => id
        have hX := hX.thenNo hE6
        have hC := hC.thenNo hE6
        have hX0 := hX
        refine wd_l rfl (st_app I_ok rfl 1 1 rfl rfl rfl (by decide) hwo (Src.slice (m := 1) ⟨rfl, .inr ⟨b34, 0, rfl, hb34.seg⟩⟩ OneC.h) (by dsimp only [maxLen]; simp only [be_len]; omega) (by dsimp only; simp only [be_len]; omega) fun p7 c7 w7 ho7 hE7 hB7 => ⟨hC.then hE7, ?_⟩)
        have hC := hC.then hE7
        dsimp only at ho7 hE7 hB7 ⊢
        have hb1 := hb1.extOwn hwo hE7 (show (5 : Nat) ≠ 33 from by decide)
        have hX := hX.trans hE7 fun y hy hF => by have := hpn y hF; omega
        have hwb := hwb.extOwn hwo hE7 (show (5 : Nat) ≠ 121 from by decide)
        have hn2 := newW hX0 hpn hB7
        have e3 : (be 1 x.kind.toNat).length + 1 = (be 1 x.kind.toNat ++ be 1 x.leaves.length).length := by simp only [List.length_append, be_len]
        obtain ⟨p, k, e1, e2, hwo2⟩ : ∃ p k, p = p7 ∧ k = c7 ∧ Own w7 p (be 1 x.kind.toNat ++ be 1 x.leaves.length).length k 5 1 (bytesU (be 1 x.kind.toNat ++ be 1 x.leaves.length)) := ⟨_, _, rfl, rfl, by
          rw [← e3, bytesU_append (be 1 x.kind.toNat)]
          exact ho7⟩
        rw [← e1] at hn2
        have hpn := hn2
        rw [← e1, ← e2, e3]
        refine wd_k I_ok 2 rfl (wd_sw (wb rfl (st_st I_ok hwb rfl rfl rfl fun w8 hwb2 hE8 hs8 => ?_)))
        have hwo := hwo2.extTy hE8 hwb (by decide)
        have hb1 := hb1.ext1 hE8 (hb1.ne hwb (by decide))
        have hX := hX.trans hE8 fun y hy hF => by have hF : y = b14 := hF; omega
        have hwb := hwb2
        refine wb_nil (f_then (c_seq (c_region (wl_p I_ok rfl (wl (st_ld I_ok rfl (hb1.seg.obj hx).leaves (wl_p I_ok rfl (wl_nil (f_then (c_block ?_))))))))))
        refine c_loopK (α := Nat × Option Addr) [3, 39, 40] rfl (fun z => [(41, .int .i64 (z.1 : Int))]) (fun z u => (z.1 ≤ x.leaves.length ∧ Wr u b14 z.2 (be 1 x.kind.toNat ++ be 1 x.leaves.length ++ (x.leaves.take z.1).flatMap leafB) ∧ ∀ y, OwnB z.2 y → w.heap.size ≤ y) ∧ Ext No w u) (fun z u => x.leaves.length - z.1) (0, p) rfl ⟨⟨Nat.zero_le _, ⟨_, by simpa using hwb, by simpa using hwo⟩, hpn⟩, hX⟩ ?_
        rintro ⟨i, p⟩ w9 ⟨⟨hi, ⟨k, hwb, hwo⟩, hpn⟩, hX⟩
        try dsimp only
        dsimp only at hi hwb hwo hpn
        refine c_seq (c_region (wl_p I_ok rfl (wl_nil (f_then (c_seq (c_if rfl (fun hc => ?_) (fun hc => ?_)))))))
        · have hi : i < x.leaves.length := by omega
          obtain ⟨qb, qoff, hp, hsq⟩ := hxl.leaves.rowAll (fun r hr => LeafD.len (hx.leaves r hr).2) (by omega)
          rw [hp]
          have ha1 := hx.leaves _ (List.getElem_mem hi)
          have ha2 := hp48 _ (List.getElem_mem hi)
          have hfl : ((x.leaves.take i).flatMap leafB).length ≤ (x.leaves.take i).length * 100 := flat_le fun r hr => leafB_le (hp48 r (List.mem_of_mem_take hr)) (hx.leaves r (List.mem_of_mem_take hr)).2
          rw [List.length_take, Nat.min_eq_left (by omega)] at hfl
          refine c_skip (f_then (c_seq (c_block (c_seq (c_region (wl (st_ix I_ok rfl 33 rfl i rfl (by omega) (qoff + i * 33) rfl (wl (st_ldN I_ok rfl ((hsq i hi).extNo hX) (LeafD.len ha1.2) (wl (st_al I_ok rfl fun b5 w10 hn5 hb5 hE10 => ?_)))))))))))
          have fr5 := Nat.le_trans hX.size hn5
          have hwb := hwb.extNo hE10
          have hwo := hwo.ext hE10 fun _ _ => id
          have hX := hX.thenNo hE10
          have hb5o := hb5
          refine wl (st_stW (l' := (x.leaves[i]).cells) I_ok hb5 rfl rfl (LeafD.len ha1.2) (LeafD.len ha1.2) OneC.h fun w11 hb5 hE11 hs11 => ?_)
          have hwb := hwb.ext1 hE11 (hwb.ne hb5o (by decide))
          have hwo := hwo.extTy hE11 hb5o (by decide)
          have hX := hX.thenNew hE11 fr5
          refine wl_nil (f_then (c_seq (c_region (wl_p I_ok rfl (wl (st_ldb I_ok hb5 rfl rfl ?_))))))
          have hXo := hX
          refine wl (st_call Tryd.call66 rfl rfl rfl rfl rfl rfl (small_calls w11 ⟨_, hwb, hwo⟩ (x.leaves[i]).path (by simp only [List.length_append, be_len]; omega)) fun v12 w12 hr12 => ?_)
          obtain ⟨rfl, p, hW2, hn2, hE12⟩ := hr12
          have hb5 := hb5.keepW ⟨_, hwb, hwo⟩ hE12 (by decide) (by decide)
          have hX := Ext.thenW hX hE12 fr14 hpn
          have hpn := newW hXo hpn hn2
          obtain ⟨k12, hwb, hwo⟩ := hW2
          refine wl_nil (f_then (c_region (wl_p I_ok rfl (wl (st_ldN I_ok rfl (by have := hb5.seg.drop 1; exact this) (IdIn.len ha1.2) ?_)))))
          have ha5 : IdIn (x.leaves[i]).id := ha1.2
          refine wl (st_bs I_ok rfl 32 rfl idZ_c.symm (by rw [bytesU_len]; rfl) (by decide) (by decide) ⟨⟨by rw [cellsOf_agg]; exact (IdIn.len ha1.2), by decide⟩, trivial⟩ (l' := bytesU (x.leaves[i]).id) (one_id ha1.2) fun b52 w13 hn52 hb52 hE13 hs13 => ?_)
          have ne5_52 : b5 ≠ b52 := Nat.ne_of_lt (Nat.lt_of_lt_of_le hb5.lt hn52)
          have fr52 := Nat.le_trans hX.size hn52
          have hb5 := hb5.extNo hE13
          have hwb := hwb.extNo hE13
          have hwo := hwo.ext hE13 fun _ _ => id
          have hX := hX.thenNo hE13
          have hXo := hX
          refine wl (st_call Tryd.call67 rfl rfl rfl rfl rfl rfl (ids_calls w13 ⟨_, hwb, hwo⟩ (q := some ⟨b52, 0, none⟩) (m := [(x.leaves[i]).id]) ⟨by simp only [List.flatMap_cons, List.flatMap_nil, List.append_nil]; exact ha5.len, .inr ⟨b52, 0, rfl, by simpa using hb52.seg⟩⟩ (fun r hr => by rw [List.mem_singleton.1 hr]; exact ha5) (by simp only [List.length_append, be_len, strB_len]; omega) (by simp only [List.length_cons, List.length_nil]; omega) (fun y off e _ hF => by cases e; exact hF.elim (fun e => hwb.ne hb52 (by decide) e.symm) fun h => hwo.neTy h hb52 (by decide) rfl)) fun v14 w14 hr14 => ?_)
          obtain ⟨rfl, p, hW2, hn2, hE14⟩ := hr14
          have hb5 := hb5.keepW ⟨_, hwb, hwo⟩ hE14 (by decide) (by decide)
          have hb52 := hb52.keepW ⟨_, hwb, hwo⟩ hE14 (by decide) (by decide)
          have hX := Ext.thenW hX hE14 fr14 hpn
          have hpn := newW hXo hpn hn2
          obtain ⟨k14, hwb, hwo⟩ := hW2
          refine wl_nil (f_blockN (f_then (c_region (wl_p I_ok rfl ?_))))
          rw [IntWalk.i64_in _ (by omega)]
          refine wl_nil ?_
          exact f_round (i + 1, p) rfl ⟨⟨hi, by have e : be 1 x.kind.toNat ++ be 1 x.leaves.length ++ (x.leaves.take (i + 1)).flatMap leafB = be 1 x.kind.toNat ++ be 1 x.leaves.length ++ (x.leaves.take i).flatMap leafB ++ strB 1 (x.leaves[i]).path ++ [(x.leaves[i]).id].flatten := (by rw [flat_take hi, leafB]; simp); rw [e]; exact ⟨_, hwb, hwo⟩, hpn⟩, hX⟩ (by first | omega | (dsimp only; omega))
        · have h0 : i = x.leaves.length := by omega
          subst h0
          rw [List.take_length] at hwb hwo
          refine c_exit ?_
          exact f_thenE (f_thenE (f_blockE (f_blockN (f_cut (p) rfl ⟨⟨by have e : laidB x = be 1 x.kind.toNat ++ be 1 x.leaves.length ++ x.leaves.flatMap leafB := (by rw [laidB, if_neg h1, if_pos h2, treeB, List.append_assoc]); rw [e]; exact ⟨_, hwb, hwo⟩, hpn⟩, hX⟩))))
      · have h2 : ¬ x.kind = 2 := hc
        refine c_seq (c_region (wl_p I_ok rfl (wl_nil (f_then (c_if rfl (fun hc => ?_) (fun hc => ?_))))))
        · have h3 : x.kind = 3 := hc
          have hB := (fields3 h3).1 hf
          obtain ⟨hl32, hp48⟩ := edit_at hB.2.2.2.1
          obtain ⟨hpl, hst⟩ := styled_at hB.2.2.2.2
          have hnl := hB.2.2.1
          have htr := hx.tree
          have hba := hx.base
          have hpf := flatten_len (n := 32) hx.parents
          refine c_seq (c_draw rfl 12 [(0, true), (1, true), (2, true), (3, true), (4, true), (5, true), (6, true), (7, true), (8, false), (9, false), (10, true), (11, true)] [12] (OwnB p) (by kernel_rfl) fun w15 hE15 hs15 => ?_)
          have hd1 := hb1
          have hwbd := hwb
          have hwod := hwo
          have hXd := hX
          have hb1 := hb1.extNo hE15
          have hwb := hwb.extNo hE15
          have hwo := hwo.ext hE15 fun _ _ => id
          have hX := hX.thenNo hE15
          have hC : Ext (OwnB p) _ w15 := hE15.no
          refine wd_k I_ok 4 rfl (wd_ld I_ok rfl rfl (fun w' hw' => ((hwbd.ext (show Ext (OwnB p) _ w' from hw') fun hx' => hwod.neTy hx' hwbd (by decide) rfl).cell rfl)) ?_)
          refine wd_k I_ok 1 rfl (wd_ld I_ok rfl rfl (fun w' hw' => ((hd1.ext (show Ext (OwnB p) _ w' from hw') fun hx' => hwod.neTy hx' hd1 (by decide) rfl).seg.obj hx).style) ?_)
          refine wd_k I_ok 1 rfl ?_
          rw [wrap_byteI hst]
          refine wd_l rfl (st_bs I_ok rfl 1 rfl rfl rfl (by decide) (by decide) (by simp [partsOk]) (l' := bytesU [UInt8.ofNat x.style.toNat]) rfl fun b65 w16 hn65 hb65 hE16 hs16 => ⟨hC.thenNo hE16, ?_⟩)
          have ne1_65 : b1 ≠ b65 := Nat.ne_of_lt (Nat.lt_of_lt_of_le hb1.lt hn65)
          have fr65 := Nat.le_trans hX.size hn65
          have hb1 := hb1.extNo hE16
          have hwb := hwb.extNo hE16
          have hwo := hwo.ext hE16 fun _ _ => id
          have hX := hX.thenNo hE16
          have hC := hC.thenNo hE16
          have hX0 := hX
          refine wd_l rfl (st_app I_ok rfl 1 1 rfl rfl rfl (by decide) hwo (Src.slice (m := 1) ⟨rfl, .inr ⟨b65, 0, rfl, hb65.seg⟩⟩ OneC.h) (by dsimp only [maxLen]; simp only [be_len]; omega) (by dsimp only; simp only [be_len]; omega) fun p17 c17 w17 ho17 hE17 hB17 => ⟨hC.then hE17, ?_⟩)
          have hC := hC.then hE17
          dsimp only at ho17 hE17 hB17 ⊢
          have hb1 := hb1.extOwn hwo hE17 (show (5 : Nat) ≠ 33 from by decide)
          have hX := hX.trans hE17 fun y hy hF => by have := hpn y hF; omega
          have hwb := hwb.extOwn hwo hE17 (show (5 : Nat) ≠ 121 from by decide)
          have hn2 := newW hX0 hpn hB17
          have e3 : (be 1 x.kind.toNat).length + 1 = (be 1 x.kind.toNat ++ be 1 x.style.toNat).length := by simp only [List.length_append, be_len]
          obtain ⟨p, k, e1, e2, hwo2⟩ : ∃ p k, p = p17 ∧ k = c17 ∧ Own w17 p (be 1 x.kind.toNat ++ be 1 x.style.toNat).length k 5 1 (bytesU (be 1 x.kind.toNat ++ be 1 x.style.toNat)) := ⟨_, _, rfl, rfl, by
            rw [← e3, bytesU_append (be 1 x.kind.toNat)]
            exact ho17⟩
          rw [← e1] at hn2
          have hpn := hn2
          rw [← e1, ← e2, e3]
          refine wd_k I_ok 2 rfl (wd_sw (wb rfl (st_st I_ok hwb rfl rfl rfl fun w18 hwb2 hE18 hs18 => ?_)))
          have hwo := hwo2.extTy hE18 hwb (by decide)
          have hb1 := hb1.ext1 hE18 (hb1.ne hwb (by decide))
          have hX := hX.trans hE18 fun y hy hF => by have hF : y = b14 := hF; omega
          have hwb := hwb2
          refine wb_nil (f_then (c_seq (c_region (wl_p I_ok rfl (wl (st_ldN I_ok rfl (hb1.seg.obj hx).tree (IdIn.len hx.tree) ?_))))))
          have ha5 : IdIn x.tree := hx.tree
          refine wl (st_bs I_ok rfl 32 rfl idZ_c.symm (by rw [bytesU_len]; rfl) (by decide) (by decide) ⟨⟨by rw [cellsOf_agg]; exact (IdIn.len hx.tree), by decide⟩, trivial⟩ (l' := bytesU x.tree) (one_id hx.tree) fun b72 w19 hn72 hb72 hE19 hs19 => ?_)
          have ne1_72 : b1 ≠ b72 := Nat.ne_of_lt (Nat.lt_of_lt_of_le hb1.lt hn72)
          have fr72 := Nat.le_trans hX.size hn72
          have hb1 := hb1.extNo hE19
          have hwb := hwb.extNo hE19
          have hwo := hwo.ext hE19 fun _ _ => id
          have hX := hX.thenNo hE19
          have hXo := hX
          refine wl (st_call Tryd.call67 rfl rfl rfl rfl rfl rfl (ids_calls w19 ⟨_, hwb, hwo⟩ (q := some ⟨b72, 0, none⟩) (m := [x.tree]) ⟨by simp only [List.flatMap_cons, List.flatMap_nil, List.append_nil]; exact ha5.len, .inr ⟨b72, 0, rfl, by simpa using hb72.seg⟩⟩ (fun r hr => by rw [List.mem_singleton.1 hr]; exact ha5) (by simp only [List.length_append, be_len]; omega) (by simp only [List.length_cons, List.length_nil]; omega) (fun y off e _ hF => by cases e; exact hF.elim (fun e => hwb.ne hb72 (by decide) e.symm) fun h => hwo.neTy h hb72 (by decide) rfl)) fun v20 w20 hr20 => ?_)
          obtain ⟨rfl, p, hW2, hn2, hE20⟩ := hr20
          have hb1 := hb1.keepW ⟨_, hwb, hwo⟩ hE20 (by decide) (by decide)
          have hb72 := hb72.keepW ⟨_, hwb, hwo⟩ hE20 (by decide) (by decide)
          have hX := Ext.thenW hX hE20 fr14 hpn
          have hpn := newW hXo hpn hn2
          obtain ⟨k20, hwb, hwo⟩ := hW2
          refine wl_nil (f_then (c_seq ?_))
          refine c_draw rfl 13 [(0, true), (1, true), (2, true), (3, true), (4, true), (5, true), (6, true), (7, true), (8, true), (9, false), (10, false), (11, true), (12, true)] [13] (OwnB p) (by kernel_rfl) fun w21 hE21 hs21 => ?_
          have hd1 := hb1
          have hwbd := hwb
          have hwod := hwo
          have hXd := hX
          have hb1 := hb1.extNo hE21
          have hwb := hwb.extNo hE21
          have hwo := hwo.ext hE21 fun _ _ => id
          have hX := hX.thenNo hE21
          have hC : Ext (OwnB p) _ w21 := hE21.no
          refine wd_k I_ok 4 rfl (wd_ld I_ok rfl rfl (fun w' hw' => ((hwbd.ext (show Ext (OwnB p) _ w' from hw') fun hx' => hwod.neTy hx' hwbd (by decide) rfl).cell rfl)) ?_)
          refine wd_k I_ok 1 rfl (wd_ld I_ok rfl rfl (fun w' hw' => ((hd1.ext (show Ext (OwnB p) _ w' from hw') fun hx' => hwod.neTy hx' hd1 (by decide) rfl).seg.obj hx).parents) ?_)
          refine wd_k I_ok 2 rfl ?_
          rw [wrap_byte]
          refine wd_l rfl (st_bs I_ok rfl 1 rfl rfl rfl (by decide) (by decide) (by simp [partsOk]) (l' := bytesU [UInt8.ofNat x.parents.length]) rfl fun b83 w22 hn83 hb83 hE22 hs22 => ⟨hC.thenNo hE22, ?_⟩)
          have ne1_83 : b1 ≠ b83 := Nat.ne_of_lt (Nat.lt_of_lt_of_le hb1.lt hn83)
          have fr83 := Nat.le_trans hX.size hn83
          have hb1 := hb1.extNo hE22
          have hwb := hwb.extNo hE22
          have hwo := hwo.ext hE22 fun _ _ => id
          have hX := hX.thenNo hE22
          have hC := hC.thenNo hE22
          have hX0 := hX
          refine wd_l rfl (st_app I_ok rfl 1 1 rfl rfl rfl (by decide) hwo (Src.slice (m := 1) ⟨rfl, .inr ⟨b83, 0, rfl, hb83.seg⟩⟩ OneC.h) (by dsimp only [maxLen]; simp only [List.length_append, be_len, List.length_nil, List.flatten_cons, List.flatten_nil]; omega) (by dsimp only; simp only [List.length_append, be_len, List.length_nil, List.flatten_cons, List.flatten_nil]; omega) fun p23 c23 w23 ho23 hE23 hB23 => ⟨hC.then hE23, ?_⟩)
          have hC := hC.then hE23
          dsimp only at ho23 hE23 hB23 ⊢
          have hb1 := hb1.extOwn hwo hE23 (show (5 : Nat) ≠ 33 from by decide)
          have hX := hX.trans hE23 fun y hy hF => by have := hpn y hF; omega
          have hwb := hwb.extOwn hwo hE23 (show (5 : Nat) ≠ 121 from by decide)
          have hn2 := newW hX0 hpn hB23
          have e3 : (be 1 x.kind.toNat ++ be 1 x.style.toNat ++ [x.tree].flatten).length + 1 = (be 1 x.kind.toNat ++ be 1 x.style.toNat ++ [x.tree].flatten ++ be 1 x.parents.length).length := by simp only [List.length_append, be_len]
          obtain ⟨p, k, e1, e2, hwo2⟩ : ∃ p k, p = p23 ∧ k = c23 ∧ Own w23 p (be 1 x.kind.toNat ++ be 1 x.style.toNat ++ [x.tree].flatten ++ be 1 x.parents.length).length k 5 1 (bytesU (be 1 x.kind.toNat ++ be 1 x.style.toNat ++ [x.tree].flatten ++ be 1 x.parents.length)) := ⟨_, _, rfl, rfl, by
            rw [← e3, bytesU_append (be 1 x.kind.toNat ++ be 1 x.style.toNat ++ [x.tree].flatten)]
            exact ho23⟩
          rw [← e1] at hn2
          have hpn := hn2
          rw [← e1, ← e2, e3]
          refine wd_k I_ok 2 rfl (wd_sw (wb rfl (st_st I_ok hwb rfl rfl rfl fun w24 hwb2 hE24 hs24 => ?_)))
          have hwo := hwo2.extTy hE24 hwb (by decide)
          have hb1 := hb1.ext1 hE24 (hb1.ne hwb (by decide))
          have hX := hX.trans hE24 fun y hy hF => by have hF : y = b14 := hF; omega
          have hwb := hwb2
          refine wb_nil (f_then (c_seq (c_region (wl_p I_ok rfl (wl (st_ld I_ok rfl (hb1.seg.obj hx).parents ?_))))))
          have hXo := hX
          refine wl (st_call Tryd.call67 rfl rfl rfl rfl rfl rfl (ids_calls w24 ⟨_, hwb, hwo⟩ (hxl.parents.extNo hX) hx.parents (by simp only [List.length_append, be_len, List.length_nil, List.flatten_cons, List.flatten_nil]; omega) (by omega) (fun y off e hne hF => by have hlt := hxl.parents.lt e (flat_ne hx.parents hne); exact hF.elim (fun e => by omega) fun h => by have := hpn y h; omega)) fun v25 w25 hr25 => ?_)
          obtain ⟨rfl, p, hW2, hn2, hE25⟩ := hr25
          have hb1 := hb1.keepW ⟨_, hwb, hwo⟩ hE25 (by decide) (by decide)
          have hX := Ext.thenW hX hE25 fr14 hpn
          have hpn := newW hXo hpn hn2
          obtain ⟨k25, hwb, hwo⟩ := hW2
          refine wl_nil (f_then (c_seq (c_region (wl_p I_ok rfl (wl (st_ldN I_ok rfl (hb1.seg.obj hx).base (IdIn.len hx.base) ?_))))))
          have ha5 : IdIn x.base := hx.base
          refine wl (st_bs I_ok rfl 32 rfl idZ_c.symm (by rw [bytesU_len]; rfl) (by decide) (by decide) ⟨⟨by rw [cellsOf_agg]; exact (IdIn.len hx.base), by decide⟩, trivial⟩ (l' := bytesU x.base) (one_id hx.base) fun b94 w26 hn94 hb94 hE26 hs26 => ?_)
          have ne1_94 : b1 ≠ b94 := Nat.ne_of_lt (Nat.lt_of_lt_of_le hb1.lt hn94)
          have fr94 := Nat.le_trans hX.size hn94
          have hb1 := hb1.extNo hE26
          have hwb := hwb.extNo hE26
          have hwo := hwo.ext hE26 fun _ _ => id
          have hX := hX.thenNo hE26
          have hXo := hX
          refine wl (st_call Tryd.call67 rfl rfl rfl rfl rfl rfl (ids_calls w26 ⟨_, hwb, hwo⟩ (q := some ⟨b94, 0, none⟩) (m := [x.base]) ⟨by simp only [List.flatMap_cons, List.flatMap_nil, List.append_nil]; exact ha5.len, .inr ⟨b94, 0, rfl, by simpa using hb94.seg⟩⟩ (fun r hr => by rw [List.mem_singleton.1 hr]; exact ha5) (by simp only [List.length_append, be_len, List.length_nil, List.flatten_cons, List.flatten_nil]; omega) (by simp only [List.length_cons, List.length_nil]; omega) (fun y off e _ hF => by cases e; exact hF.elim (fun e => hwb.ne hb94 (by decide) e.symm) fun h => hwo.neTy h hb94 (by decide) rfl)) fun v27 w27 hr27 => ?_)
          obtain ⟨rfl, p, hW2, hn2, hE27⟩ := hr27
          have hb1 := hb1.keepW ⟨_, hwb, hwo⟩ hE27 (by decide) (by decide)
          have hb94 := hb94.keepW ⟨_, hwb, hwo⟩ hE27 (by decide) (by decide)
          have hX := Ext.thenW hX hE27 fr14 hpn
          have hpn := newW hXo hpn hn2
          obtain ⟨k27, hwb, hwo⟩ := hW2
          refine wl_nil (f_then (c_seq ?_))
          refine c_draw rfl 14 [(0, true), (1, true), (2, true), (3, true), (4, true), (5, true), (6, true), (7, true), (8, true), (9, true), (10, false), (11, false), (12, true), (13, true)] [14] (OwnB p) (by kernel_rfl) fun w28 hE28 hs28 => ?_
          have hd1 := hb1
          have hwbd := hwb
          have hwod := hwo
          have hXd := hX
          have hb1 := hb1.extNo hE28
          have hwb := hwb.extNo hE28
          have hwo := hwo.ext hE28 fun _ _ => id
          have hX := hX.thenNo hE28
          have hC : Ext (OwnB p) _ w28 := hE28.no
          refine wd_k I_ok 4 rfl (wd_ld I_ok rfl rfl (fun w' hw' => ((hwbd.ext (show Ext (OwnB p) _ w' from hw') fun hx' => hwod.neTy hx' hwbd (by decide) rfl).cell rfl)) ?_)
          refine wd_k I_ok 2 rfl (wd_ld I_ok rfl rfl (fun w' hw' => ((hd1.ext (show Ext (OwnB p) _ w' from hw') fun hx' => hwod.neTy hx' hd1 (by decide) rfl).seg.obj hx).rows) ?_)
          refine wd_k I_ok 2 rfl ?_
          rw [wrap_byte]
          refine wd_l rfl (st_bs I_ok rfl 1 rfl rfl rfl (by decide) (by decide) (by simp [partsOk]) (l' := bytesU [UInt8.ofNat x.rows.length]) rfl fun b106 w29 hn106 hb106 hE29 hs29 => ⟨hC.thenNo hE29, ?_⟩)
          have ne1_106 : b1 ≠ b106 := Nat.ne_of_lt (Nat.lt_of_lt_of_le hb1.lt hn106)
          have fr106 := Nat.le_trans hX.size hn106
          have hb1 := hb1.extNo hE29
          have hwb := hwb.extNo hE29
          have hwo := hwo.ext hE29 fun _ _ => id
          have hX := hX.thenNo hE29
          have hC := hC.thenNo hE29
          have hX0 := hX
          refine wd_l rfl (st_app I_ok rfl 1 1 rfl rfl rfl (by decide) hwo (Src.slice (m := 1) ⟨rfl, .inr ⟨b106, 0, rfl, hb106.seg⟩⟩ OneC.h) (by dsimp only [maxLen]; simp only [List.length_append, be_len, List.length_nil, List.flatten_cons, List.flatten_nil]; omega) (by dsimp only; simp only [List.length_append, be_len, List.length_nil, List.flatten_cons, List.flatten_nil]; omega) fun p30 c30 w30 ho30 hE30 hB30 => ⟨hC.then hE30, ?_⟩)
          have hC := hC.then hE30
          dsimp only at ho30 hE30 hB30 ⊢
          have hb1 := hb1.extOwn hwo hE30 (show (5 : Nat) ≠ 33 from by decide)
          have hX := hX.trans hE30 fun y hy hF => by have := hpn y hF; omega
          have hwb := hwb.extOwn hwo hE30 (show (5 : Nat) ≠ 121 from by decide)
          have hn2 := newW hX0 hpn hB30
          have e3 : (be 1 x.kind.toNat ++ be 1 x.style.toNat ++ [x.tree].flatten ++ be 1 x.parents.length ++ x.parents.flatten ++ [x.base].flatten).length + 1 = (be 1 x.kind.toNat ++ be 1 x.style.toNat ++ [x.tree].flatten ++ be 1 x.parents.length ++ x.parents.flatten ++ [x.base].flatten ++ be 1 x.rows.length).length := by simp only [List.length_append, be_len]
          obtain ⟨p, k, e1, e2, hwo2⟩ : ∃ p k, p = p30 ∧ k = c30 ∧ Own w30 p (be 1 x.kind.toNat ++ be 1 x.style.toNat ++ [x.tree].flatten ++ be 1 x.parents.length ++ x.parents.flatten ++ [x.base].flatten ++ be 1 x.rows.length).length k 5 1 (bytesU (be 1 x.kind.toNat ++ be 1 x.style.toNat ++ [x.tree].flatten ++ be 1 x.parents.length ++ x.parents.flatten ++ [x.base].flatten ++ be 1 x.rows.length)) := ⟨_, _, rfl, rfl, by
            rw [← e3, bytesU_append (be 1 x.kind.toNat ++ be 1 x.style.toNat ++ [x.tree].flatten ++ be 1 x.parents.length ++ x.parents.flatten ++ [x.base].flatten)]
            exact ho30⟩
          rw [← e1] at hn2
          have hpn := hn2
          rw [← e1, ← e2, e3]
          refine wd_k I_ok 2 rfl (wd_sw (wb rfl (st_st I_ok hwb rfl rfl rfl fun w31 hwb2 hE31 hs31 => ?_)))
          have hwo := hwo2.extTy hE31 hwb (by decide)
          have hb1 := hb1.ext1 hE31 (hb1.ne hwb (by decide))
          have hX := hX.trans hE31 fun y hy hF => by have hF : y = b14 := hF; omega
          have hwb := hwb2
          refine wb_nil (f_then (c_seq (c_seq (c_region (wl_p I_ok rfl (wl (st_ld I_ok rfl (hb1.seg.obj hx).rows (wl_p I_ok rfl (wl_nil (f_then (c_block ?_)))))))))))
          refine c_loopK (α := Nat × Option Addr) [1, 3, 112, 113] rfl (fun z => [(114, .int .i64 (z.1 : Int))]) (fun z u => (z.1 ≤ x.rows.length ∧ Wr u b14 z.2 (be 1 x.kind.toNat ++ be 1 x.style.toNat ++ [x.tree].flatten ++ be 1 x.parents.length ++ x.parents.flatten ++ [x.base].flatten ++ be 1 x.rows.length ++ (x.rows.take z.1).flatMap chgB) ∧ ∀ y, OwnB z.2 y → w.heap.size ≤ y) ∧ Blk u b1 33 (objC x a) ∧ Ext No w u) (fun z u => x.rows.length - z.1) (0, p) rfl ⟨⟨Nat.zero_le _, ⟨_, by simpa using hwb, by simpa using hwo⟩, hpn⟩, hb1, hX⟩ ?_
          rintro ⟨i, p⟩ w32 ⟨⟨hi, ⟨k, hwb, hwo⟩, hpn⟩, hb1, hX⟩
          try dsimp only
          dsimp only at hi hwb hwo hpn
          refine c_seq (c_region (wl_p I_ok rfl (wl_nil (f_then (c_seq (c_if rfl (fun hc => ?_) (fun hc => ?_)))))))
          · have hi : i < x.rows.length := by omega
            obtain ⟨qb, qoff, hp, hsq⟩ := hxl.rows.rowAll (fun r _ => r.len) (by omega)
            rw [hp]
            have ha2 := hp48 _ (List.getElem_mem hi)
            have hfl : ((x.rows.take i).flatMap chgB).length ≤ (x.rows.take i).length * 400 := flat_le fun r hr => chgB_le (hp48 r (List.mem_of_mem_take hr))
            rw [List.length_take, Nat.min_eq_left (by omega)] at hfl
            refine c_skip (f_then (c_seq (c_block (c_seq (c_region (wl (st_ix I_ok rfl 3 rfl i rfl (by omega) (qoff + i * 3) rfl (wl (st_ldN I_ok rfl ((hsq i hi).extNo hX) rfl (wl (st_al I_ok rfl fun b7 w33 hn7 hb7 hE33 => ?_)))))))))))
            have ne1_7 : b1 ≠ b7 := Nat.ne_of_lt (Nat.lt_of_lt_of_le hb1.lt hn7)
            have fr7 := Nat.le_trans hX.size hn7
            have hb1 := hb1.extNo hE33
            have hwb := hwb.extNo hE33
            have hwo := hwo.ext hE33 fun _ _ => id
            have hX := hX.thenNo hE33
            have hb7o := hb7
            refine wl (st_stW (l' := (x.rows[i]).cells) I_ok hb7 rfl rfl rfl rfl OneC.h fun w34 hb7 hE34 hs34 => ?_)
            have hb1 := hb1.ext1 hE34 ne1_7
            have hwb := hwb.ext1 hE34 (hwb.ne hb7o (by decide))
            have hwo := hwo.extTy hE34 hb7o (by decide)
            have hX := hX.thenNew hE34 fr7
            refine wl_nil (f_then (c_seq (c_region (wl_p I_ok rfl (wl (st_ldb I_ok hb7 rfl rfl ?_))))))
            have hXo := hX
            refine wl (st_call Tryd.call66 rfl rfl rfl rfl rfl rfl (small_calls w34 ⟨_, hwb, hwo⟩ (x.rows[i]).path (by simp only [List.length_append, be_len, List.length_nil, List.flatten_cons, List.flatten_nil]; omega)) fun v35 w35 hr35 => ?_)
            obtain ⟨rfl, p, hW2, hn2, hE35⟩ := hr35
            have hb1 := hb1.keepW ⟨_, hwb, hwo⟩ hE35 (by decide) (by decide)
            have hb7 := hb7.keepW ⟨_, hwb, hwo⟩ hE35 (by decide) (by decide)
            have hX := Ext.thenW hX hE35 fr14 hpn
            have hpn := newW hXo hpn hn2
            obtain ⟨k35, hwb, hwo⟩ := hW2
            refine wl_nil (f_then (c_seq (c_region (wl_p I_ok rfl (wl_nil (f_then ?_))))))
            refine c_cutK (α := UInt8) [1, 3, 7, 112, 113, 114] rfl (fun z => [(8, .int .u8 (z.toNat : Int))]) (fun z u => (z = isB (x.rows[i]).is ∧ Wr u b14 p (be 1 x.kind.toNat ++ be 1 x.style.toNat ++ [x.tree].flatten ++ be 1 x.parents.length ++ x.parents.flatten ++ [x.base].flatten ++ be 1 x.rows.length ++ (x.rows.take i).flatMap chgB ++ strB 1 (x.rows[i]).path)) ∧ Blk u b1 33 (objC x a) ∧ Blk u b7 82 ((x.rows[i]).cells) ∧ Ext No w u) ?_ ?_
            · refine c_seq ?_
              refine c_region (wl_p I_ok rfl (wl (st_ldb I_ok hb7 rfl rfl (wl_nil (f_then (c_cond rfl (fun hc => ?_) (fun hc => ?_)))))))
              · have his : isB (x.rows[i]).is = 1 := by rw [isB, hc]; rfl
                refine c_region (wl_p I_ok rfl (wl_nil ?_))
                exact f_cut (1) rfl ⟨⟨his.symm, ⟨_, hwb, hwo⟩⟩, hb1, hb7, hX⟩
              · have his : isB (x.rows[i]).is = 0 := by rw [isB, hc]; rfl
                refine c_skip ?_
                exact f_cut (0) rfl ⟨⟨his.symm, ⟨_, hwb, hwo⟩⟩, hb1, hb7, hX⟩
            rintro z w36 ⟨⟨rfl, ⟨k, hwb, hwo⟩⟩, hb1, hb7, hX⟩
            refine c_seq (c_region (wl_p I_ok rfl (wl (st_ld I_ok rfl (hwb.cell rfl) (wl_p I_ok rfl ?_)))))
            refine wl (st_bs I_ok rfl 1 rfl rfl rfl (by decide) (by decide) (by simp [partsOk]) (l' := bytesU [isB (x.rows[i]).is]) rfl fun b130 w37 hn130 hb130 hE37 hs37 => ?_)
            have ne1_130 : b1 ≠ b130 := Nat.ne_of_lt (Nat.lt_of_lt_of_le hb1.lt hn130)
            have ne7_130 : b7 ≠ b130 := Nat.ne_of_lt (Nat.lt_of_lt_of_le hb7.lt hn130)
            have fr130 := Nat.le_trans hX.size hn130
            have hb1 := hb1.extNo hE37
            have hb7 := hb7.extNo hE37
            have hwb := hwb.extNo hE37
            have hwo := hwo.ext hE37 fun _ _ => id
            have hX := hX.thenNo hE37
            have hX0 := hX
            refine wl (st_app I_ok rfl 1 1 rfl rfl rfl (by decide) hwo (Src.slice (m := 1) ⟨rfl, .inr ⟨b130, 0, rfl, hb130.seg⟩⟩ OneC.h) (by dsimp only [maxLen]; simp only [List.length_append, be_len, strB_len, List.length_nil, List.flatten_cons, List.flatten_nil]; omega) (by dsimp only; simp only [List.length_append, be_len, strB_len, List.length_nil, List.flatten_cons, List.flatten_nil]; omega) fun p38 c38 w38 ho38 hE38 hB38 => ?_)
            dsimp only at ho38 hE38 hB38 ⊢
            have hb1 := hb1.extOwn hwo hE38 (show (5 : Nat) ≠ 33 from by decide)
            have hb7 := hb7.extOwn hwo hE38 (show (5 : Nat) ≠ 82 from by decide)
            have hX := hX.trans hE38 fun y hy hF => by have := hpn y hF; omega
            have hwb := hwb.extOwn hwo hE38 (show (5 : Nat) ≠ 121 from by decide)
            have hn2 := newW hX0 hpn hB38
            have e3 : (be 1 x.kind.toNat ++ be 1 x.style.toNat ++ [x.tree].flatten ++ be 1 x.parents.length ++ x.parents.flatten ++ [x.base].flatten ++ be 1 x.rows.length ++ (x.rows.take i).flatMap chgB ++ strB 1 (x.rows[i]).path).length + 1 = (be 1 x.kind.toNat ++ be 1 x.style.toNat ++ [x.tree].flatten ++ be 1 x.parents.length ++ x.parents.flatten ++ [x.base].flatten ++ be 1 x.rows.length ++ (x.rows.take i).flatMap chgB ++ strB 1 (x.rows[i]).path ++ [isB (x.rows[i]).is]).length := by simp only [List.length_append, be_len, List.length_cons, List.length_nil]
            obtain ⟨p, k, e1, e2, hwo2⟩ : ∃ p k, p = p38 ∧ k = c38 ∧ Own w38 p (be 1 x.kind.toNat ++ be 1 x.style.toNat ++ [x.tree].flatten ++ be 1 x.parents.length ++ x.parents.flatten ++ [x.base].flatten ++ be 1 x.rows.length ++ (x.rows.take i).flatMap chgB ++ strB 1 (x.rows[i]).path ++ [isB (x.rows[i]).is]).length k 5 1 (bytesU (be 1 x.kind.toNat ++ be 1 x.style.toNat ++ [x.tree].flatten ++ be 1 x.parents.length ++ x.parents.flatten ++ [x.base].flatten ++ be 1 x.rows.length ++ (x.rows.take i).flatMap chgB ++ strB 1 (x.rows[i]).path ++ [isB (x.rows[i]).is])) := ⟨_, _, rfl, rfl, by
              rw [← e3, bytesU_append (be 1 x.kind.toNat ++ be 1 x.style.toNat ++ [x.tree].flatten ++ be 1 x.parents.length ++ x.parents.flatten ++ [x.base].flatten ++ be 1 x.rows.length ++ (x.rows.take i).flatMap chgB ++ strB 1 (x.rows[i]).path)]
              exact ho38⟩
            rw [← e1] at hn2
            have hpn := hn2
            rw [← e1, ← e2, e3]
            refine wl_p I_ok rfl (wl (st_st I_ok hwb rfl rfl rfl fun w39 hwb2 hE39 hs39 => ?_))
            have hwo := hwo2.extTy hE39 hwb (by decide)
            have hb1 := hb1.ext1 hE39 (hb1.ne hwb (by decide))
            have hb7 := hb7.ext1 hE39 (hb7.ne hwb (by decide))
            have hX := hX.trans hE39 fun y hy hF => by have hF : y = b14 := hF; omega
            have hwb := hwb2
            refine wl_nil (f_then (c_region (wl_p I_ok rfl (wl (st_ldb I_ok hb7 rfl rfl ?_)))))
            have hXo := hX
            refine wl (st_call Tryd.call65 rfl rfl rfl rfl rfl rfl (text_calls w39 ⟨_, hwb, hwo⟩ (x.rows[i]).text (by simp only [List.length_append, be_len, strB_len, List.length_cons, List.length_nil, List.flatten_cons, List.flatten_nil]; omega) (by omega)) fun v40 w40 hr40 => ?_)
            obtain ⟨rfl, p, hW2, hn2, hE40⟩ := hr40
            have hb1 := hb1.keepW ⟨_, hwb, hwo⟩ hE40 (by decide) (by decide)
            have hb7 := hb7.keepW ⟨_, hwb, hwo⟩ hE40 (by decide) (by decide)
            have hX := Ext.thenW hX hE40 fr14 hpn
            have hpn := newW hXo hpn hn2
            obtain ⟨k40, hwb, hwo⟩ := hW2
            refine wl_nil (f_blockN (f_then (c_region (wl_p I_ok rfl ?_))))
            rw [IntWalk.i64_in _ (by omega)]
            refine wl_nil ?_
            exact f_round (i + 1, p) rfl ⟨⟨hi, by have e : be 1 x.kind.toNat ++ be 1 x.style.toNat ++ [x.tree].flatten ++ be 1 x.parents.length ++ x.parents.flatten ++ [x.base].flatten ++ be 1 x.rows.length ++ (x.rows.take (i + 1)).flatMap chgB = be 1 x.kind.toNat ++ be 1 x.style.toNat ++ [x.tree].flatten ++ be 1 x.parents.length ++ x.parents.flatten ++ [x.base].flatten ++ be 1 x.rows.length ++ (x.rows.take i).flatMap chgB ++ strB 1 (x.rows[i]).path ++ [isB (x.rows[i]).is] ++ strB 2 (x.rows[i]).text := (by rw [flat_take hi, chgB]; simp); rw [e]; exact ⟨_, hwb, hwo⟩, hpn⟩, hb1, hX⟩ (by first | omega | (dsimp only; omega))
          · have h0 : i = x.rows.length := by omega
            subst h0
            rw [List.take_length] at hwb hwo
            have hfl : (x.rows.flatMap chgB).length ≤ x.rows.length * 400 := flat_le fun r hr => chgB_le (hp48 r hr)
            refine c_exit (f_thenE (f_thenE (f_blockE (f_then (c_seq ?_)))))
            refine c_draw rfl 13 [(0, true), (1, true), (2, true), (3, true), (4, true), (5, true), (6, true), (8, true), (9, true), (7, false), (10, false), (11, true), (12, true)] [13] (No) (by kernel_rfl) fun w41 hE41 hs41 => ?_
            have hd1 := hb1
            have hwbd := hwb
            have hwod := hwo
            have hXd := hX
            have hb1 := hb1.extNo hE41
            have hwb := hwb.extNo hE41
            have hwo := hwo.ext hE41 fun _ _ => id
            have hX := hX.thenNo hE41
            have hC : Ext (No) _ w41 := hE41.no
            refine wd_k I_ok 4 rfl (wd_ld I_ok rfl rfl (fun w' hw' => ((hwbd.extNo hw').cell rfl)) ?_)
            refine wd_k I_ok 1 rfl (wd_ld I_ok rfl rfl (fun w' hw' => ((hd1.extNo hw').seg.obj hx).number) ?_)
            refine wd_k I_ok 1 rfl (wd_ld I_ok rfl rfl (fun w' hw' => ((hd1.extNo hw').seg.obj hx).author) ?_)
            refine wd_l rfl (st_call Tryd.call64 rfl rfl rfl rfl rfl rfl (put32_calls w41 hwo.sl (by simp only [List.length_append, be_len, List.length_nil, List.flatten_cons, List.flatten_nil]; omega) x.number hx.number) fun v42 w42 hr42 => ⟨(by obtain ⟨bp, rfl, hnp, hbp, hE42⟩ := hr42; exact hC.thenNo hE42), ?_⟩)
            obtain ⟨bp, rfl, hnp, hbp, hE42⟩ := hr42
            have hb1 := hb1.extNo hE42
            have hwb := hwb.extNo hE42
            have hwo := hwo.ext hE42 fun _ _ => id
            have hX := hX.thenNo hE42
            have hC := hC.thenNo hE42
            have hX0 := hX
            refine wd_l rfl (st_call Tryd.call64 rfl rfl rfl rfl rfl rfl (put32_calls w42 (l := be 1 x.kind.toNat ++ be 1 x.style.toNat ++ [x.tree].flatten ++ be 1 x.parents.length ++ x.parents.flatten ++ [x.base].flatten ++ be 1 x.rows.length ++ x.rows.flatMap chgB ++ be 4 x.number) (p := some ⟨bp, 0, none⟩) ⟨by rw [bytesU_len, Nat.mul_one], .inr ⟨bp, 0, rfl, hbp.seg⟩⟩ (by simp only [List.length_append, be_len, List.length_nil, List.flatten_cons, List.flatten_nil]; omega) x.author hx.author) fun v43 w43 hr43 => ⟨(by obtain ⟨bp, rfl, hnp, hbp, hE43⟩ := hr43; exact hC.thenNo hE43), ?_⟩)
            obtain ⟨bp, rfl, hnp, hbp, hE43⟩ := hr43
            have hb1 := hb1.extNo hE43
            have hwb := hwb.extNo hE43
            have hwo := hwo.ext hE43 fun _ _ => id
            have hX := hX.thenNo hE43
            have hC := hC.thenNo hE43
            obtain ⟨p, k, hp, hk, hwo2⟩ : ∃ p k, p = some ⟨bp, 0, none⟩ ∧ k = (be 1 x.kind.toNat ++ be 1 x.style.toNat ++ [x.tree].flatten ++ be 1 x.parents.length ++ x.parents.flatten ++ [x.base].flatten ++ be 1 x.rows.length ++ x.rows.flatMap chgB ++ be 4 x.number ++ be 4 x.author).length ∧ Own w43 p (be 1 x.kind.toNat ++ be 1 x.style.toNat ++ [x.tree].flatten ++ be 1 x.parents.length ++ x.parents.flatten ++ [x.base].flatten ++ be 1 x.rows.length ++ x.rows.flatMap chgB ++ be 4 x.number ++ be 4 x.author).length k 5 1 (bytesU (be 1 x.kind.toNat ++ be 1 x.style.toNat ++ [x.tree].flatten ++ be 1 x.parents.length ++ x.parents.flatten ++ [x.base].flatten ++ be 1 x.rows.length ++ x.rows.flatMap chgB ++ be 4 x.number ++ be 4 x.author)) := ⟨_, _, rfl, rfl, by
              have := Own.blk (n := (be 1 x.kind.toNat ++ be 1 x.style.toNat ++ [x.tree].flatten ++ be 1 x.parents.length ++ x.parents.flatten ++ [x.base].flatten ++ be 1 x.rows.length ++ x.rows.flatMap chgB ++ be 4 x.number ++ be 4 x.author).length) (c := (be 1 x.kind.toNat ++ be 1 x.style.toNat ++ [x.tree].flatten ++ be 1 x.parents.length ++ x.parents.flatten ++ [x.base].flatten ++ be 1 x.rows.length ++ x.rows.flatMap chgB ++ be 4 x.number ++ be 4 x.author).length) hbp 1 (by rw [bytesU_len, Nat.mul_one]) (Nat.le_refl _) (by dsimp only [maxLen]; simp only [List.length_append, be_len, List.length_nil, List.flatten_cons, List.flatten_nil]; omega)
              rw [List.take_of_length_le (by rw [bytesU_len, Nat.mul_one]; exact Nat.le_refl _)] at this
              exact this⟩
            have hpn : ∀ y, OwnB p y → w.heap.size ≤ y := fun y hy => by rw [hp] at hy; have e : bp = y := congrArg Addr.block (Option.some.inj hy); have := hX0.size; omega
            rw [← hp]
            rw [show Value.slice p (be 1 x.kind.toNat ++ be 1 x.style.toNat ++ [x.tree].flatten ++ be 1 x.parents.length ++ x.parents.flatten ++ [x.base].flatten ++ be 1 x.rows.length ++ x.rows.flatMap chgB ++ be 4 x.number ++ be 4 x.author).length (be 1 x.kind.toNat ++ be 1 x.style.toNat ++ [x.tree].flatten ++ be 1 x.parents.length ++ x.parents.flatten ++ [x.base].flatten ++ be 1 x.rows.length ++ x.rows.flatMap chgB ++ be 4 x.number ++ be 4 x.author).length = .slice p (be 1 x.kind.toNat ++ be 1 x.style.toNat ++ [x.tree].flatten ++ be 1 x.parents.length ++ x.parents.flatten ++ [x.base].flatten ++ be 1 x.rows.length ++ x.rows.flatMap chgB ++ be 4 x.number ++ be 4 x.author).length k from by rw [hk]]
            refine wd_k I_ok 2 rfl (wd_sw (wb rfl (st_st I_ok hwb rfl rfl rfl fun w44 hwb2 hE44 hs44 => ?_)))
            have hwo := hwo2.extTy hE44 hwb (by decide)
            have hb1 := hb1.ext1 hE44 (hb1.ne hwb (by decide))
            have hX := hX.trans hE44 fun y hy hF => by have hF : y = b14 := hF; omega
            have hwb := hwb2
            refine wb_nil (f_then (c_region (wl_p I_ok rfl (wl (st_ld I_ok rfl (hb1.seg.obj hx).note ?_)))))
            have hXo := hX
            refine wl (st_call Tryd.call66 rfl rfl rfl rfl rfl rfl (small_calls w44 ⟨_, hwb, hwo⟩ x.note (by simp only [List.length_append, be_len, List.length_nil, List.flatten_cons, List.flatten_nil]; omega)) fun v45 w45 hr45 => ?_)
            obtain ⟨rfl, p, hW2, hn2, hE45⟩ := hr45
            have hb1 := hb1.keepW ⟨_, hwb, hwo⟩ hE45 (by decide) (by decide)
            have hX := Ext.thenW hX hE45 fr14 hpn
            have hpn := newW hXo hpn hn2
            obtain ⟨k45, hwb, hwo⟩ := hW2
            refine wl_nil ?_
            exact f_blockN (f_cut (p) rfl ⟨⟨by have e : laidB x = be 1 x.kind.toNat ++ be 1 x.style.toNat ++ [x.tree].flatten ++ be 1 x.parents.length ++ x.parents.flatten ++ [x.base].flatten ++ be 1 x.rows.length ++ x.rows.flatMap chgB ++ be 4 x.number ++ be 4 x.author ++ strB 1 x.note := (by rw [laidB, if_neg h1, if_neg h2, comB]; simp only [List.append_assoc, List.flatten_cons, List.flatten_nil, List.append_nil]); rw [e]; exact ⟨_, hwb, hwo⟩, hpn⟩, hX⟩)
        · exact absurd hf (fields0 h1 h2 hc)
  rintro p w46 ⟨⟨⟨k, hwb, hwo⟩, hpn⟩, hX⟩
  refine c_seq (c_region (wl_p I_ok rfl (wl (st_ld I_ok rfl (hwb.cell rfl) (wl_p I_ok rfl (wl_nil (f_then (c_ret (f_ret1 rfl rfl ?_)))))))))
  exact ⟨p, k, rfl, hwo, hpn, hX⟩
end Go.Proofs.YtjghckniloikgaaDoor
namespace Go.Proofs.YtjghckniloikgaaDoor
open Go.Vc
/-- an object's error, its bytes, Id and links, if it may be -/
abbrev objE (x : ObjD) : Int := if ObjOk x then 0 else 160
def encB (x : ObjD) : List UInt8 := if ObjOk x then laidB x else []
def idB (x : ObjD) : List UInt8 := if ObjOk x then idOf x else idZ
theorem noOwn {n : Nat} : ∀ b, OwnB none b → n ≤ b := fun _ h => by cases h
def linksB (x : ObjD) : List (List UInt8) := if ObjOk x then linksOf x else []
theorem checkObj_calls (w : World) {x : ObjD} {a : ObjP} (hx : ObjIn x) (hxl : ObjL w x a) (hsx : Short x) :
    CallsV Tryd.prog 14 [.agg (objC x a).toArray] w fun v w' => v = .int .i64 (objE x) ∧ Ext No w w' := by
  refine calls_enter Tryd.func14 rfl rfl rfl rfl ?_
  have hX := Ext.refl No w
  refine c_seq (c_region (wl (st_al I_ok rfl fun b1 w1 hn1 hb1 hE1 => ?_)))
  have fr1 := Nat.le_trans hX.size hn1
  have hX := hX.thenNo hE1
  have hb1 : Blk w1 b1 33 (objC x a) := hb1
  refine wl_p I_ok rfl (wl_nil (f_then (c_seq (c_cutK (α := Bool) [] rfl (fun z => [(11, .bool z)]) (fun z u => (z = decide (¬ ObjOk x)) ∧ Ext No w u) ?_ ?_))))
  · refine c_region ?_
    refine wl (st_ldB I_ok hb1 rfl (objC_len hx) (wl (st_call Tryd.call35 rfl rfl rfl rfl rfl rfl (fielded_calls w1 hx (hxl.extNo hX) hsx) fun v2 w2 hr2 => ?_)))
    obtain ⟨rfl, hE2⟩ := hr2
    have hb1 := hb1.extNo hE2
    have hX := hX.thenNo hE2
    refine wl_p I_ok rfl (wl_case 6 rfl (fun hg => ?_) (fun hg => ?_))
    · have hf : ¬ FieldsOk x := by simpa using hg
      refine wl_pk I_ok 5 rfl (wl_nil ?_)
      exact f_cut (true) rfl ⟨by symm; rw [decide_eq_true_eq]; exact fun h => hf h.1, hX⟩
    · have hf : FieldsOk x := by simpa using hg
      refine wl (st_ldB I_ok hb1 rfl (objC_len hx) (wl (st_call Tryd.call34 rfl rfl rfl rfl rfl rfl (laid_calls w2 hx (hxl.extNo hX) hf) fun v3 w3 hr3 => ?_)))
      obtain ⟨q, k, rfl, hq, hqn, hE3⟩ := hr3
      have hb1 := hb1.extNo hE3
      have hX := hX.thenNo hE3
      refine wl_pk I_ok 3 rfl (wl_nil ?_)
      exact f_cut (_) rfl ⟨by rw [decide_eq_decide]; exact ⟨fun h hk => by have := hk.2; omega, fun h => by have : ¬ (laidB x).length ≤ 800 := fun h2 => h ⟨hf, h2⟩; omega⟩, hX⟩
  rintro z w4 ⟨rfl, hX⟩
  refine c_if rfl (fun hc => ?_) (fun hc => ?_)
  · refine c_seq ?_
    refine c_region (wl_p I_ok rfl (wl_nil (f_then (c_ret (f_thenR (f_ret1 rfl rfl ?_))))))
    exact ⟨by rw [objE, if_neg hc], hX⟩
  · refine c_skip ?_
    refine f_then (c_seq (c_region (wl_p I_ok rfl (wl_nil (f_then (c_ret (f_ret1 rfl rfl ?_)))))))
    exact ⟨by rw [objE, if_pos (Decidable.not_not.1 hc)], hX⟩

theorem encode_calls (w : World) {x : ObjD} {a : ObjP} (hx : ObjIn x) (hxl : ObjL w x a) (hsx : Short x) :
    CallsV Tryd.prog 11 [.agg (objC x a).toArray] w fun v w' => ∃ q k, v = .tuple #[.slice q (encB x).length k, .int .i64 (objE x)] ∧ Own w' q (encB x).length k 5 1 (bytesU (encB x)) ∧ (∀ b, OwnB q b → w.heap.size ≤ b) ∧ Ext No w w' := by
  refine calls_enter Tryd.func11 rfl rfl rfl rfl ?_
  have hX := Ext.refl No w
  refine c_seq (c_region (wl (st_al I_ok rfl fun b1 w1 hn1 hb1 hE1 => ?_)))
  have fr1 := Nat.le_trans hX.size hn1
  have hX := hX.thenNo hE1
  have hb1 : Blk w1 b1 33 (objC x a) := hb1
  refine wl_p I_ok rfl (wl_nil (f_then (c_seq (c_seq (c_region (wl (st_ldB I_ok hb1 rfl (objC_len hx) (wl (st_call Tryd.call14 rfl rfl rfl rfl rfl rfl (checkObj_calls w1 hx (hxl.extNo hX) hsx) fun v2 w2 hr2 => ?_)))))))))
  obtain ⟨rfl, hE2⟩ := hr2
  have hb1 := hb1.extNo hE2
  have hX := hX.thenNo hE2
  refine wl_p I_ok rfl (wl_nil (f_then (c_seq (c_region (wl_p I_ok rfl (wl_nil (f_then (c_if rfl (fun hc => ?_) (fun hc => ?_)))))))))
  · have hk : ¬ ObjOk x := fun h => hc (if_pos h)
    refine c_seq (c_region (wl_p I_ok rfl (wl_nil (f_then (c_ret (f_thenR (f_ret [_, _] ⟨rfl, rfl, trivial⟩ ?_)))))))
    exact ⟨none, 0, by rw [encB, if_neg hk]; rfl, by rw [encB, if_neg hk]; exact Own.nil _ _ _, noOwn, hX⟩
  · have hk : ObjOk x := (if_zero (by decide)).1 (Decidable.not_not.1 hc)
    refine c_skip (f_then (c_seq (c_region (wl (st_ldB I_ok hb1 rfl (objC_len hx) ?_)))))
    have hX0 := hX
    refine wl (st_call Tryd.call34 rfl rfl rfl rfl rfl rfl (laid_calls w2 hx (hxl.extNo hX) hk.1) fun v3 w3 hr3 => ?_)
    obtain ⟨q, k, rfl, hq, hqn, hE3⟩ := hr3
    have hb1 := hb1.extNo hE3
    have hX := hX.thenNo hE3
    refine wl_p I_ok rfl (wl_nil (f_then (c_ret (f_ret [_, _] ⟨rfl, rfl, trivial⟩ ?_))))
    exact ⟨q, k, by rw [encB, if_pos hk, objE, if_pos hk]; rfl, by rw [encB, if_pos hk]; exact hq, fun b h => Nat.le_trans hX0.size (hqn b h), hX⟩

theorem idObj_calls (w : World) {x : ObjD} {a : ObjP} (hx : ObjIn x) (hxl : ObjL w x a) (hsx : Short x) (hr : Seg w 0 0 (wordsV rootsW)) :
    CallsV Tryd.prog 12 [.agg (objC x a).toArray] w fun v w' => v = .tuple #[.agg (bytesU (idB x)).toArray, .int .i64 (objE x)] ∧ Ext No w w' := by
  refine calls_enter Tryd.func12 rfl rfl rfl rfl ?_
  have hX := Ext.refl No w
  refine c_seq (c_region (wl (st_al I_ok rfl fun b1 w1 hn1 hb1 hE1 => ?_)))
  have fr1 := Nat.le_trans hX.size hn1
  have hX := hX.thenNo hE1
  have hb1 : Blk w1 b1 33 (objC x a) := hb1
  refine wl (st_al I_ok rfl fun b2 w2 hn2 hb2 hE2 => ?_)
  have ne1_2 : b1 ≠ b2 := Nat.ne_of_lt (Nat.lt_of_lt_of_le hb1.lt hn2)
  have fr2 := Nat.le_trans hX.size hn2
  have hb1 := hb1.extNo hE2
  have hX := hX.thenNo hE2
  refine wl_p I_ok rfl (wl_nil (f_then (c_seq (c_region (wl (st_ldB I_ok hb1 rfl (objC_len hx) (wl (st_call Tryd.call11 rfl rfl rfl rfl rfl rfl (encode_calls w2 hx (hxl.extNo hX) hsx) fun v3 w3 hr3 => ?_))))))))
  obtain ⟨q, k, rfl, hq, hqn, hE3⟩ := hr3
  have hb1 := hb1.extNo hE3
  have hb2 := hb2.extNo hE3
  have hX := hX.thenNo hE3
  refine wl_p I_ok rfl (wl_nil (f_then (c_seq (c_seq (c_region (wl_p I_ok rfl (wl_nil (f_then (c_if rfl (fun hc => ?_) (fun hc => ?_))))))))))
  · have hk : ¬ ObjOk x := fun h => hc (if_pos h)
    refine c_seq (c_region (wl (st_bd I_ok rfl trivial (l' := bytesU idZ) idZ_c.symm (wl_p I_ok rfl (wl (st_stW (l' := bytesU idZ) I_ok hb2 rfl rfl rfl rfl OneC.h fun w4 hb2 hE4 hs4 => ?_))))))
    have hb1 := hb1.ext1 hE4 ne1_2
    have hX := hX.thenNew hE4 fr2
    refine wl_p I_ok rfl (wl_nil (f_then (c_ret (f_thenR (f_ret [_, _] ⟨⟨b2, 0, rfl, ld_all I_ok rfl rfl hb2.seg rfl⟩, rfl, trivial⟩ ?_)))))
    exact ⟨by rw [idB, if_neg hk]; rfl, hX⟩
  · have hk : ObjOk x := (if_zero (by decide)).1 (Decidable.not_not.1 hc)
    have hkl := hk.2
    have he : encB x = laidB x := if_pos hk
    rw [he] at hq ⊢
    refine c_skip (f_then (c_seq (c_region (wl_p I_ok rfl (wl (st_call Tryd.call32 rfl rfl rfl rfl rfl rfl (sum_calls w3 hq.sl (by omega) (hr.extNo hX)) fun v5 w5 hr5 => ?_))))))
    obtain ⟨rfl, hE5⟩ := hr5
    have hb1 := hb1.extNo hE5
    have hb2 := hb2.extNo hE5
    have hq := hq.ext hE5 fun _ _ => id
    have hX := hX.thenNo hE5
    refine wl (st_stW (l' := bytesU (sumW (laidB x))) I_ok hb2 rfl rfl (by rw [bytesU_len, sumW_len]) (by rw [bytesU_len, sumW_len]; rfl) OneC.h fun w6 hb2 hE6 hs6 => ?_)
    have hb1 := hb1.ext1 hE6 ne1_2
    have hX := hX.thenNew hE6 fr2
    refine wl_p I_ok rfl (wl_nil (f_then (c_ret (f_ret [_, _] ⟨⟨b2, 0, rfl, ld_all I_ok rfl rfl hb2.seg (by rw [bytesU_len, sumW_len]; rfl)⟩, rfl, trivial⟩ ?_))))
    exact ⟨by rw [idB, if_pos hk, objE, if_pos hk]; rfl, hX⟩
theorem one_idS {w : World} {b : Nat} {r : List UInt8} (h : IdIn r) (hb : Blk w b 26 (bytesU r)) : Sl w (some ⟨b, 0, none⟩) 1 32 (bytesU r) := ⟨h.len, .inr ⟨b, 0, rfl, hb.seg⟩⟩
theorem links_calls (w : World) {x : ObjD} {a : ObjP} (hx : ObjIn x) (hxl : ObjL w x a) (hsx : Short x) :
    CallsV Tryd.prog 13 [.agg (objC x a).toArray] w fun v w' => ∃ q k, v = .slice q (linksB x).length k ∧ Own w' q (linksB x).length k 26 32 ((linksB x).flatMap bytesU) ∧ (∀ b, OwnB q b → w.heap.size ≤ b) ∧ Ext No w w' := by
  refine calls_enter Tryd.func13 rfl rfl rfl rfl ?_
  have hX := Ext.refl No w
  refine c_seq (c_region (wl (st_al I_ok rfl fun b1 w1 hn1 hb1 hE1 => ?_)))
  have fr1 := Nat.le_trans hX.size hn1
  have hX := hX.thenNo hE1
  have hb1 : Blk w1 b1 33 (objC x a) := hb1
  refine wl_p I_ok rfl (wl_nil (f_then (c_seq (c_seq (c_region (wl (st_ldB I_ok hb1 rfl (objC_len hx) (wl (st_call Tryd.call14 rfl rfl rfl rfl rfl rfl (checkObj_calls w1 hx (hxl.extNo hX) hsx) fun v2 w2 hr2 => ?_)))))))))
  obtain ⟨rfl, hE2⟩ := hr2
  have hb1 := hb1.extNo hE2
  have hX := hX.thenNo hE2
  refine wl_p I_ok rfl (wl_nil (f_then (c_if rfl (fun hc => ?_) (fun hc => ?_))))
  · have hk : ¬ ObjOk x := fun h => hc (if_pos h)
    refine c_seq (c_region (wl_p I_ok rfl (wl_nil (f_then (c_ret (f_thenR (f_ret1 rfl rfl ?_)))))))
    exact ⟨none, 0, by rw [linksB, if_neg hk]; rfl, by rw [linksB, if_neg hk]; exact Own.nil _ _ _, noOwn, hX⟩
  · have hk : ObjOk x := (if_zero (by decide)).1 (Decidable.not_not.1 hc)
    have he : linksB x = linksOf x := if_pos hk
    refine c_skip (f_then (c_seq (c_region (wl_p I_ok rfl (wl_nil (f_then ?_))))))
    refine c_cutK (α := Option Addr × Nat) [] rfl (fun z => [(3, .slice z.1 (linksOf x).length z.2)]) (fun z u => (Own u z.1 (linksOf x).length z.2 26 32 ((linksOf x).flatMap bytesU) ∧ ∀ b, OwnB z.1 b → w.heap.size ≤ b) ∧ Ext No w u) ?_ ?_
    · refine c_seq ?_
      refine c_region (wl_p I_ok rfl (wl (st_ld I_ok rfl (hb1.seg.obj hx).kind (wl_nil (f_then (c_block (c_seq (c_region (wl_p I_ok rfl (wl_nil (f_then (c_if rfl (fun hc => ?_) (fun hc => ?_)))))))))))))
      · have h2 : x.kind = 2 := hc
        refine c_seq (c_region (wl_p I_ok rfl (wl (st_ld I_ok rfl (hb1.seg.obj hx).leaves (wl_p I_ok rfl (wl_nil (f_then (c_block ?_))))))))
        refine c_loopK (α := Nat × Option Addr × Nat) [14, 15] rfl (fun z => [(3, .slice z.2.1 z.1 z.2.2), (16, .int .i64 (z.1 : Int))]) (fun z u => (z.1 ≤ x.leaves.length ∧ Own u z.2.1 z.1 z.2.2 26 32 (((x.leaves.take z.1).map LeafD.id).flatMap bytesU) ∧ (∀ y, OwnB z.2.1 y → w.heap.size ≤ y)) ∧ Ext No w u) (fun z u => x.leaves.length - z.1) (0, none, 0) rfl ⟨⟨Nat.zero_le _, Own.nil _ _ _, noOwn⟩, hX⟩ ?_
        rintro ⟨i, q, k⟩ w3 ⟨⟨hi, hq, hqn⟩, hX⟩
        try dsimp only
        dsimp only at hi hq hqn
        refine c_seq (c_region (wl_p I_ok rfl (wl_nil (f_then (c_seq (c_if rfl (fun hc => ?_) (fun hc => ?_)))))))
        · have hi : i < x.leaves.length := by omega
          obtain ⟨qb, qoff, hp, hsq⟩ := hxl.leaves.rowAll (fun r hr => LeafD.len (hx.leaves r hr).2) (by omega)
          rw [hp]
          have hll := hsx.leaves
          have ha1 := hx.leaves _ (List.getElem_mem hi)
          refine c_skip (f_then (c_seq (c_block (c_seq (c_region (wl (st_ix I_ok rfl 33 rfl i rfl (by omega) (qoff + i * 33) rfl (wl (st_ldN I_ok rfl ((hsq i hi).extNo hX) (LeafD.len ha1.2) (wl (st_al I_ok rfl fun b5 w4 hn5 hb5 hE4 => ?_)))))))))))
          have fr5 := Nat.le_trans hX.size hn5
          have hq := hq.ext hE4 fun _ _ => id
          have hX := hX.thenNo hE4
          have hb5o := hb5
          refine wl (st_stW (l' := (x.leaves[i]).cells) I_ok hb5 rfl rfl (LeafD.len ha1.2) (LeafD.len ha1.2) OneC.h fun w5 hb5 hE5 hs5 => ?_)
          have hq := hq.extTy hE5 hb5o (by decide)
          have hX := hX.thenNew hE5 fr5
          refine wl_nil (f_then (c_region (wl_p I_ok rfl (wl (st_ldN I_ok rfl (by have := hb5.seg.drop 1; exact this) (IdIn.len ha1.2) ?_)))))
          have ha5 : IdIn (x.leaves[i]).id := ha1.2
          refine wl (st_bs I_ok rfl 32 rfl idZ_c.symm (by rw [bytesU_len]; rfl) (by decide) (by decide) ⟨⟨by rw [cellsOf_agg]; exact (IdIn.len ha1.2), by decide⟩, trivial⟩ (l' := bytesU (x.leaves[i]).id) (one_id ha1.2) fun b23 w6 hn23 hb23 hE6 hs6 => ?_)
          have ne5_23 : b5 ≠ b23 := Nat.ne_of_lt (Nat.lt_of_lt_of_le hb5.lt hn23)
          have fr23 := Nat.le_trans hX.size hn23
          have hb5 := hb5.extNo hE6
          have hq := hq.ext hE6 fun _ _ => id
          have hX := hX.thenNo hE6
          have hX0 := hX
          refine wl (st_app I_ok rfl 32 32 rfl rfl rfl (by decide) hq (Src.slice (m := 1) (one_idS ha5 hb23) OneC.h) (by dsimp only [maxLen]; omega) (by dsimp only; omega) fun p7 c7 w7 ho7 hE7 hB7 => ?_)
          dsimp only at ho7 hE7 hB7 ⊢
          have hX := hX0.trans hE7 fun y hy hF => by have := hqn y hF; omega
          have hqn2 := newW hX0 hqn hB7
          have hq2 : Own w7 p7 (i + 1) c7 26 32 (((x.leaves.take (i + 1)).map LeafD.id).flatMap bytesU) := by
            have e1 : ((x.leaves.take (i + 1)).map LeafD.id).flatMap bytesU = ((x.leaves.take i).map LeafD.id).flatMap bytesU ++ bytesU (x.leaves[i]).id := by
              rw [List.take_succ_eq_append_getElem hi, List.map_append, List.flatMap_append]
              simp
            rw [e1]
            exact ho7
          refine wl_p I_ok rfl (wl_nil (f_blockN (f_then (c_region (wl_p I_ok rfl ?_)))))
          rw [IntWalk.i64_in _ (by omega)]
          refine wl_nil ?_
          exact f_round (i + 1, p7, c7) rfl ⟨⟨hi, hq2, hqn2⟩, hX⟩ (by first | omega | (dsimp only; omega))
        · have h0 : i = x.leaves.length := by omega
          subst h0
          rw [List.take_length] at hq
          have e2 : linksOf x = x.leaves.map LeafD.id := by rw [linksOf, if_pos h2]
          have e3 : (linksOf x).length = x.leaves.length := by rw [e2, List.length_map]
          refine c_exit ?_
          exact f_thenE (f_thenE (f_blockE (f_blockN (f_cut (q, k) (by rw [e3]; rfl) ⟨⟨by rw [e3, e2]; exact hq, hqn⟩, hX⟩))))
      · have h2 : ¬ x.kind = 2 := hc
        refine c_seq (c_region (wl_p I_ok rfl (wl_nil (f_then (c_if rfl (fun hc => ?_) (fun hc => ?_))))))
        · have h3 : x.kind = 3 := hc
          have hpl := hsx.parents
          have e2 : linksOf x = x.tree :: x.parents := by rw [linksOf, if_neg h2, if_pos h3]
          have e3 : 1 + x.parents.length = (linksOf x).length := by rw [e2, List.length_cons]; omega
          refine c_draw rfl 9 [(0, true), (1, true), (2, true), (5, true), (6, true), (3, false), (4, false), (7, false), (8, true)] [] (No) (by kernel_rfl) fun w8 hE8 hs8 => ?_
          have hd1 := hb1
          have hXd := hX
          have hb1 := hb1.extNo hE8
          have hX := hX.thenNo hE8
          have hC : Ext (No) _ w8 := hE8.no
          refine wd_k I_ok 2 rfl (wd_ldN I_ok rfl rfl (fun w' hw' => ((hd1.extNo hw').seg.obj hx).tree) (IdIn.len hx.tree) ?_)
          refine wd_k I_ok 1 rfl (wd_ld I_ok rfl rfl (fun w' hw' => ((hd1.extNo hw').seg.obj hx).parents) ?_)
          have ha5 : IdIn x.tree := hx.tree
          refine wd_l rfl (st_bs I_ok rfl 32 rfl idZ_c.symm (by rw [bytesU_len]; rfl) (by decide) (by decide) ⟨⟨by rw [cellsOf_agg]; exact (IdIn.len hx.tree), by decide⟩, trivial⟩ (l' := bytesU x.tree) (one_id hx.tree) fun b31 w9 hn31 hb31 hE9 hs9 => ⟨hC.thenNo hE9, ?_⟩)
          have ne1_31 : b1 ≠ b31 := Nat.ne_of_lt (Nat.lt_of_lt_of_le hb1.lt hn31)
          have fr31 := Nat.le_trans hX.size hn31
          have hb1 := hb1.extNo hE9
          have hX := hX.thenNo hE9
          have hC := hC.thenNo hE9
          have hX0 := hX
          have hC0 := hC
          refine wd_l rfl (st_app I_ok rfl 32 32 rfl rfl rfl (by decide) (Own.nil _ _ _) (Src.slice (m := 1) (one_idS ha5 hb31) OneC.h) (by dsimp only [maxLen]; omega) (by dsimp only; omega) fun p10 c10 w10 ho10 hE10 hB10 => ⟨hC.trans hE10 (fun y hy hF => (by cases hF)), ?_⟩)
          have hC := hC.trans hE10 (fun y hy hF => (by cases hF))
          dsimp only at ho10 hE10 hB10 ⊢
          have hX := hX0.trans hE10 fun y hy hF => by cases hF
          have hn1 : ∀ y, OwnB p10 y → w.heap.size ≤ y := fun y hy => (hB10 y hy).elim (fun h => by cases h) fun h => Nat.le_trans hX0.size h
          have hnc : ∀ y, OwnB p10 y → _ := fun y hy => (hB10 y hy).elim (fun h => by cases h) fun h => Nat.le_trans hC0.size h
          have ho1 : Own w10 p10 1 c10 26 32 (bytesU x.tree) := by have := ho10; rw [List.nil_append] at this; exact this
          have hX0 := hX
          refine wd_l rfl (st_app I_ok rfl 32 32 rfl rfl rfl (by decide) ho1 (Src.slice (hxl.parents.extNo hX) OneC.h) (by dsimp only [maxLen]; omega) (by dsimp only; omega) fun p11 c11 w11 ho11 hE11 hB11 => ⟨hC.trans hE11 (fun y hy hF => (by have := hnc y hF; omega)), ?_⟩)
          have hC := hC.trans hE11 (fun y hy hF => (by have := hnc y hF; omega))
          dsimp only at ho11 hE11 hB11 ⊢
          have hX := hX0.trans hE11 fun y hy hF => by have := hn1 y hF; omega
          have hqn2 := newW hX0 hn1 hB11
          rw [e3] at ho11 ⊢
          refine wd_k I_ok 1 rfl (wd_sw (wb_nil ?_))
          exact f_blockN (f_cut (p11, c11) rfl ⟨⟨by rw [show (linksOf x).flatMap bytesU = bytesU x.tree ++ x.parents.flatMap bytesU from by rw [e2]; rfl]; exact ho11, hqn2⟩, hX⟩)
        · have h3 : ¬ x.kind = 3 := hc
          have e2 : linksOf x = [] := by rw [linksOf, if_neg h2, if_neg h3]
          refine c_skip ?_
          exact f_blockN (f_cut (none, 0) (by rw [e2]; rfl) ⟨⟨by rw [e2]; exact Own.nil _ _ _, noOwn⟩, hX⟩)
    rintro ⟨q, k⟩ w12 ⟨⟨hq, hqn⟩, hX⟩
    try dsimp only
    dsimp only at hq hqn
    refine c_seq (c_region (wl_p I_ok rfl (wl_nil (f_then (c_ret (f_ret1 rfl rfl ?_))))))
    exact ⟨q, k, by rw [he], by rw [he]; exact hq, hqn, hX⟩
end Go.Proofs.YtjghckniloikgaaDoor
namespace Go.Vc
theorem objC_tree {o : ObjD} {a : ObjP} (h : ObjIn o) {t : List UInt8} (ht : t.length = 32) : put (objC o a) 4 (bytesU t) = objC { o with tree := t } a := by
  rw [put_eq _ _ _ (by rw [objC_len h, bytesU_len, ht]; decide), bytesU_len, ht]
  simp only [objC]
  rw [List.take_left' (by rfl), List.append_assoc, ← List.drop_drop, List.drop_left' (by rfl), List.drop_left' (by rw [bytesU_len, h.tree])]
theorem objC_base {o : ObjD} {a : ObjP} (h : ObjIn o) {t : List UInt8} (ht : t.length = 32) : put (objC o a) 36 (bytesU t) = objC { o with base := t } a := by
  rw [put_eq _ _ _ (by rw [objC_len h, bytesU_len, ht]; decide), bytesU_len, ht]
  simp only [objC]
  rw [← List.append_assoc, List.take_left' (by rw [List.length_append, bytesU_len, h.tree]; rfl), List.append_assoc, List.append_assoc, ← List.drop_drop, ← List.append_assoc, List.drop_left' (by rw [List.length_append, bytesU_len, h.tree]; rfl), List.drop_left' (by rw [bytesU_len, h.base])]
  simp only [List.append_assoc]
theorem objC_set {o : ObjD} {a : ObjP} (h : ObjIn o) (i : Nat) (v : Value) : (objC o a).set (68 + i) v =
    [.int .i64 o.kind, strV o.text, .slice a.lp o.leaves.length a.lc, .int .i64 o.style] ++ (bytesU o.tree ++ (bytesU o.base ++
      ([.slice a.pp o.parents.length a.pc, .slice a.rp o.rows.length a.rc, .int .u32 (o.number : Int), .int .u32 (o.author : Int), strV o.note] : List Value).set i v)) := by
  have e1 : 68 + i - 4 - 32 - 32 = i := by omega
  rw [objC, List.set_append_right _ _ (by simp; omega), List.set_append_right _ _ (by rw [bytesU_len, h.tree]; simp; omega), List.set_append_right _ _ (by rw [bytesU_len, bytesU_len, h.tree, h.base]; simp; omega), bytesU_len, bytesU_len, h.tree, h.base]
  rw [show 68 + i - ([.int .i64 o.kind, strV o.text, .slice a.lp o.leaves.length a.lc, .int .i64 o.style] : List Value).length - 32 - 32 = i from e1]
theorem Ds.num_lt (s : Ds) (n : Nat) : num (s.off n).1 < 256 ^ n :=
  Nat.lt_of_lt_of_le (Vc.num_lt _) (Nat.pow_le_pow_right (by decide) (s.off_len n).1)
end Go.Vc
namespace Go.Proofs.YtjghckniloikgaaDoor
open Go.Vc
theorem bytesEqual_calls (w : World) {p q : Option Addr} {c d : Nat} {l m : List UInt8} (h : SlB w p l) (h' : SlB w q m) :
    CallsV Tryd.prog 17 [.slice p l.length c, .slice q m.length d] w fun v w' => v = .bool (decide (l = m)) ∧ w' = w := by
  refine calls_enter Tryd.func17 rfl rfl rfl rfl ?_
  have hX := Ext.refl No w
  refine c_seq (c_region (wl_p I_ok rfl (wl_nil (f_then (c_seq (c_region (wl_p I_ok rfl (wl (st_b2s I_ok rfl rfl h (wl_p I_ok rfl (wl (st_b2s I_ok rfl rfl h' (wl_p I_ok rfl (wl_nil (f_then (c_ret (f_ret1 rfl rfl ?_)))))))))))))))))
  exact ⟨congrArg Value.bool (decide_eq_decide.2 str_iff), rfl⟩
/-- a reader that has been taken off so far -/
def RdS (w : World) (rb : Nat) (s : Ds) : Prop := Rd w rb s.rest s.err
theorem off_eq (s : Ds) (n : Nat) : offR s.rest s.err (n : Int) = ((s.off n).1, (s.off n).2.rest, (s.off n).2.err) := by
  obtain ⟨l, b⟩ := s
  cases b with
  | true => simp [offR, Ds.err, Ds.off]
  | false =>
    by_cases h : l.length < n
    · have h2 : ¬ (n : Int) < 0 := by omega
      have h3 : (l.length : Int) < n := by omega
      simp [offR, Ds.err, Ds.off, h, h2]
    · have h2 : ¬ (n : Int) < 0 := by omega
      have h3 : ¬ (l.length : Int) < n := by omega
      simp [offR, Ds.err, Ds.off, h, h2]
theorem RdS.extNo {w w' : World} {rb : Nat} {s : Ds} (h : RdS w rb s) (hE : Ext No w w') : RdS w' rb s := Rd.extNo h hE
theorem RdS.ne {w : World} {rb : Nat} {s : Ds} (h : RdS w rb s) {b T : Nat} {L : List Value} (hb : Blk w b T L) (hT : 133 ≠ T) : rb ≠ b := Rd.ne h hb hT
theorem RdS.ext1 {w w' : World} {rb : Nat} {s : Ds} (h : RdS w rb s) {x T : Nat} {L : List Value} (hE : Ext (One x) w w') (hb : Blk w x T L) (h1 : 133 ≠ T) (h2 : 5 ≠ T) : RdS w' rb s :=
  Rd.ext h hE (fun e => h.ne hb h1 e) fun _b _L hL e => hL.ne hb h2 e
theorem RdS.err {w : World} {rb : Nat} {s : Ds} (h : RdS w rb s) : CallsV Tryd.prog 50 [.pointer (some ⟨rb, 0, none⟩)] w fun v w' => v = .int .i64 s.err ∧ w' = w := err_calls w h
theorem RdS.u8 {w : World} {rb : Nat} {s : Ds} (h : RdS w rb s) (hl : s.rest.length < 1000000000) : CallsV Tryd.prog 41 [.pointer (some ⟨rb, 0, none⟩)] w fun v w' => v = .int .u8 ((num (s.off 1).1 : Nat) : Int) ∧ RdS w' rb (s.off 1).2 ∧ Ext (One rb) w w' :=
  ((u8_calls w h hl)).mono fun v w' ⟨h1, h2, h3⟩ => by
    have e := off_eq s 1
    rw [show offR s.rest s.err 1 = _ from e] at h1 h2
    exact ⟨h1, h2, h3⟩
theorem RdS.u16 {w : World} {rb : Nat} {s : Ds} (h : RdS w rb s) (hl : s.rest.length < 1000000000) : CallsV Tryd.prog 81 [.pointer (some ⟨rb, 0, none⟩)] w fun v w' => v = .int .u16 ((num (s.off 2).1 : Nat) : Int) ∧ RdS w' rb (s.off 2).2 ∧ Ext (One rb) w w' :=
  ((u16_calls w h hl)).mono fun v w' ⟨h1, h2, h3⟩ => by
    have e := off_eq s 2
    rw [show offR s.rest s.err 2 = _ from e] at h1 h2
    exact ⟨h1, h2, h3⟩
theorem RdS.u32 {w : World} {rb : Nat} {s : Ds} (h : RdS w rb s) (hl : s.rest.length < 1000000000) : CallsV Tryd.prog 49 [.pointer (some ⟨rb, 0, none⟩)] w fun v w' => v = .int .u32 ((num (s.off 4).1 : Nat) : Int) ∧ RdS w' rb (s.off 4).2 ∧ Ext (One rb) w w' :=
  ((u32_calls w h hl)).mono fun v w' ⟨h1, h2, h3⟩ => by
    have e := off_eq s 4
    rw [show offR s.rest s.err 4 = _ from e] at h1 h2
    exact ⟨h1, h2, h3⟩
theorem RdS.raw {w : World} {rb : Nat} {s : Ds} (h : RdS w rb s) (hl : s.rest.length < 1000000000) (n : Nat) : CallsV Tryd.prog 80 [.pointer (some ⟨rb, 0, none⟩), .int .i64 (n : Int)] w fun v w' => ∃ q c, v = .slice q (s.off n).1.length c ∧ SlB w' q (s.off n).1 ∧ RdS w' rb (s.off n).2 ∧ Ext (One rb) w w' :=
  ((raw_calls w h hl n)).mono fun v w' ⟨q, c, h1, h2, h3, h4⟩ => by
    have e := off_eq s n
    rw [e] at h1 h2 h3
    exact ⟨q, c, h1, h2, h3, h4⟩
theorem small_rd (w : World) {rb : Nat} {s : Ds} (h : RdS w rb s) (hl : s.rest.length < 1000000000) :
    CallsV Tryd.prog 45 [.agg #[.pointer (some ⟨rb, 0, none⟩)]] w fun v w' => v = strV (s.str 1).1 ∧ RdS w' rb (s.str 1).2 ∧ Ext (One rb) w w' := by
  refine calls_enter Tryd.func45 rfl rfl rfl rfl ?_
  have hX := Ext.refl (One rb) w
  refine c_seq (c_region (wl (st_al I_ok rfl fun b1 w1 hn1 hb1 hE1 => ?_)))
  have fr1 := Nat.le_trans hX.size hn1
  have hX := hX.thenNo hE1
  have hb1 : Blk w1 b1 89 ([.pointer (some ⟨rb, 0, none⟩)]) := hb1
  have hR := h.extNo hE1
  have hr1 := (hR.ne hb1 (by decide)).symm
  refine wl_p I_ok rfl (wl_nil (f_then (c_seq (c_draw rfl 9 [(0, true), (1, true), (2, true), (3, true), (4, false), (5, true), (6, false), (7, false), (8, true)] [] (One rb) (by kernel_rfl) fun w2 hE2 hs2 => ?_))))
  have hd1 := hb1
  have hXd := hX
  have hb1 := hb1.extNo hE2
  have hX := hX.thenNo hE2
  have hC : Ext (One rb) _ w2 := hE2.no
  have hR := hR.extNo hE2
  have hol := s.off_len 1
  have hnm := s.num_lt 1
  refine wd_k I_ok 1 rfl (wd_ld I_ok rfl rfl (fun w' hw' => ((hd1.ext (show Ext (One rb) _ w' from hw') hr1).cell rfl)) ?_)
  refine wd_k I_ok 1 rfl (wd_ld I_ok rfl rfl (fun w' hw' => ((hd1.ext (show Ext (One rb) _ w' from hw') hr1).cell rfl)) ?_)
  refine wd_l rfl (st_call Tryd.call41 rfl rfl rfl rfl rfl rfl (hR.u8 hl) fun v3 w3 hr3 => ⟨(by obtain ⟨rfl, hR1, hE3⟩ := hr3; exact hC.then hE3), ?_⟩)
  obtain ⟨rfl, hR1, hE3⟩ := hr3
  have hb1 := hb1.ext1 hE3 hr1
  have hX := hX.then hE3
  have hC := hC.then hE3
  refine wd_k I_ok 1 rfl ?_
  rw [IntWalk.i64_in _ (by omega)]
  refine wd_l rfl (st_call Tryd.call80 rfl rfl rfl rfl rfl rfl (hR1.raw (by omega) (num (s.off 1).1)) fun v4 w4 hr4 => ⟨(by obtain ⟨q, c, rfl, hq, hR2, hE4⟩ := hr4; exact hC.then hE4), ?_⟩)
  obtain ⟨q, c, rfl, hq, hR2, hE4⟩ := hr4
  have hb1 := hb1.ext1 hE4 hr1
  have hX := hX.then hE4
  have hC := hC.then hE4
  refine wd_l rfl (st_b2s I_ok rfl rfl hq ⟨hC, ?_⟩)
  refine wd_k I_ok 1 rfl (wd_sw (wb_nil (f_then (c_ret (f_ret1 rfl rfl ?_)))))
  exact ⟨rfl, hR2, hX⟩

theorem text_rd (w : World) {rb : Nat} {s : Ds} (h : RdS w rb s) (hl : s.rest.length < 1000000000) :
    CallsV Tryd.prog 42 [.agg #[.pointer (some ⟨rb, 0, none⟩)]] w fun v w' => v = strV (s.str 2).1 ∧ RdS w' rb (s.str 2).2 ∧ Ext (One rb) w w' := by
  refine calls_enter Tryd.func42 rfl rfl rfl rfl ?_
  have hX := Ext.refl (One rb) w
  refine c_seq (c_region (wl (st_al I_ok rfl fun b1 w1 hn1 hb1 hE1 => ?_)))
  have fr1 := Nat.le_trans hX.size hn1
  have hX := hX.thenNo hE1
  have hb1 : Blk w1 b1 89 ([.pointer (some ⟨rb, 0, none⟩)]) := hb1
  have hR := h.extNo hE1
  have hr1 := (hR.ne hb1 (by decide)).symm
  refine wl_p I_ok rfl (wl_nil (f_then (c_seq (c_draw rfl 9 [(0, true), (1, true), (2, true), (3, true), (4, false), (5, true), (6, false), (7, false), (8, true)] [] (One rb) (by kernel_rfl) fun w2 hE2 hs2 => ?_))))
  have hd1 := hb1
  have hXd := hX
  have hb1 := hb1.extNo hE2
  have hX := hX.thenNo hE2
  have hC : Ext (One rb) _ w2 := hE2.no
  have hR := hR.extNo hE2
  have hol := s.off_len 2
  have hnm := s.num_lt 2
  refine wd_k I_ok 1 rfl (wd_ld I_ok rfl rfl (fun w' hw' => ((hd1.ext (show Ext (One rb) _ w' from hw') hr1).cell rfl)) ?_)
  refine wd_k I_ok 1 rfl (wd_ld I_ok rfl rfl (fun w' hw' => ((hd1.ext (show Ext (One rb) _ w' from hw') hr1).cell rfl)) ?_)
  refine wd_l rfl (st_call Tryd.call81 rfl rfl rfl rfl rfl rfl (hR.u16 hl) fun v3 w3 hr3 => ⟨(by obtain ⟨rfl, hR1, hE3⟩ := hr3; exact hC.then hE3), ?_⟩)
  obtain ⟨rfl, hR1, hE3⟩ := hr3
  have hb1 := hb1.ext1 hE3 hr1
  have hX := hX.then hE3
  have hC := hC.then hE3
  refine wd_k I_ok 1 rfl ?_
  rw [IntWalk.i64_in _ (by omega)]
  refine wd_l rfl (st_call Tryd.call80 rfl rfl rfl rfl rfl rfl (hR1.raw (by omega) (num (s.off 2).1)) fun v4 w4 hr4 => ⟨(by obtain ⟨q, c, rfl, hq, hR2, hE4⟩ := hr4; exact hC.then hE4), ?_⟩)
  obtain ⟨q, c, rfl, hq, hR2, hE4⟩ := hr4
  have hb1 := hb1.ext1 hE4 hr1
  have hX := hX.then hE4
  have hC := hC.then hE4
  refine wd_l rfl (st_b2s I_ok rfl rfl hq ⟨hC, ?_⟩)
  refine wd_k I_ok 1 rfl (wd_sw (wb_nil (f_then (c_ret (f_ret1 rfl rfl ?_)))))
  exact ⟨rfl, hR2, hX⟩

end Go.Proofs.YtjghckniloikgaaDoor
namespace Go.Proofs.YtjghckniloikgaaDoor
open Go.Vc
theorem idZ_fill {t : List UInt8} (h : t.length ≤ 32) : put (bytesU idZ) 0 (bytesU t) = bytesU (t ++ List.replicate (32 - t.length) 0) := by
  rw [put_eq _ _ _ (by rw [bytesU_len, bytesU_len]; simpa using h), bytesU_append]
  simp [bytesU_drop, bytesU_len]
theorem id_rd (w : World) {rb : Nat} {s : Ds} (h : RdS w rb s) (hl : s.rest.length < 1000000000) :
    CallsV Tryd.prog 46 [.agg #[.pointer (some ⟨rb, 0, none⟩)]] w fun v w' => v = .agg (bytesU s.id.1).toArray ∧ RdS w' rb s.id.2 ∧ Ext (One rb) w w' := by
  refine calls_enter Tryd.func46 rfl rfl rfl rfl ?_
  have hX := Ext.refl (One rb) w
  refine c_seq (c_region (wl (st_al I_ok rfl fun b1 w1 hn1 hb1 hE1 => ?_)))
  have fr1 := Nat.le_trans hX.size hn1
  have hX := hX.thenNo hE1
  have hb1 : Blk w1 b1 89 ([.pointer (some ⟨rb, 0, none⟩)]) := hb1
  have hR := h.extNo hE1
  have hr1 := (hR.ne hb1 (by decide)).symm
  refine wl (st_al I_ok rfl fun b2 w2 hn2 hb2 hE2 => ?_)
  have ne1_2 : b1 ≠ b2 := Nat.ne_of_lt (Nat.lt_of_lt_of_le hb1.lt hn2)
  have fr2 := Nat.le_trans hX.size hn2
  have hb1 := hb1.extNo hE2
  have hX := hX.thenNo hE2
  have hb2 : Blk w2 b2 26 (bytesU idZ) := (by rw [idZ_c]; exact hb2)
  have hR := hR.extNo hE2
  have hr2 := (hR.ne hb2 (by decide)).symm
  refine wl_nil (f_then (c_seq (c_draw rfl 5 [(0, true), (1, true), (2, true), (3, false), (4, false)] [] ((fun x => x = rb ∨ x = b2)) (by kernel_rfl) fun w3 hE3 hs3 => ?_)))
  have hd1 := hb1
  have hd2 := hb2
  have hXd := hX
  have hb1 := hb1.extNo hE3
  have hb2 := hb2.extNo hE3
  have hX := hX.thenNo hE3
  have hC : Ext ((fun x => x = rb ∨ x = b2)) _ w3 := hE3.no
  have hR := hR.extNo hE3
  have hol := s.off_len 32
  refine wd_sa I_ok rfl rfl 0 32 32 1 rfl ⟨.inr ⟨rfl, rfl⟩, .inr ⟨rfl, rfl⟩, .inr ⟨rfl, rfl⟩, by decide, by decide, by decide⟩ ?_
  rw [slBase_zero, Nat.sub_zero]
  refine wd_k I_ok 1 rfl (wd_ld I_ok rfl rfl (fun w' hw' => ((hd1.ext (show Ext (fun x => x = rb ∨ x = b2) _ w' from hw') fun e => e.elim hr1 ne1_2).cell rfl)) ?_)
  refine wd_l rfl (st_call Tryd.call80 rfl rfl rfl rfl rfl rfl (hR.raw hl 32) fun v4 w4 hr4 => ⟨(by obtain ⟨q, c, rfl, hq, hR2, hE4⟩ := hr4; exact hC.then (hE4.mono fun _ _ e => .inl e)), ?_⟩)
  obtain ⟨q, c, rfl, hq, hR2, hE4⟩ := hr4
  have hb1 := hb1.ext1 hE4 hr1
  have hb2 := hb2.ext1 hE4 hr2
  have hX := hX.then hE4
  have hC := hC.then (hE4.mono fun _ _ e => .inl e)
  have hb2o := hb2
  refine wd_l rfl (st_cp I_ok rfl 1 rfl hb2 (Src.slice hq OneC.h) hol.1 (by rw [bytesU_len]; dsimp only; have := hol.1; simp; omega) fun w5 hc5 hE5 hs5 => ⟨hC.then (hE5.mono fun _ _ e => .inr e), ?_⟩)
  have hC := hC.then (hE5.mono fun _ _ e => .inr e)
  have hb1 := hb1.ext1 hE5 ne1_2
  have hb2 : Blk w5 b2 26 (bytesU s.id.1) := by rw [Ds.id, ← idZ_fill hol.1]; exact hc5
  have hX := hX.thenNew hE5 fr2
  have hR3 := hR2.ext1 hE5 hb2o (by decide) (by decide)
  refine wd_sw (wb_nil (f_then (c_seq (c_region (wl (st_ldB I_ok hb2 rfl (by rw [bytesU_len, s.id_len.1]) ?_))))))
  have hb2o := hb2
  refine wl (st_stW (l' := bytesU s.id.1) I_ok hb2 rfl rfl (by rw [bytesU_len, s.id_len.1]) rfl OneC.h fun w6 hb2 hE6 hs6 => ?_)
  have hb1 := hb1.ext1 hE6 ne1_2
  have hX := hX.thenNew hE6 fr2
  have hR4 := hR3.ext1 hE6 hb2o (by decide) (by decide)
  refine wl_nil (f_then (c_ret (f_ret [_] ⟨⟨b2, 0, rfl, ld_all I_ok rfl rfl hb2.seg (by rw [bytesU_len, s.id_len.1]; rfl)⟩, trivial⟩ ?_)))
  exact ⟨rfl, hR4, hX⟩
abbrev Any : Nat → Prop := fun _ => True
theorem each_len {α : Type} {f : Ds → α × Ds} (hf : ∀ s, (f s).2.rest.length ≤ s.rest.length) : ∀ (n : Nat) (s : Ds), (Ds.each f n s).2.rest.length ≤ s.rest.length
  | 0, s => Nat.le_refl _
  | n + 1, s => by
    rw [Ds.each]
    split
    · exact Nat.le_refl _
    · exact Nat.le_trans (each_len hf n _) (hf s)
theorem each_rd {α : Type} (f : Ds → α × Ds) (w : World) {rb : Nat} {s : Ds} {G : Nat} {cap : Array Value} (hcf : ∀ args w, (callFunc G args).run Tryd.prog w = .ok (.enter G args) w)
    (J : List α → Ds → World → Prop) (hl : s.rest.length < 1000000000)
    (hR : ∀ acc s w, J acc s w → RdS w rb s) (hNo : ∀ acc s w w', J acc s w → Ext No w w' → J acc s w') (hU : ∀ acc s s' w w', J acc s w → RdS w' rb s' → s'.rest.length ≤ s.rest.length → Ext (One rb) w w' → J acc s' w')
    (hstep : ∀ acc s w, J acc s w → s.bad = false → acc.length < 255 → CallsV Tryd.prog G cap.toList w fun v w' => v = .tuple #[] ∧ J (acc ++ [(f s).1]) (f s).2 w' ∧ (∀ b L, Blk w b 89 L → Blk w' b 89 L) ∧ Ext Any w w')
    (h : J [] s w) :
    CallsV Tryd.prog 43 [.agg #[.pointer (some ⟨rb, 0, none⟩)], .func (.func G) #[] cap] w fun v w' => v = .tuple #[] ∧ J (s.row f).1 (s.row f).2 w' ∧ (∀ b L, Blk w b 89 L → Blk w' b 89 L) ∧ Ext Any w w' := by
  refine calls_enter Tryd.func43 rfl rfl rfl rfl ?_
  have hX := Ext.refl Any w
  refine c_seq (c_region (wl (st_al I_ok rfl fun b2 w1 hn2 hb2 hE1 => ?_)))
  have fr2 := Nat.le_trans hX.size hn2
  have hX := hX.thenNo hE1
  have hb2 : Blk w1 b2 89 ([.pointer (some ⟨rb, 0, none⟩)]) := hb2
  have h := hNo _ _ _ _ h hE1
  have hR0 := hR _ _ _ h
  have hkp : ∀ b L, Blk w b 89 L → Blk w1 b 89 L := fun _ _ h => h.extNo hE1
  refine wl_nil (f_then (c_seq (c_region (wl_p I_ok rfl (wl (st_ldb I_ok hb2 rfl rfl (wl (st_call Tryd.call41 rfl rfl rfl rfl rfl rfl (hR0.u8 hl) fun v2 w2 hr2 => ?_))))))))
  obtain ⟨rfl, hR1, hE2⟩ := hr2
  have hb2 := hb2.ext1 hE2 (hR0.ne hb2 (by decide)).symm
  have hX := hX.then (hE2.mono fun _ _ _ => trivial)
  have h := hU _ _ _ _ _ h hR1 (s.off_len 1).2.1 hE2
  have hkp : ∀ b L, Blk w b 89 L → Blk w2 b 89 L := fun b L h => (hkp b L h).ext1 hE2 (hR0.ne (hkp b L h) (by decide)).symm
  have hnm := s.num_lt 1
  refine wl_p I_ok rfl (wl_nil (f_then (c_block ?_)))
  refine c_loopK (α := Nat × List α × Ds) [1, 2] rfl (fun z => [(4, .int .u8 (z.1 : Int))]) (fun z u => (z.2.1.length + z.1 ≤ 255 ∧ J z.2.1 z.2.2 u ∧ s.row f = (z.2.1 ++ (Ds.each f z.1 z.2.2).1, (Ds.each f z.1 z.2.2).2) ∧ ∀ b L, Blk w b 89 L → Blk u b 89 L) ∧ Blk u b2 89 ([.pointer (some ⟨rb, 0, none⟩)]) ∧ Ext Any w u) (fun z u => z.1) (num (s.off 1).1, [], (s.off 1).2) rfl ⟨⟨by dsimp only [List.length_nil]; omega, h, rfl, hkp⟩, hb2, hX⟩ ?_
  rintro ⟨n, acc, d⟩ w3 ⟨⟨hn, h, hrow, hkp⟩, hb2, hX⟩
  try dsimp only
  dsimp only at hn h hrow hkp
  have hR0 := hR _ _ _ h
  refine c_seq (c_cutK (α := Bool) [1, 2, 4] rfl (fun z => [(15, .bool z)]) (fun z u => u = w3 ∧ z = decide (¬ n = 0 ∧ d.bad = false)) ?_ ?_)
  · refine c_region ?_
    refine wl_p I_ok rfl (wl_caseD 10 rfl (fun hg => ?_) (fun hg => ?_))
    · refine wl_pk I_ok 1 rfl ?_
      refine wl (st_ldb I_ok hb2 rfl rfl (wl (st_call Tryd.call50 rfl rfl rfl rfl rfl rfl (hR0.err) fun v4 w4 hr4 => ?_)))
      obtain ⟨rfl, rfl⟩ := hr4
      refine wl_pk I_ok 2 rfl (wl_nil ?_)
      exact f_cut (_) rfl ⟨rfl, by rw [decide_eq_decide]; cases hbd : d.bad; exact ⟨fun _ => ⟨by omega, rfl⟩, fun _ => by rw [Ds.err, hbd]; rfl⟩; exact ⟨fun h => by rw [Ds.err, hbd] at h; exact absurd h (by decide), fun h => absurd h.2 (by decide)⟩⟩
    · refine wl_pk I_ok 5 rfl ?_
      refine wl_nil ?_
      exact f_cut (false) rfl ⟨rfl, by symm; rw [decide_eq_false_iff_not]; exact fun h => h.1 (by omega)⟩
  rintro z w5 ⟨hu, rfl⟩
  have hu := hu.symm
  subst hu
  refine c_if rfl (fun hc => ?_) (fun hc => ?_)
  · obtain ⟨m, rfl⟩ : ∃ m, n = m + 1 := ⟨n - 1, by omega⟩
    rw [Ds.each_step hc.2] at hrow
    refine c_skip (f_then (c_seq (c_block (c_region (wl_p I_ok rfl (wl (st_call hcf rfl rfl rfl rfl rfl rfl (hstep _ _ w3 h hc.2 (by omega)) fun v6 w6 hr6 => ?_)))))))
    obtain ⟨rfl, h, hk1, hE6⟩ := hr6
    have hb2 := hb2 |> hk1 _ _
    have hX := hX.then hE6
    have hkp : ∀ b L, Blk w b 89 L → Blk w6 b 89 L := fun b L h => hk1 b L (hkp b L h)
    refine wl_nil (f_blockN (f_then (c_region (wl_p I_ok rfl ?_))))
    rw [show IntKind.u8.wrap (((m + 1 : Nat) : Int) - 1) = (m : Int) from by rw [IntWalk.u8_in _ (by omega)]; omega]
    refine wl_p I_ok rfl (wl_nil ?_)
    exact f_round (m, acc ++ [(f d).1], (f d).2) rfl ⟨⟨by dsimp only; rw [List.length_append]; simp only [List.length_cons, List.length_nil]; omega, h, by rw [hrow]; simp, hkp⟩, hb2, hX⟩ (by first | omega | (dsimp only; omega))
  · have he : Ds.each f n d = ([], d) := Ds.each_end (by
      by_cases h0 : n = 0
      · exact .inl h0
      · cases hbd : d.bad
        · exact absurd ⟨h0, hbd⟩ hc
        · exact .inr rfl)
    rw [he, List.append_nil] at hrow
    refine c_exit (f_thenE (f_thenE (f_blockE (f_end0 rfl ?_))))
    exact ⟨rfl, by rw [hrow]; exact h, hkp, hX⟩
end Go.Proofs.YtjghckniloikgaaDoor
namespace Go.Proofs.YtjghckniloikgaaDoor
open Go.Vc
structure DecS (W0 w : World) (rb b4 b5 : Nat) (o : ObjD) (a : ObjP) (s : Ds) : Prop where
  rd : RdS w rb s
  bs : Blk w b4 89 [.pointer (some ⟨rb, 0, none⟩)]
  bo : Blk w b5 33 (objC o a)
  ol : Own w a.lp o.leaves.length a.lc 76 33 (o.leaves.flatMap LeafD.cells)
  op : Own w a.pp o.parents.length a.pc 26 32 (o.parents.flatMap bytesU)
  or : Own w a.rp o.rows.length a.rc 82 3 (o.rows.flatMap ChgD.cells)
  nl : ∀ x, OwnB a.lp x → W0.heap.size ≤ x
  np : ∀ x, OwnB a.pp x → W0.heap.size ≤ x
  nr : ∀ x, OwnB a.rp x → W0.heap.size ≤ x
  fr : W0.heap.size ≤ rb
  fo : W0.heap.size ≤ b5
  X : Ext No W0 w
  len : s.rest.length < 1000000000
  oin : ObjIn o
  sh : Short o
section
variable {W0 w w' w1 w2 : World} {rb b4 b5 : Nat} {o : ObjD} {a : ObjP} {s s' : Ds}
theorem RdS.lt (h : RdS w rb s) : rb < w.heap.size := Rd.lt h
theorem DecS.extNo (h : DecS W0 w rb b4 b5 o a s) (hE : Ext No w w') : DecS W0 w' rb b4 b5 o a s :=
  ⟨h.rd.extNo hE, h.bs.extNo hE, h.bo.extNo hE, h.ol.ext hE fun _ _ => id, h.op.ext hE fun _ _ => id, h.or.ext hE fun _ _ => id, h.nl, h.np, h.nr, h.fr, h.fo, h.X.thenNo hE, h.len, h.oin, h.sh⟩
theorem DecS.neR (h : DecS W0 w rb b4 b5 o a s) {b T : Nat} {L : List Value} (hb : Blk w b T L) (hT : 133 ≠ T) : b ≠ rb := (h.rd.ne hb hT).symm
theorem DecS.read (h : DecS W0 w rb b4 b5 o a s) (hR : RdS w' rb s') (hE : Ext (One rb) w w') (hl : s'.rest.length ≤ s.rest.length) : DecS W0 w' rb b4 b5 o a s' := by
  have rt : ∀ {x T : Nat} {L : List Value}, Blk w x T L → 133 ≠ T → Blk w' x T L := fun hb hT => hb.ext1 hE (h.neR hb hT)
  have ow : ∀ {p : Option Addr} {n c T sz : Nat} {xs : List Value}, Own w p n c T sz xs → 133 ≠ T → Own w' p n c T sz xs := fun ho hT => ho.ext hE fun x hx e => by
    have e : x = rb := e
    obtain ⟨l, hl⟩ := ho.blkAt hx
    exact h.neR hl hT e
  exact ⟨hR, rt h.bs (by decide), rt h.bo (by decide), ow h.ol (by decide), ow h.op (by decide), ow h.or (by decide), h.nl, h.np, h.nr, h.fr, h.fo, h.X.trans hE fun y hy hF => by have hF : y = rb := hF; have := h.fr; omega, Nat.lt_of_le_of_lt hl h.len, h.oin, h.sh⟩
/-- a block that has come since is none of these -/
structure Sep (W0 : World) (rb b4 b5 : Nat) (a : ObjP) (x : Nat) : Prop where
  r : rb ≠ x
  s : b4 ≠ x
  o : b5 ≠ x
  l : ¬ OwnB a.lp x
  p : ¬ OwnB a.pp x
  c : ¬ OwnB a.rp x
  n : W0.heap.size ≤ x
theorem DecS.sep (h : DecS W0 w rb b4 b5 o a s) {x : Nat} (hx : w.heap.size ≤ x) : Sep W0 rb b4 b5 a x :=
  ⟨by have := h.rd.lt; omega, by have := h.bs.lt; omega, by have := h.bo.lt; omega, fun e => by have := h.ol.lt e; omega, fun e => by have := h.op.lt e; omega, fun e => by have := h.or.lt e; omega, Nat.le_trans h.X.size hx⟩
theorem DecS.ext1 (h : DecS W0 w rb b4 b5 o a s) {x T : Nat} {L : List Value} (hs : Sep W0 rb b4 b5 a x) (hb : Blk w x T L) (hT : 5 ≠ T) (hE : Ext (One x) w w') : DecS W0 w' rb b4 b5 o a s :=
  ⟨Rd.ext h.rd hE hs.r fun b L hL e => hL.ne hb hT e, h.bs.ext1 hE hs.s, h.bo.ext1 hE hs.o, h.ol.ext hE fun y hy e => by have e : y = x := e; subst e; exact hs.l hy, h.op.ext hE fun y hy e => by have e : y = x := e; subst e; exact hs.p hy, h.or.ext hE fun y hy e => by have e : y = x := e; subst e; exact hs.c hy,
    h.nl, h.np, h.nr, h.fr, h.fo, h.X.thenNew hE hs.n, h.len, h.oin, h.sh⟩
/-- a field that is no row -/
theorem DecS.put (h : DecS W0 w rb b4 b5 o a s) (hE : Ext (One b5) w w') {o' : ObjD} (hb : Blk w' b5 33 (objC o' a)) (e1 : o'.leaves = o.leaves) (e2 : o'.parents = o.parents) (e3 : o'.rows = o.rows) (hi : ObjIn o') (hs : Short o') : DecS W0 w' rb b4 b5 o' a s :=
  ⟨h.rd.ext1 hE h.bo (by decide) (by decide), h.bs.ext1 hE (h.bs.ne h.bo (by decide)), hb, by rw [e1]; exact h.ol.extTy hE h.bo (by decide), by rw [e2]; exact h.op.extTy hE h.bo (by decide), by rw [e3]; exact h.or.extTy hE h.bo (by decide),
    h.nl, h.np, h.nr, h.fr, h.fo, h.X.trans hE fun y hy hF => by have hF : y = b5 := hF; have := h.fo; omega, h.len, hi, hs⟩
theorem RdS.extOwn (h : RdS w rb s) {p : Option Addr} {n c T sz : Nat} {xs : List Value} (ho : Own w p n c T sz xs) (hE : Ext (OwnB p) w w') (h1 : 133 ≠ T) (h2 : 5 ≠ T) : RdS w' rb s :=
  Rd.ext h hE (fun hx => by obtain ⟨l, hl⟩ := ho.blkAt hx; exact h.ne hl h1 rfl) fun b L hL hx => (ho.neTy hx hL (Ne.symm h2)) rfl
theorem _root_.Go.Vc.Own.extOwn {p q : Option Addr} {n c T sz m d U sy : Nat} {xs ys : List Value} (h : Own w p n c T sz xs) (ho : Own w q m d U sy ys) (hE : Ext (OwnB q) w w') (hT : U ≠ T) : Own w' p n c T sz xs :=
  h.ext hE fun x hx hy => by
    obtain ⟨l, hl⟩ := h.blkAt hx
    exact ho.neTy hy hl hT rfl
/-- a leaf more -/
theorem DecS.putLeaf (h : DecS W0 w rb b4 b5 o a s) {p : Option Addr} {c : Nat} {r : LeafD} (hE1 : Ext (OwnB a.lp) w w1) (ho : Own w1 p (o.leaves.length + 1) c 76 33 (o.leaves.flatMap LeafD.cells ++ r.cells)) (hB : ∀ x, OwnB p x → OwnB a.lp x ∨ w.heap.size ≤ x)
    (hE2 : Ext (One b5) w1 w2) (hb : Blk w2 b5 33 (objC { o with leaves := o.leaves ++ [r] } ⟨p, c, a.pp, a.pc, a.rp, a.rc⟩)) (hr : LeafIn r) (hp : r.path.length < 1000000000) (hn : o.leaves.length < 255) :
    DecS W0 w2 rb b4 b5 { o with leaves := o.leaves ++ [r] } ⟨p, c, a.pp, a.pc, a.rp, a.rc⟩ s := by
  have bo1 := h.bo.extOwn h.ol hE1 (by decide)
  have e1 : (o.leaves ++ [r]).length = o.leaves.length + 1 := by rw [List.length_append]; rfl
  have e2 : (o.leaves ++ [r]).flatMap LeafD.cells = o.leaves.flatMap LeafD.cells ++ r.cells := by rw [List.flatMap_append]; simp
  exact ⟨(h.rd.extOwn h.ol hE1 (by decide) (by decide)).ext1 hE2 bo1 (by decide) (by decide), (h.bs.extOwn h.ol hE1 (by decide)).ext1 hE2 ((h.bs.extOwn h.ol hE1 (by decide)).ne bo1 (by decide)), hb,
    by rw [e1, e2]; exact ho.extTy hE2 bo1 (by decide), (h.op.extOwn h.ol hE1 (by decide)).extTy hE2 bo1 (by decide), (h.or.extOwn h.ol hE1 (by decide)).extTy hE2 bo1 (by decide),
    newW h.X h.nl hB, h.np, h.nr, h.fr, h.fo,
    (h.X.trans hE1 fun y hy hF => by have := h.nl y hF; omega).trans hE2 fun y hy hF => by have hF : y = b5 := hF; have := h.fo; omega,
    h.len, ⟨h.oin.tree, h.oin.base, h.oin.parents, fun x hx => by rcases List.mem_append.1 hx with hx | hx; exact h.oin.leaves x hx; rw [List.mem_singleton.1 hx]; exact hr, h.oin.rows, h.oin.number, h.oin.author⟩, ⟨by show (o.leaves ++ [r]).length < _; omega, h.sh.parents, h.sh.rows, fun x hx => by rcases List.mem_append.1 hx with hx | hx; exact h.sh.leafP x hx; rw [List.mem_singleton.1 hx]; exact hp, h.sh.rowP⟩⟩
/-- a parent more -/
theorem DecS.putId (h : DecS W0 w rb b4 b5 o a s) {p : Option Addr} {c : Nat} {r : List UInt8} (hE1 : Ext (OwnB a.pp) w w1) (ho : Own w1 p (o.parents.length + 1) c 26 32 (o.parents.flatMap bytesU ++ bytesU r)) (hB : ∀ x, OwnB p x → OwnB a.pp x ∨ w.heap.size ≤ x)
    (hE2 : Ext (One b5) w1 w2) (hb : Blk w2 b5 33 (objC { o with parents := o.parents ++ [r] } ⟨a.lp, a.lc, p, c, a.rp, a.rc⟩)) (hr : IdIn r) (hn : o.parents.length < 255) :
    DecS W0 w2 rb b4 b5 { o with parents := o.parents ++ [r] } ⟨a.lp, a.lc, p, c, a.rp, a.rc⟩ s := by
  have bo1 := h.bo.extOwn h.op hE1 (by decide)
  have e1 : (o.parents ++ [r]).length = o.parents.length + 1 := by rw [List.length_append]; rfl
  have e2 : (o.parents ++ [r]).flatMap bytesU = o.parents.flatMap bytesU ++ bytesU r := by rw [List.flatMap_append]; simp
  exact ⟨(h.rd.extOwn h.op hE1 (by decide) (by decide)).ext1 hE2 bo1 (by decide) (by decide), (h.bs.extOwn h.op hE1 (by decide)).ext1 hE2 ((h.bs.extOwn h.op hE1 (by decide)).ne bo1 (by decide)), hb,
    (h.ol.extOwn h.op hE1 (by decide)).extTy hE2 bo1 (by decide), by rw [e1, e2]; exact ho.extTy hE2 bo1 (by decide), (h.or.extOwn h.op hE1 (by decide)).extTy hE2 bo1 (by decide),
    h.nl, newW h.X h.np hB, h.nr, h.fr, h.fo,
    (h.X.trans hE1 fun y hy hF => by have := h.np y hF; omega).trans hE2 fun y hy hF => by have hF : y = b5 := hF; have := h.fo; omega,
    h.len, ⟨h.oin.tree, h.oin.base, fun x hx => by rcases List.mem_append.1 hx with hx | hx; exact h.oin.parents x hx; rw [List.mem_singleton.1 hx]; exact hr, h.oin.leaves, h.oin.rows, h.oin.number, h.oin.author⟩, ⟨h.sh.leaves, by show (o.parents ++ [r]).length < _; omega, h.sh.rows, h.sh.leafP, h.sh.rowP⟩⟩
/-- a change more -/
theorem DecS.putChg (h : DecS W0 w rb b4 b5 o a s) {p : Option Addr} {c : Nat} {r : ChgD} (hE1 : Ext (OwnB a.rp) w w1) (ho : Own w1 p (o.rows.length + 1) c 82 3 (o.rows.flatMap ChgD.cells ++ r.cells)) (hB : ∀ x, OwnB p x → OwnB a.rp x ∨ w.heap.size ≤ x)
    (hE2 : Ext (One b5) w1 w2) (hb : Blk w2 b5 33 (objC { o with rows := o.rows ++ [r] } ⟨a.lp, a.lc, a.pp, a.pc, p, c⟩)) (hr : ChgIn r) (hp : r.path.length < 1000000000) (hn : o.rows.length < 255) :
    DecS W0 w2 rb b4 b5 { o with rows := o.rows ++ [r] } ⟨a.lp, a.lc, a.pp, a.pc, p, c⟩ s := by
  have bo1 := h.bo.extOwn h.or hE1 (by decide)
  have e1 : (o.rows ++ [r]).length = o.rows.length + 1 := by rw [List.length_append]; rfl
  have e2 : (o.rows ++ [r]).flatMap ChgD.cells = o.rows.flatMap ChgD.cells ++ r.cells := by rw [List.flatMap_append]; simp
  exact ⟨(h.rd.extOwn h.or hE1 (by decide) (by decide)).ext1 hE2 bo1 (by decide) (by decide), (h.bs.extOwn h.or hE1 (by decide)).ext1 hE2 ((h.bs.extOwn h.or hE1 (by decide)).ne bo1 (by decide)), hb,
    (h.ol.extOwn h.or hE1 (by decide)).extTy hE2 bo1 (by decide), (h.op.extOwn h.or hE1 (by decide)).extTy hE2 bo1 (by decide), by rw [e1, e2]; exact ho.extTy hE2 bo1 (by decide),
    h.nl, h.np, newW h.X h.nr hB, h.fr, h.fo,
    (h.X.trans hE1 fun y hy hF => by have := h.nr y hF; omega).trans hE2 fun y hy hF => by have hF : y = b5 := hF; have := h.fo; omega,
    h.len, ⟨h.oin.tree, h.oin.base, h.oin.parents, h.oin.leaves, fun x hx => by rcases List.mem_append.1 hx with hx | hx; exact h.oin.rows x hx; rw [List.mem_singleton.1 hx]; exact hr, h.oin.number, h.oin.author⟩, ⟨h.sh.leaves, h.sh.parents, by show (o.rows ++ [r]).length < _; omega, h.sh.leafP, fun x hx => by rcases List.mem_append.1 hx with hx | hx; exact h.sh.rowP x hx; rw [List.mem_singleton.1 hx]; exact hp⟩⟩
end
/-- rows of one's own, that were not there before -/
structure ObjNew (W0 w : World) (o : ObjD) (a : ObjP) : Prop where
  ol : Own w a.lp o.leaves.length a.lc 76 33 (o.leaves.flatMap LeafD.cells)
  op : Own w a.pp o.parents.length a.pc 26 32 (o.parents.flatMap bytesU)
  or : Own w a.rp o.rows.length a.rc 82 3 (o.rows.flatMap ChgD.cells)
  nl : ∀ x, OwnB a.lp x → W0.heap.size ≤ x
  np : ∀ x, OwnB a.pp x → W0.heap.size ≤ x
  nr : ∀ x, OwnB a.rp x → W0.heap.size ≤ x
theorem ObjNew.extNo {W0 w w' : World} {o : ObjD} {a : ObjP} (h : ObjNew W0 w o a) (hE : Ext No w w') : ObjNew W0 w' o a := ⟨h.ol.ext hE fun _ _ => id, h.op.ext hE fun _ _ => id, h.or.ext hE fun _ _ => id, h.nl, h.np, h.nr⟩
theorem ObjNew.ext1 {W0 w w' : World} {o : ObjD} {a : ObjP} (h : ObjNew W0 w o a) {b T : Nat} {L : List Value} (hE : Ext (One b) w w') (hb : Blk w b T L) (h1 : 76 ≠ T) (h2 : 26 ≠ T) (h3 : 82 ≠ T) : ObjNew W0 w' o a := ⟨h.ol.extTy hE hb h1, h.op.extTy hE hb h2, h.or.extTy hE hb h3, h.nl, h.np, h.nr⟩
theorem ObjNew.l {W0 w : World} {o : ObjD} {a : ObjP} (h : ObjNew W0 w o a) : ObjL w o a := ⟨h.ol.sl, h.op.sl, h.or.sl⟩
theorem ObjNew.nil (W0 w : World) (o : ObjD) (h1 : o.leaves = []) (h2 : o.parents = []) (h3 : o.rows = []) : ObjNew W0 w o ⟨none, 0, none, 0, none, 0⟩ := by
  refine ⟨?_, ?_, ?_, noOwn, noOwn, noOwn⟩
  · rw [h1]; exact Own.nil _ _ _
  · rw [h2]; exact Own.nil _ _ _
  · rw [h3]; exact Own.nil _ _ _
theorem ObjNew.older {W0 W1 w : World} {o : ObjD} {a : ObjP} (h : ObjNew W1 w o a) (hX : W0.heap.size ≤ W1.heap.size) : ObjNew W0 w o a := ⟨h.ol, h.op, h.or, fun x hx => Nat.le_trans hX (h.nl x hx), fun x hx => Nat.le_trans hX (h.np x hx), fun x hx => Nat.le_trans hX (h.nr x hx)⟩
theorem DecS.new {W0 w : World} {rb b4 b5 : Nat} {o : ObjD} {a : ObjP} {s : Ds} (h : DecS W0 w rb b4 b5 o a s) : ObjNew W0 w o a := ⟨h.ol, h.op, h.or, h.nl, h.np, h.nr⟩
end Go.Proofs.YtjghckniloikgaaDoor
namespace Go.Proofs.YtjghckniloikgaaDoor
open Go.Vc
theorem leafZ_c : cellsOf ti76.zero = LeafD.cells ⟨[], idZ⟩ := by kernel_rfl
theorem chgZ_c : cellsOf ti82.zero = ChgD.cells ⟨[], false, []⟩ := by kernel_rfl
theorem leaf_put {p : Str} {i j : List UInt8} (hi : i.length = 32) (hj : j.length = 32) : put (LeafD.cells ⟨p, i⟩) 1 (bytesU j) = LeafD.cells ⟨p, j⟩ := by
  rw [put_eq _ _ _ (by simp [LeafD.cells, bytesU_len, hi, hj])]
  simp [LeafD.cells, bytesU_len, hi, hj]
theorem one_leaf {r : LeafD} (h : r.id.length = 32) : putAll (rep 1 (LeafD.cells ⟨[], idZ⟩)) [(0 * (0 + 33), 0 + 33, .agg r.cells.toArray)] = r.cells := by
  simp only [putAll, cellsOf_agg]
  rw [Nat.zero_mul, put_whole (by rw [rep_length, LeafD.len h]; rfl)]
theorem Ds.leaf_in {s : Ds} (hl : s.rest.length < 1000000000) : LeafIn s.leaf.1 := by
  have h1 := (s.str_len 1).1
  have h2 := maxLen_big
  exact ⟨by show (s.str 1).1.length ≤ maxLen; omega, (s.str 1).2.id_len.1⟩
theorem Ds.chg_in {s : Ds} (hl : s.rest.length < 1000000000) : ChgIn s.chg.1 := by
  have h1 := s.str_len 1
  have h2 := maxLen_big
  have h3 := (s.str 1).2.off_len 1
  have h4 := ((s.str 1).2.off 1).2.str_len 2
  exact ⟨by show (s.str 1).1.length ≤ maxLen; omega, by show (((s.str 1).2.off 1).2.str 2).1.length ≤ maxLen; omega⟩
theorem Ds.leaf_le (s : Ds) : s.leaf.2.rest.length ≤ s.rest.length := Nat.le_trans (s.str 1).2.id_len.2 (s.str_len 1).2
theorem Ds.chg_le (s : Ds) : s.chg.2.rest.length ≤ s.rest.length := by
  have h1 := s.str_len 1
  have h3 := (s.str 1).2.off_len 1
  have h4 := ((s.str 1).2.off 1).2.str_len 2
  show (((s.str 1).2.off 1).2.str 2).2.rest.length ≤ _
  omega
theorem dec1_calls (w : World) {W0 : World} {rb b4 b5 : Nat} {o : ObjD} {a : ObjP} {s : Ds} (h : DecS W0 w rb b4 b5 o a s) (hl : o.leaves.length < 255) :
    CallsV Tryd.prog 44 [.pointer (some ⟨b4, 0, none⟩), .pointer (some ⟨b5, 0, none⟩)] w fun v w' => v = .tuple #[] ∧ (∃ a', DecS W0 w' rb b4 b5 { o with leaves := o.leaves ++ [s.leaf.1] } a' s.leaf.2) ∧ (∀ b L, Blk w b 89 L → Blk w' b 89 L) ∧ Ext Any w w' := by
  refine calls_enter Tryd.func44 rfl rfl rfl rfl ?_
  have hX := Ext.refl Any w
  have hD := h
  have hDl := h.len
  have hkp : ∀ b L, Blk w b 89 L → Blk w b 89 L := fun _ _ h => h
  refine c_seq (c_region (wl (st_ldN I_ok rfl hD.bs.seg rfl (wl (st_call Tryd.call45 rfl rfl rfl rfl rfl rfl (small_rd w hD.rd hD.len) fun v1 w1 hr1 => ?_)))))
  obtain ⟨rfl, hR2, hE1⟩ := hr1
  have hkp := fun b L h => (hkp b L h).ext1 hE1 (hD.neR (hkp b L h) (by decide))
  have hX := hX.then (hE1.mono fun _ _ _ => trivial)
  have hD := hD.read hR2 hE1 (s.str_len 1).2
  refine wl (st_bd I_ok rfl ⟨⟨rfl, by decide⟩, trivial⟩ (l' := LeafD.cells ⟨(s.str 1).1, idZ⟩) (by rw [leafZ_c]; rfl) ?_)
  have hDo := hD
  refine wl (st_al I_ok rfl fun b2 w2 hn2 hb2 hE2 => ?_)
  have fr2 := Nat.le_trans hX.size hn2
  have hkp := fun b L h => (hkp b L h).extNo hE2
  have hD := hD.extNo hE2
  have hX := hX.thenNo hE2
  have hsp := hDo.sep hn2
  have hb2o := hb2
  refine wl (st_stW (l' := LeafD.cells ⟨(s.str 1).1, idZ⟩) I_ok hb2 rfl rfl (LeafD.len rfl) (LeafD.len rfl) OneC.h fun w3 hb2 hE3 hs3 => ?_)
  have hkp := fun b L h => (hkp b L h).ext1 hE3 ((hkp b L h).ne hb2o (by decide))
  have hD := hD.ext1 hsp hb2o (by decide) hE3
  have hX := hX.thenNew hE3 fr2
  refine wl_nil (f_then (c_seq (c_region (wl (st_ldN I_ok rfl hD.bs.seg rfl (wl (st_call Tryd.call46 rfl rfl rfl rfl rfl rfl (id_rd w3 hD.rd hD.len) fun v4 w4 hr4 => ?_)))))))
  obtain ⟨rfl, hR2, hE4⟩ := hr4
  have hb2 := hb2.ext1 hE4 (hD.neR hb2 (by decide))
  have hkp := fun b L h => (hkp b L h).ext1 hE4 (hD.neR (hkp b L h) (by decide))
  have hX := hX.then (hE4.mono fun _ _ _ => trivial)
  have hD := hD.read hR2 hE4 (s.str 1).2.id_len.2
  refine wl_p I_ok rfl ?_
  have hb2o := hb2
  have hlf := Ds.leaf_in hDl
  refine wl (st_stN I_ok hb2 rfl (by rw [cellsOf_agg, bytesU_len, (s.str 1).2.id_len.1]) (by rw [LeafD.len rfl]; decide) (by rw [cellsOf_agg]; exact OneC.h) fun w5 hb2 hE5 hs5 => ?_)
  have hkp := fun b L h => (hkp b L h).ext1 hE5 ((hkp b L h).ne hb2o (by decide))
  have hD := hD.ext1 hsp hb2o (by decide) hE5
  have hX := hX.thenNew hE5 fr2
  have hb2 : Blk w5 b2 76 ((s.leaf.1).cells) := (by have := hb2; rw [cellsOf_agg, leaf_put rfl (s.str 1).2.id_len.1] at this; exact this)
  refine wl_nil (f_then (c_region (wl_p I_ok rfl (wl (st_ld I_ok rfl ((hD.bo.seg.obj hD.oin).leaves) (wl (st_ldB I_ok hb2 rfl (LeafD.len hlf.2) ?_)))))))
  refine wl (st_bs I_ok rfl 33 rfl leafZ_c (LeafD.len rfl) (by decide) (by decide) ⟨⟨by rw [cellsOf_agg]; exact (LeafD.len hlf.2), by decide⟩, trivial⟩ (l' := (s.leaf.1).cells) (one_leaf hlf.2) fun b12 w6 hn12 hb12 hE6 hs6 => ?_)
  have ne2_12 : b2 ≠ b12 := Nat.ne_of_lt (Nat.lt_of_lt_of_le hb2.lt hn12)
  have fr12 := Nat.le_trans hX.size hn12
  have hb2 := hb2.extNo hE6
  have hkp := fun b L h => (hkp b L h).extNo hE6
  have hD := hD.extNo hE6
  have hX := hX.thenNo hE6
  have hX1 := hX
  refine wl (st_app I_ok rfl 33 48 rfl rfl rfl (by decide) hD.ol (Src.slice (m := 1) ⟨LeafD.len hlf.2, .inr ⟨b12, 0, rfl, hb12.seg⟩⟩ OneC.h) (by dsimp only [maxLen]; omega) (by dsimp only; omega) fun p7 c7 w7 ho7 hE7 hB7 => ?_)
  dsimp only at ho7 hE7 hB7 ⊢
  have hX := hX1.then (hE7.mono fun _ _ _ => trivial)
  have hkp : ∀ b L, Blk w b 89 L → Blk w7 b 89 L := fun b L h => (hkp b L h).extOwn hD.ol hE7 (show (76 : Nat) ≠ 89 from by decide)
  have hbo1 := hD.bo.extOwn hD.ol hE7 (show (76 : Nat) ≠ 33 from by decide)
  refine wl_p I_ok rfl (wl (st_st I_ok hbo1 rfl rfl rfl fun w8 hbo hE8 hs8 => ?_))
  have hbo : Blk w8 b5 33 (objC { o with leaves := o.leaves ++ [s.leaf.1] } ⟨p7, c7, a.pp, a.pc, a.rp, a.rc⟩) := by
    simp only [objC, List.length_append]
    exact hbo
  have hD2 := hD.putLeaf (r := s.leaf.1) hE7 ho7 hB7 hE8 hbo hlf (by have := s.str_len 1; show (s.str 1).1.length < _; omega) hl
  have hkp : ∀ b L, Blk w b 89 L → Blk w8 b 89 L := fun b L h => (hkp b L h).ext1 hE8 ((hkp b L h).ne hbo1 (by decide))
  have hX := hX.then (hE8.mono fun _ _ _ => trivial)
  refine wl_nil (f_end0 rfl ?_)
  exact ⟨rfl, ⟨_, hD2⟩, hkp, hX⟩

theorem dec2_calls (w : World) {W0 : World} {rb b4 b5 : Nat} {o : ObjD} {a : ObjP} {s : Ds} (h : DecS W0 w rb b4 b5 o a s) (hl : o.parents.length < 255) :
    CallsV Tryd.prog 47 [.pointer (some ⟨b5, 0, none⟩), .pointer (some ⟨b4, 0, none⟩)] w fun v w' => v = .tuple #[] ∧ (∃ a', DecS W0 w' rb b4 b5 { o with parents := o.parents ++ [s.id.1] } a' s.id.2) ∧ (∀ b L, Blk w b 89 L → Blk w' b 89 L) ∧ Ext Any w w' := by
  refine calls_enter Tryd.func47 rfl rfl rfl rfl ?_
  have hX := Ext.refl Any w
  have hD := h
  have hDl := h.len
  have hkp : ∀ b L, Blk w b 89 L → Blk w b 89 L := fun _ _ h => h
  refine c_draw rfl 7 [(0, true), (1, true), (2, true), (3, false), (4, false), (5, false), (6, true)] [7] ((fun x => x = rb ∨ OwnB a.pp x)) (by kernel_rfl) fun w1 hE1 hs1 => ?_
  have hkpd := hkp
  have hDd := hD
  have hXd := hX
  have hkp := fun b L h => (hkp b L h).extNo hE1
  have hD := hD.extNo hE1
  have hX := hX.thenNo hE1
  have hC : Ext ((fun x => x = rb ∨ OwnB a.pp x)) _ w1 := hE1.no
  have hn5 : ¬ (fun x => x = rb ∨ OwnB a.pp x) b5 := fun e => e.elim (h.neR h.bo (by decide)) fun hx => h.op.neTy hx h.bo (by decide) rfl
  have hn4 : ¬ (fun x => x = rb ∨ OwnB a.pp x) b4 := fun e => e.elim (h.neR h.bs (by decide)) fun hx => h.op.neTy hx h.bs (by decide) rfl
  have hin := s.id_len
  refine wd_k I_ok 1 rfl (wd_ld I_ok rfl rfl (fun w' hw' => ((h.bo.ext (show Ext (fun x => x = rb ∨ OwnB a.pp x) _ w' from hw') hn5).seg.obj h.oin).parents) ?_)
  refine wd_ldN I_ok rfl rfl (fun w' hw' => (h.bs.ext (show Ext (fun x => x = rb ∨ OwnB a.pp x) _ w' from hw') hn4).seg) rfl ?_
  refine wd_l rfl (st_call Tryd.call46 rfl rfl rfl rfl rfl rfl (id_rd w1 hD.rd hD.len) fun v2 w2 hr2 => ⟨(by obtain ⟨rfl, hR2, hE2⟩ := hr2; exact hC.then (hE2.mono fun _ _ e => .inl e)), ?_⟩)
  obtain ⟨rfl, hR2, hE2⟩ := hr2
  have hkp := fun b L h => (hkp b L h).ext1 hE2 (hD.neR (hkp b L h) (by decide))
  have hX := hX.then (hE2.mono fun _ _ _ => trivial)
  have hC := hC.then (hE2.mono fun _ _ e => .inl e)
  have hD := hD.read hR2 hE2 s.id_len.2
  refine wd_l rfl (st_bs I_ok rfl 32 rfl idZ_c.symm (by rw [bytesU_len]; rfl) (by decide) (by decide) ⟨⟨by rw [cellsOf_agg]; exact (IdIn.len hin.1), by decide⟩, trivial⟩ (l' := bytesU s.id.1) (one_id hin.1) fun b6 w3 hn6 hb6 hE3 hs3 => ⟨hC.thenNo hE3, ?_⟩)
  have fr6 := Nat.le_trans hX.size hn6
  have hkp := fun b L h => (hkp b L h).extNo hE3
  have hD := hD.extNo hE3
  have hX := hX.thenNo hE3
  have hC := hC.thenNo hE3
  have hX1 := hX
  refine wd_l rfl (st_app I_ok rfl 32 32 rfl rfl rfl (by decide) hD.op (Src.slice (m := 1) (one_idS hin.1 hb6) OneC.h) (by dsimp only [maxLen]; omega) (by dsimp only; omega) fun p4 c4 w4 ho4 hE4 hB4 => ⟨hC.then (hE4.mono fun _ _ e => .inr e), ?_⟩)
  have hC := hC.then (hE4.mono fun _ _ e => .inr e)
  dsimp only at ho4 hE4 hB4 ⊢
  have hX := hX1.then (hE4.mono fun _ _ _ => trivial)
  have hkp : ∀ b L, Blk w b 89 L → Blk w4 b 89 L := fun b L h => (hkp b L h).extOwn hD.op hE4 (show (26 : Nat) ≠ 89 from by decide)
  have hbo1 := hD.bo.extOwn hD.op hE4 (show (26 : Nat) ≠ 33 from by decide)
  refine wd_k I_ok 1 rfl (wd_sw (wb rfl (st_set I_ok hbo1 rfl rfl (by rw [objC_len hD.oin]; decide) fun w5 hbo hE5 hs5 => ?_)))
  have hbo : Blk w5 b5 33 ((objC o a).set (68 + 0) (.slice p4 (o.parents.length + 1) c4)) := hbo
  rw [objC_set hD.oin] at hbo
  have hbo : Blk w5 b5 33 (objC { o with parents := o.parents ++ [s.id.1] } ⟨a.lp, a.lc, p4, c4, a.rp, a.rc⟩) := by
    simp only [objC, List.length_append]
    exact hbo
  have hD2 := hD.putId (r := s.id.1) hE4 ho4 hB4 hE5 hbo hin.1 hl
  have hkp : ∀ b L, Blk w b 89 L → Blk w5 b 89 L := fun b L h => (hkp b L h).ext1 hE5 ((hkp b L h).ne hbo1 (by decide))
  have hX := hX.then (hE5.mono fun _ _ _ => trivial)
  refine wb_nil (f_end0 rfl ?_)
  exact ⟨rfl, ⟨_, hD2⟩, hkp, hX⟩

theorem dec3_calls (w : World) {W0 : World} {rb b4 b5 : Nat} {o : ObjD} {a : ObjP} {s : Ds} (h : DecS W0 w rb b4 b5 o a s) (hl : o.rows.length < 255) :
    CallsV Tryd.prog 48 [.pointer (some ⟨b4, 0, none⟩), .pointer (some ⟨b5, 0, none⟩)] w fun v w' => v = .tuple #[] ∧ (∃ a', DecS W0 w' rb b4 b5 { o with rows := o.rows ++ [s.chg.1] } a' s.chg.2) ∧ (∀ b L, Blk w b 89 L → Blk w' b 89 L) ∧ Ext Any w w' := by
  refine calls_enter Tryd.func48 rfl rfl rfl rfl ?_
  have hX := Ext.refl Any w
  have hD := h
  have hDl := h.len
  have hkp : ∀ b L, Blk w b 89 L → Blk w b 89 L := fun _ _ h => h
  refine c_seq (c_region (wl (st_ldN I_ok rfl hD.bs.seg rfl (wl (st_call Tryd.call45 rfl rfl rfl rfl rfl rfl (small_rd w hD.rd hD.len) fun v1 w1 hr1 => ?_)))))
  obtain ⟨rfl, hR2, hE1⟩ := hr1
  have hkp := fun b L h => (hkp b L h).ext1 hE1 (hD.neR (hkp b L h) (by decide))
  have hX := hX.then (hE1.mono fun _ _ _ => trivial)
  have hD := hD.read hR2 hE1 (s.str_len 1).2
  refine wl (st_bd I_ok rfl ⟨⟨rfl, by decide⟩, trivial⟩ (l' := ChgD.cells ⟨(s.str 1).1, false, []⟩) (by rw [chgZ_c]; rfl) ?_)
  have hDo := hD
  refine wl (st_al I_ok rfl fun b2 w2 hn2 hb2 hE2 => ?_)
  have fr2 := Nat.le_trans hX.size hn2
  have hkp := fun b L h => (hkp b L h).extNo hE2
  have hD := hD.extNo hE2
  have hX := hX.thenNo hE2
  have hsp := hDo.sep hn2
  have hb2o := hb2
  refine wl (st_stW (l' := ChgD.cells ⟨(s.str 1).1, false, []⟩) I_ok hb2 rfl rfl rfl rfl OneC.h fun w3 hb2 hE3 hs3 => ?_)
  have hkp := fun b L h => (hkp b L h).ext1 hE3 ((hkp b L h).ne hb2o (by decide))
  have hD := hD.ext1 hsp hb2o (by decide) hE3
  have hX := hX.thenNew hE3 fr2
  refine wl_nil (f_then (c_seq (c_region (wl_p I_ok rfl (wl (st_ld I_ok rfl (hD.bs.cell rfl) (wl (st_call Tryd.call41 rfl rfl rfl rfl rfl rfl (hD.rd.u8 hD.len) fun v4 w4 hr4 => ?_))))))))
  obtain ⟨rfl, hR2, hE4⟩ := hr4
  have hb2 := hb2.ext1 hE4 (hD.neR hb2 (by decide))
  have hkp := fun b L h => (hkp b L h).ext1 hE4 (hD.neR (hkp b L h) (by decide))
  have hX := hX.then (hE4.mono fun _ _ _ => trivial)
  have hD := hD.read hR2 hE4 ((s.str 1).2.off_len 1).2.1
  refine wl_p I_ok rfl ?_
  have hb2o := hb2
  refine wl (st_st I_ok hb2 rfl rfl rfl fun w5 hb2 hE5 hs5 => ?_)
  have hkp := fun b L h => (hkp b L h).ext1 hE5 ((hkp b L h).ne hb2o (by decide))
  have hD := hD.ext1 hsp hb2o (by decide) hE5
  have hX := hX.thenNew hE5 fr2
  have hb2 : Blk w5 b2 82 (ChgD.cells ⟨(s.str 1).1, (decide (0 < num ((s.str 1).2.off 1).1)), []⟩) := (by have e : decide ((num ((s.str 1).2.off 1).1 : Int) > 0) = (decide (0 < num ((s.str 1).2.off 1).1)) := decide_eq_decide.2 (by omega); rw [← e]; exact hb2)
  refine wl_nil (f_then (c_seq (c_region (wl (st_ldN I_ok rfl hD.bs.seg rfl (wl (st_call Tryd.call42 rfl rfl rfl rfl rfl rfl (text_rd w5 hD.rd hD.len) fun v6 w6 hr6 => ?_)))))))
  obtain ⟨rfl, hR2, hE6⟩ := hr6
  have hb2 := hb2.ext1 hE6 (hD.neR hb2 (by decide))
  have hkp := fun b L h => (hkp b L h).ext1 hE6 (hD.neR (hkp b L h) (by decide))
  have hX := hX.then (hE6.mono fun _ _ _ => trivial)
  have hD := hD.read hR2 hE6 (((s.str 1).2.off 1).2.str_len 2).2
  refine wl_p I_ok rfl ?_
  have hb2o := hb2
  have hch := Ds.chg_in hDl
  refine wl (st_st I_ok hb2 rfl rfl rfl fun w7 hb2 hE7 hs7 => ?_)
  have hkp := fun b L h => (hkp b L h).ext1 hE7 ((hkp b L h).ne hb2o (by decide))
  have hD := hD.ext1 hsp hb2o (by decide) hE7
  have hX := hX.thenNew hE7 fr2
  have hb2 : Blk w7 b2 82 ((s.chg.1).cells) := hb2
  refine wl_nil (f_then (c_region (wl_p I_ok rfl (wl (st_ld I_ok rfl ((hD.bo.seg.obj hD.oin).rows) (wl (st_ldB I_ok hb2 rfl rfl ?_)))))))
  refine wl (st_bs I_ok rfl 3 rfl chgZ_c rfl (by decide) (by decide) ⟨⟨rfl, by decide⟩, trivial⟩ (l' := (s.chg.1).cells) rfl fun b18 w8 hn18 hb18 hE8 hs8 => ?_)
  have ne2_18 : b2 ≠ b18 := Nat.ne_of_lt (Nat.lt_of_lt_of_le hb2.lt hn18)
  have fr18 := Nat.le_trans hX.size hn18
  have hb2 := hb2.extNo hE8
  have hkp := fun b L h => (hkp b L h).extNo hE8
  have hD := hD.extNo hE8
  have hX := hX.thenNo hE8
  have hX1 := hX
  refine wl (st_app I_ok rfl 3 40 rfl rfl rfl (by decide) hD.or (Src.slice (m := 1) ⟨rfl, .inr ⟨b18, 0, rfl, hb18.seg⟩⟩ OneC.h) (by dsimp only [maxLen]; omega) (by dsimp only; omega) fun p9 c9 w9 ho9 hE9 hB9 => ?_)
  dsimp only at ho9 hE9 hB9 ⊢
  have hX := hX1.then (hE9.mono fun _ _ _ => trivial)
  have hkp : ∀ b L, Blk w b 89 L → Blk w9 b 89 L := fun b L h => (hkp b L h).extOwn hD.or hE9 (show (82 : Nat) ≠ 89 from by decide)
  have hbo1 := hD.bo.extOwn hD.or hE9 (show (82 : Nat) ≠ 33 from by decide)
  refine wl_p I_ok rfl (wl (st_set I_ok hbo1 rfl rfl (by rw [objC_len hD.oin]; decide) fun w10 hbo hE10 hs10 => ?_))
  have hbo : Blk w10 b5 33 ((objC o a).set (68 + 1) (.slice p9 (o.rows.length + 1) c9)) := hbo
  rw [objC_set hD.oin] at hbo
  have hbo : Blk w10 b5 33 (objC { o with rows := o.rows ++ [s.chg.1] } ⟨a.lp, a.lc, a.pp, a.pc, p9, c9⟩) := by
    simp only [objC, List.length_append]
    exact hbo
  have hD2 := hD.putChg (r := s.chg.1) hE9 ho9 hB9 hE10 hbo hch (by have := s.str_len 1; show (s.str 1).1.length < _; omega) hl
  have hkp : ∀ b L, Blk w b 89 L → Blk w10 b 89 L := fun b L h => (hkp b L h).ext1 hE10 ((hkp b L h).ne hbo1 (by decide))
  have hX := hX.then (hE10.mono fun _ _ _ => trivial)
  refine wl_nil (f_end0 rfl ?_)
  exact ⟨rfl, ⟨_, hD2⟩, hkp, hX⟩
end Go.Proofs.YtjghckniloikgaaDoor
namespace Go.Vc
abbrev idV (x : List UInt8) : Value := .agg (bytesU x).toArray
theorem idV_inj {x y : List UInt8} (h : idV x = idV y) : x = y := by
  injection h with h
  exact bytesU_inj (by simpa using h)
/-- a map in memory, by what stands in it -/
def MapB {β : Type} (w : World) (r : Nat) (enc : β → Value) (f : List UInt8 → Option β) : Prop :=
  ∃ es clock, w.heap[r]? = some (.map es clock) ∧ (∀ e ∈ es.toList, ∃ x b, x.length = 32 ∧ e.key = idV x ∧ e.val = enc b ∧ f x = some b) ∧
    (∀ x b, f x = some b → ∃ e ∈ es.toList, e.key = idV x) ∧ (es.toList.map (·.key)).Nodup
/-- a type of digests may be a key's -/
structure IdKey (P : Program) (k : TypeId) : Prop where
  law : WideMaps.KeyLaw P k
  key : ∀ x : List UInt8, x.length = 32 → ∃ l, keyOf P k (idV x) = some l
theorem MapB.lt {β : Type} {w : World} {r : Nat} {enc : β → Value} {f : List UInt8 → Option β} (h : MapB w r enc f) : r < w.heap.size := by
  obtain ⟨es, c, h, _⟩ := h
  rcases Nat.lt_or_ge r w.heap.size with h' | h'
  · exact h'
  · rw [Array.getElem?_eq_none h'] at h; cases h
theorem MapB.ext {β : Type} {S : Nat → Prop} {w w' : World} {r : Nat} {enc : β → Value} {f : List UInt8 → Option β} (h : MapB w r enc f) (hE : Ext S w w') (hS : ¬ S r) : MapB w' r enc f := by
  have hlt := h.lt
  obtain ⟨es, c, h, r1⟩ := h
  exact ⟨es, c, (hE.same r hlt hS).trans h, r1⟩
theorem MapB.extNo {β : Type} {w w' : World} {r : Nat} {enc : β → Value} {f : List UInt8 → Option β} (h : MapB w r enc f) (hE : Ext No w w') : MapB w' r enc f := h.ext hE id
theorem MapB.ne {β : Type} {w : World} {r b T : Nat} {L : List Value} {enc : β → Value} {f : List UInt8 → Option β} (h : MapB w r enc f) (hb : Blk w b T L) : r ≠ b := fun e => by
  obtain ⟨es, c, h, _⟩ := h
  rw [e] at h
  rw [Blk, h] at hb
  cases hb
theorem MapB.ext1 {β : Type} {w w' : World} {r b T : Nat} {L : List Value} {enc : β → Value} {f : List UInt8 → Option β} (h : MapB w r enc f) (hE : Ext (One b) w w') (hb : Blk w b T L) : MapB w' r enc f := h.ext hE (h.ne hb)
theorem MapB.extOwn {β : Type} {w w' : World} {r : Nat} {enc : β → Value} {f : List UInt8 → Option β} (h : MapB w r enc f) {p : Option Addr} {n c T sz : Nat} {xs : List Value} (ho : Own w p n c T sz xs) (hE : Ext (OwnB p) w w') : MapB w' r enc f :=
  h.ext hE fun hx => by
    rcases ho with ⟨hp, _⟩ | ⟨b, l, hp, hb, _⟩
    · rw [hp] at hx; cases hx
    · rw [hp] at hx
      obtain rfl : b = r := by simpa using hx
      exact h.ne hb rfl

section
variable {P : Program} {I : Info} {f : Fs} {ops : Array Oper} {o : Oper} {env : Env} {w : World} {K : Env → World → Prop}

theorem ext_setMap {w : World} {r : Nat} {es : Array MapEntry} {c : Nat} (h : w.heap[r]? = some (.map es c)) (es' : Array MapEntry) (c' : Nat) :
    Ext (One r) w { w with heap := w.heap.setIfInBounds r (.map es' c') } ∧ ({ w with heap := w.heap.setIfInBounds r (.map es' c') } : World).heap.size = w.heap.size ∧ ({ w with heap := w.heap.setIfInBounds r (.map es' c') } : World).heap[r]? = some (.map es' c') := by
  have hlt : r < w.heap.size := by
    rcases Nat.lt_or_ge r w.heap.size with h' | h'
    · exact h'
    · rw [Array.getElem?_eq_none h'] at h; cases h
  refine ⟨⟨rfl, rfl, rfl, by simp, fun b hb hS => ?_, fun a => ?_⟩, by simp, by simp [hlt]⟩
  · exact Array.getElem?_setIfInBounds_ne (fun e => hS e.symm)
  · by_cases e : a.block = r
    · have e1 : ({ w with heap := w.heap.setIfInBounds r (.map es' c') } : World).heap[a.block]? = some (.map es' c') := by rw [e]; simp [hlt]
      have e2 : w.heap[a.block]? = some (.map es c) := by rw [e]; exact h
      simp [World.frozen?, e1, e2]
    · exact World.frozen?_of_block (Array.getElem?_setIfInBounds_ne (fun e' => e e'.symm))

/-- a map is made -/
def mmE (n : Nat) (ops : Array Oper) (env : Env) (o : Oper) : Option Nat :=
  match pre n ops env o with
  | false => none
  | true => match o.dst with
    | some d => match o.op with
      | .makeMap _ none => some d
      | _ => none
    | none => none
theorem st_mm {β : Type} (enc : β → Value) {d : Nat} (h : mmE f.n ops env o = some d)
    (k : ∀ (r : Nat) w', w.heap.size ≤ r → MapB w' r enc (fun _ => none) → Ext No w w' → w'.heap.size = w.heap.size + 1 → K ((d, .map (some r)) :: env) w') : St P f ops o env w K := by
  unfold mmE at h
  split at h
  · cases h
  · rename_i hp
    obtain ⟨h1, h2⟩ := pre_eq hp
    split at h
    · rename_i d' hd
      split at h
      · rename_i t ho
        cases h
        refine st_v h1 h2 (v := .map (some w.heap.size)) (w' := w.alloc (.map #[] 0)) (fun ρ hρ => ?_) ?_
        · simp only [execOp, ho, Option.map_none, Sem.run_bind]
          rfl
        · rw [hd]
          refine k _ _ (Nat.le_refl _) ⟨#[], 0, ?_, ?_, ?_, ?_⟩ ⟨rfl, rfl, rfl, by simp, fun b hb _ => ?_, fun a => ?_⟩ (by simp)
          · show (w.heap.push _)[w.heap.size]? = _
            simp
          · intro e he; simp at he
          · intro x b hb; cases hb
          · simp
          · show (w.heap.push _)[b]? = _
            rw [Array.getElem?_push, if_neg (by omega)]
          · by_cases h : a.block = w.heap.size
            · have e1 : (w.alloc (.map #[] 0)).heap[a.block]? = some (.map #[] 0) := by rw [h]; show (w.heap.push _)[w.heap.size]? = _; simp
              have e2 : w.heap[a.block]? = none := by rw [h]; simp
              simp [World.frozen?, e1, e2]
            · exact World.frozen?_alloc_old _ _ _ h
      · cases h
    · cases h

/-- what stands under a key -/
def luE (I : Info) (n : Nat) (ops : Array Oper) (env : Env) (o : Oper) : Option (Nat × Value × Nat × Value × Bool × Nat) :=
  match pre n ops env o with
  | false => none
  | true => match o.dst with
    | some d => match o.op with
      | .lookup t x j ok => match lkT I t with
        | some y => match y.desc with
          | .map k e => match lkT I e with
            | some g => match evO env x with
              | some (.map (some r)) => match evO env j with
                | some v => some (k, g.zero, r, v, ok, d)
                | none => none
              | _ => none
            | none => none
          | _ => none
        | none => none
      | _ => none
    | none => none
theorem MapB.keys {β : Type} {k : TypeId} (hK : IdKey P k) {es : List MapEntry} {enc : β → Value} {g : List UInt8 → Option β} (h : ∀ e ∈ es, ∃ x b, x.length = 32 ∧ e.key = idV x ∧ e.val = enc b ∧ g x = some b) : ∀ e ∈ es, ∃ l, keyOf P k e.key = some l := fun e he => by
  obtain ⟨x, b, hx, h1, _⟩ := h e he
  rw [h1]
  exact hK.key x hx
def tell {β : Type} (enc : β → Value) (z : Value) (o : Option β) : Value := match o with | some b => enc b | none => z
theorem st_lu {β : Type} (hI : I.Ok P) {k r d : Nat} {z v : Value} {ok : Bool} (h : luE I f.n ops env o = some (k, z, r, v, ok, d)) (hK : IdKey P k) {x : List UInt8} (hx : x.length = 32) (hv : v = idV x) {enc : β → Value} {g : List UInt8 → Option β} (hm : MapB w r enc g)
    (kk : K ((d, if ok then .tuple #[tell enc z (g x), .bool (g x).isSome] else tell enc z (g x)) :: env) w) : St P f ops o env w K := by
  subst hv
  unfold luE at h
  split at h
  · cases h
  · rename_i hp
    obtain ⟨h1, h2⟩ := pre_eq hp
    split at h
    · rename_i d' hd
      split at h
      · rename_i t xx j ok' ho
        split at h
        · rename_i y hy
          split at h
          · rename_i k' e he
            split at h
            · rename_i gg hgg
              split at h
              · rename_i r' hxx
                split at h
                · rename_i v' hj
                  simp only [Option.some.injEq, Prod.mk.injEq] at h
                  obtain ⟨rfl, rfl, rfl, rfl, rfl, rfl⟩ := h
                  have hu := (hI.get hy).under w
                  rw [he] at hu
                  have hz := (hI.get hgg).zeroValue w
                  obtain ⟨es, c, hh, a1, a2, a3⟩ := hm
                  obtain ⟨l, hl⟩ := hK.key x hx
                  have hfind := hK.law.find w hl es.toList (MapB.keys hK a1)
                  have hchk := hK.law.check w es.isEmpty hl
                  refine st_v h1 h2 (w' := w) (v := if ok' then .tuple #[tell enc gg.zero (g x), .bool (g x).isSome] else tell enc gg.zero (g x)) (fun ρ hρ => ?_) (by rw [hd]; exact kk)
                  have hlook : (Instr.lookup t (.map (some r')) (idV x) ok').run P w = .ok (if ok' then .tuple #[tell enc gg.zero (g x), .bool (g x).isSome] else tell enc gg.zero (g x)) w := by
                    unfold Instr.lookup
                    rw [run_under_bind hu]
                    rcases hfind with ⟨f1, f2⟩ | ⟨j', e0, f1, f2, f3⟩
                    · have hg : g x = none := by
                        cases hgx : g x with
                        | none => rfl
                        | some b =>
                          obtain ⟨e, he, hk⟩ := a2 x b hgx
                          exact absurd hk (f2 e he)
                      simp only [Sem.run_bind, MapKept.run_getObj_map hh, Sem.run_pure, Result.andThen_ok, hchk, f1, hz, hg, tell, Option.isSome]
                    · have hmem : e0 ∈ es.toList := List.mem_of_getElem? f2
                      obtain ⟨x', b, _, k1, k2, k3⟩ := a1 e0 hmem
                      have : x' = x := idV_inj (k1.symm.trans f3)
                      subst this
                      simp only [Sem.run_bind, MapKept.run_getObj_map hh, Sem.run_pure, Result.andThen_ok, hchk, f1, k2, k3, tell, Option.isSome]
                  simp only [execOp, ho, hρ _ _ hxx, hρ _ _ hj, Sem.run_bind, hlook, Result.andThen_ok, Sem.run_pure]
                · cases h
              · cases h
            · cases h
          · cases h
        · cases h
      · cases h
    · cases h

/-- what is set under a key -/
def muE (I : Info) (n : Nat) (ops : Array Oper) (env : Env) (o : Oper) : Option (Nat × Nat × Value × Value) :=
  match pre n ops env o with
  | false => none
  | true => match o.dst with
    | none => match o.op with
      | .mapUpdate t x j u => match lkT I t with
        | some y => match y.desc with
          | .map k _ => match evO env x with
            | some (.map (some r)) => match evO env j with
              | some v => match evO env u with
                | some b => some (k, r, v, b)
                | none => none
              | none => none
            | _ => none
          | _ => none
        | none => none
      | _ => none
    | some _ => none
def setM {β : Type} (g : List UInt8 → Option β) (x : List UInt8) (b : β) : List UInt8 → Option β := fun y => if y = x then some b else g y
theorem st_mu {β : Type} (hI : I.Ok P) {k r : Nat} {v u : Value} (h : muE I f.n ops env o = some (k, r, v, u)) (hK : IdKey P k) {x : List UInt8} (hx : x.length = 32) (hv : v = idV x) {enc : β → Value} {g : List UInt8 → Option β} (hm : MapB w r enc g) {b : β} (hb : u = enc b)
    (kk : ∀ w', MapB w' r enc (setM g x b) → Ext (One r) w w' → w'.heap.size = w.heap.size → K env w') : St P f ops o env w K := by
  subst hv
  subst hb
  unfold muE at h
  split at h
  · cases h
  · rename_i hp
    obtain ⟨h1, h2⟩ := pre_eq hp
    split at h
    · rename_i hd
      split at h
      · rename_i t xx j uu ho
        split at h
        · rename_i y hy
          split at h
          · rename_i k' e he
            split at h
            · rename_i r' hxx
              split at h
              · rename_i v' hj
                split at h
                · rename_i u' huu
                  simp only [Option.some.injEq, Prod.mk.injEq] at h
                  obtain ⟨rfl, rfl, rfl, rfl⟩ := h
                  have hu := (hI.get hy).under w
                  rw [he] at hu
                  obtain ⟨es, c, hh, a1, a2, a3⟩ := hm
                  obtain ⟨l, hl⟩ := hK.key x hx
                  have hfind := hK.law.find w hl es.toList (MapB.keys hK a1)
                  have hchk := hK.law.check w false hl
                  obtain ⟨es', c', hr, hM⟩ : ∃ es' c', (Instr.mapUpdate t (.map (some r')) (idV x) (enc b)).run P w = .ok () { w with heap := w.heap.setIfInBounds r' (.map es' c') } ∧
                      ((∀ e ∈ es'.toList, ∃ y b', y.length = 32 ∧ e.key = idV y ∧ e.val = enc b' ∧ setM g x b y = some b') ∧ (∀ y b', setM g x b y = some b' → ∃ e ∈ es'.toList, e.key = idV y) ∧ (es'.toList.map (·.key)).Nodup) := by
                    rcases hfind with ⟨f1, f2⟩ | ⟨j', e0, f1, f2, f3⟩
                    · refine ⟨es.push ⟨idV x, enc b, c⟩, c + 1, ?_, ?_, ?_, ?_⟩
                      · unfold Instr.mapUpdate
                        rw [run_under_bind hu]
                        simp [MapKept.run_getObj_map hh, hchk, f1, MapKept.run_setObj_map _ hh, Result.andThen]
                      · intro e he
                        simp only [Array.toList_push, List.mem_append, List.mem_singleton] at he
                        rcases he with he | rfl
                        · obtain ⟨y, b', q1, q2, q3, q4⟩ := a1 e he
                          refine ⟨y, b', q1, q2, q3, ?_⟩
                          rw [setM, if_neg fun e1 => f2 e he (by rw [q2, e1])]
                          exact q4
                        · exact ⟨x, b, hx, rfl, rfl, if_pos rfl⟩
                      · intro y b' hy'
                        by_cases e1 : y = x
                        · exact ⟨⟨idV x, enc b, c⟩, by simp, by rw [e1]⟩
                        · rw [setM, if_neg e1] at hy'
                          obtain ⟨e, he, hk⟩ := a2 y b' hy'
                          exact ⟨e, by simp [Array.mem_toList_iff.1 he], hk⟩
                      · rw [Array.toList_push, List.map_append, List.nodup_append]
                        refine ⟨a3, by simp, fun q hq q' hq' e1 => ?_⟩
                        simp only [List.map_cons, List.map_nil, List.mem_singleton] at hq'
                        obtain ⟨e, he, rfl⟩ := List.mem_map.1 hq
                        exact f2 e he (e1.trans hq')
                    · have hj' : es[j']? = some e0 := by simpa using f2
                      have hjl : j' < es.toList.length := (List.getElem?_eq_some_iff.1 f2).1
                      have hlist : (es.modify j' (fun e' => { e' with key := idV x, val := enc b })).toList = es.toList.set j' { e0 with key := idV x, val := enc b } := by rw [Array.toList_modify, ChangeMaps.modify_eq_set _ _ _ _ f2]
                      have hkeys : (es.toList.set j' { e0 with key := idV x, val := enc b }).map (·.key) = es.toList.map (·.key) := by
                        rw [List.map_set]
                        refine List.ext_getElem? fun i => ?_
                        rw [List.getElem?_set]
                        split
                        · rename_i hij
                          subst hij
                          rw [List.getElem?_map, f2]
                          have hjs : j' < es.size := by simpa using hjl
                          simp [hjs, f3]
                        · rfl
                      have hmem : e0 ∈ es.toList := List.mem_of_getElem? f2
                      refine ⟨es.modify j' (fun e' => { e' with key := idV x, val := enc b }), c, ?_, ?_, ?_, ?_⟩
                      · unfold Instr.mapUpdate
                        rw [run_under_bind hu]
                        simp [MapKept.run_getObj_map hh, hchk, f1, hj', f3, hK.law.stays w hl, MapKept.run_setObj_map _ hh, Result.andThen]
                      · rw [hlist]
                        intro e he
                        obtain ⟨i, hi, rfl⟩ := List.mem_iff_getElem.1 he
                        rw [List.length_set] at hi
                        by_cases hij : j' = i
                        · subst hij
                          rw [List.getElem_set_self]
                          exact ⟨x, b, hx, rfl, rfl, if_pos rfl⟩
                        · rw [List.getElem_set_ne hij]
                          obtain ⟨y, b', q1, q2, q3, q4⟩ := a1 _ (List.getElem_mem hi)
                          refine ⟨y, b', q1, q2, q3, ?_⟩
                          rw [setM, if_neg fun e1 => ?_]
                          · exact q4
                          · rw [e1, ← f3] at q2
                            have h6 := List.pairwise_iff_getElem.1 a3
                            have h7 := (List.getElem?_eq_some_iff.1 f2).2
                            rcases Nat.lt_or_gt_of_ne hij with hlt | hlt
                            · refine h6 j' i (by simpa using hjl) (by simpa using hi) hlt ?_
                              simp only [List.getElem_map]
                              rw [h7, q2]
                            · refine h6 i j' (by simpa using hi) (by simpa using hjl) hlt ?_
                              simp only [List.getElem_map]
                              rw [h7, q2]
                      · rw [hlist]
                        intro y b' hy'
                        by_cases e1 : y = x
                        · exact ⟨{ e0 with key := idV x, val := enc b }, List.mem_iff_getElem.2 ⟨j', by rw [List.length_set]; exact hjl, List.getElem_set_self _⟩, by rw [e1]⟩
                        · rw [setM, if_neg e1] at hy'
                          obtain ⟨e, he, hk⟩ := a2 y b' hy'
                          have : e.key ∈ (es.toList.set j' { e0 with key := idV x, val := enc b }).map (·.key) := by rw [hkeys]; exact List.mem_map.2 ⟨e, he, rfl⟩
                          obtain ⟨e', he', hk'⟩ := List.mem_map.1 this
                          exact ⟨e', he', hk'.trans hk⟩
                      · rw [hlist, hkeys]
                        exact a3
                  obtain ⟨m1, m2, m3⟩ := ext_setMap hh es' c'
                  refine st_s h1 h2 (fun ρ hρ => ?_) (by rw [hd]; exact kk _ ⟨es', c', m3, hM⟩ m1 m2)
                  simp only [execOp, ho, hρ _ _ hxx, hρ _ _ hj, hρ _ _ huu, Sem.run_bind, hr, Result.andThen_ok, Sem.run_pure]
                · cases h
              · cases h
            · cases h
          · cases h
        · cases h
      · cases h
    · cases h
end
end Go.Vc
namespace Go.Vc
abbrev noP : ObjP := ⟨none, 0, none, 0, none, 0⟩
structure HeldT where
  id : List UInt8
  o : ObjD
  a : ObjP
def heldC (h : HeldT) : List Value := bytesU h.id ++ objC h.o h.a
instance (h : HeldT) : OneC (heldC h) := by unfold heldC; infer_instance
theorem heldC_len {h : HeldT} (hi : h.id.length = 32) (ho : ObjIn h.o) : (heldC h).length = 105 := by
  rw [heldC, List.length_append, bytesU_len, hi, objC_len ho]
abbrev blobO (t : Str) : ObjD := { objZ with kind := 1, text := t }
abbrev treeO (l : List LeafD) : ObjD := { objZ with kind := 2, leaves := l }
theorem blobO_in (t : Str) : ObjIn (blobO t) := ⟨objZ_in.tree, objZ_in.base, objZ_in.parents, objZ_in.leaves, objZ_in.rows, objZ_in.number, objZ_in.author⟩
theorem blob_ok {t : Str} (h : t.length ≤ 256) : ObjOk (blobO t) := by
  refine ⟨.inl ⟨rfl, h, rfl, rfl, rfl, rfl, rfl, rfl, rfl, rfl, rfl⟩, ?_⟩
  have e : laidB (blobO t) = be 1 1 ++ strB 2 t := rfl
  rw [e, List.length_append, be_len, strB, List.length_append, be_len]
  omega
def leafOf (r : RowD) : LeafD := ⟨r.path, idOf (blobO r.text)⟩
def leavesOf (l : List RowD) : List LeafD := l.map leafOf
/-- a text more, if its Id is new -/
def addB (acc : List HeldT) (r : RowD) : List HeldT := if idOf (blobO r.text) ∈ acc.map HeldT.id then acc else acc ++ [⟨idOf (blobO r.text), blobO r.text, noP⟩]
def blobsOf (l : List RowD) : List HeldT := l.foldl addB []
theorem blobsOf_take {l : List RowD} {i : Nat} (h : i < l.length) : blobsOf (l.take (i + 1)) = addB (blobsOf (l.take i)) l[i] := by
  rw [List.take_succ_eq_append_getElem h, blobsOf, List.foldl_append]
  rfl
theorem addB_len (acc : List HeldT) (r : RowD) : (addB acc r).length ≤ acc.length + 1 := by
  unfold addB
  split
  · omega
  · rw [List.length_append]; exact Nat.le_refl _
theorem blobsOf_len (l : List RowD) : (blobsOf l).length ≤ l.length := by
  have : ∀ (l : List RowD) (acc : List HeldT), (l.foldl addB acc).length ≤ acc.length + l.length := by
    intro l
    induction l with
    | nil => intro acc; exact Nat.le_refl _
    | cons r l ih =>
      intro acc
      rw [List.foldl_cons, List.length_cons]
      have h1 := ih (addB acc r)
      have h2 := addB_len acc r
      omega
  have h := this l []
  simpa [blobsOf] using h
theorem leavesOf_take {l : List RowD} {i : Nat} (h : i < l.length) : (leavesOf l).take (i + 1) = (leavesOf l).take i ++ [leafOf l[i]] := by
  rw [List.take_succ_eq_append_getElem (by rw [leavesOf, List.length_map]; exact h)]
  simp [leavesOf]
/-- which Ids have come -/
def metF (l : List HeldT) : List UInt8 → Option Bool := fun x => if x ∈ l.map HeldT.id then some true else none
theorem metF_step (l : List HeldT) (r : RowD) : setM (metF l) (idOf (blobO r.text)) true = metF (addB l r) := by
  funext x
  unfold setM metF addB
  by_cases h1 : x = idOf (blobO r.text)
  · subst h1
    by_cases h2 : idOf (blobO r.text) ∈ l.map HeldT.id
    · simp [h2]
    · simp [h2]
  · by_cases h2 : idOf (blobO r.text) ∈ l.map HeldT.id
    · simp [h1, h2]
    · simp [h1, h2]
/-- a map's parts: the texts, each Id once, and behind them the tree -/
def partsOf (l : List RowD) (a : ObjP) : List HeldT := blobsOf l ++ if ObjOk (treeO (leavesOf l)) then [⟨idOf (treeO (leavesOf l)), treeO (leavesOf l), a⟩] else []
theorem idOf_len (o : ObjD) : (idOf o).length = 32 := sumW_len _
theorem leavesOf_in {l : List RowD} (h : ∀ r ∈ l, r.path.length ≤ maxLen) : ∀ x ∈ leavesOf l, x.path.length ≤ maxLen ∧ x.id.length = 32 := fun x hx => by
  obtain ⟨r, hr, rfl⟩ := List.mem_map.1 hx
  exact ⟨h r hr, idOf_len _⟩
theorem treeO_in {l : List LeafD} (h : ∀ x ∈ l, x.path.length ≤ maxLen ∧ x.id.length = 32) : ObjIn (treeO l) := ⟨objZ_in.tree, objZ_in.base, objZ_in.parents, h, objZ_in.rows, objZ_in.number, objZ_in.author⟩
theorem Own.extMap {β : Type} {w w' : World} {p : Option Addr} {n c T sz : Nat} {xs : List Value} (ho : Own w p n c T sz xs) {r : Nat} {enc : β → Value} {g : List UInt8 → Option β} (hm : MapB w r enc g) (hE : Ext (One r) w w') : Own w' p n c T sz xs :=
  ho.ext hE fun x hx e => by
    have e : x = r := e
    subst e
    obtain ⟨l, hl⟩ := ho.blkAt hx
    exact hm.ne hl rfl
theorem Blk.extMap {β : Type} {w w' : World} {b T : Nat} {L : List Value} (hb : Blk w b T L) {r : Nat} {enc : β → Value} {g : List UInt8 → Option β} (hm : MapB w r enc g) (hE : Ext (One r) w w') : Blk w' b T L := hb.ext1 hE (hm.ne hb).symm
/-- what an iterator's own steps turn, and what a round's do -/
def ItS (T1 T2 : Nat) (w : World) (x : Nat) : Prop := (∃ T L, Blk w x T L ∧ T ≠ T1 ∧ T ≠ T2) ∨ ∃ es c, w.heap[x]? = some (.map es c)
def CoS (T1 T2 : Nat) (w : World) (x : Nat) : Prop := (∃ L, Blk w x T1 L) ∨ (∃ L, Blk w x T2 L) ∨ ∃ r, w.heap[x]? = some (.loop r)
section
variable {T1 T2 N : Nat} {w w' : World}
theorem Blk.extCo {x T : Nat} {L : List Value} (hb : Blk w x T L) (hE : Ext (fun y => N ≤ y ∧ CoS T1 T2 w y) w w') (h1 : T ≠ T1) (h2 : T ≠ T2) : Blk w' x T L :=
  hb.ext hE fun ⟨_, h⟩ => by
    rcases h with ⟨L', h⟩ | ⟨L', h⟩ | ⟨r, h⟩
    · exact h1 (hb.uniq h).2
    · exact h2 (hb.uniq h).2
    · rw [Blk, h] at hb; cases hb
theorem Own.extCo {p : Option Addr} {n c T sz : Nat} {xs : List Value} (ho : Own w p n c T sz xs) (hE : Ext (fun y => N ≤ y ∧ CoS T1 T2 w y) w w') (h1 : T ≠ T1) (h2 : T ≠ T2) : Own w' p n c T sz xs :=
  ho.ext hE fun x hx ⟨_, h⟩ => by
    obtain ⟨l, hl⟩ := ho.blkAt hx
    rcases h with ⟨L', h⟩ | ⟨L', h⟩ | ⟨r, h⟩
    · exact h1 (hl.uniq h).2
    · exact h2 (hl.uniq h).2
    · rw [Blk, h] at hl; cases hl
theorem MapB.extCo {β : Type} {r : Nat} {enc : β → Value} {g : List UInt8 → Option β} (hm : MapB w r enc g) (hE : Ext (fun y => N ≤ y ∧ CoS T1 T2 w y) w w') : MapB w' r enc g :=
  hm.ext hE fun ⟨_, h⟩ => by
    rcases h with ⟨L', h⟩ | ⟨L', h⟩ | ⟨q, h⟩
    · exact hm.ne h rfl
    · exact hm.ne h rfl
    · obtain ⟨es, c, h', _⟩ := hm
      rw [h'] at h; cases h
end
end Go.Vc
namespace Go.Proofs.YtjghckniloikgaaDoor
open Go.Vc
theorem objZ_sh : Short objZ := ⟨by decide, by decide, by decide, fun _ h => absurd h List.not_mem_nil, fun _ h => absurd h List.not_mem_nil⟩
section
variable {l : List UInt8}
theorem dec0 (h : l = []) : decB l = (objZ, 7) := if_pos h
theorem dec1 {k : Nat} (h : l ≠ []) (hk : k = num ((⟨l, false⟩ : Ds).off 1).1) (h1 : k = 1) : decB l = endB l ({ objZ with kind := 1, text := (((⟨l, false⟩ : Ds).off 1).2.str 2).1 }, (((⟨l, false⟩ : Ds).off 1).2.str 2).2) := by
  rw [decB, if_neg h]
  exact if_pos (hk.symm.trans h1)
theorem dec2 {k : Nat} (h : l ≠ []) (hk : k = num ((⟨l, false⟩ : Ds).off 1).1) (h1 : k = 2) : decB l = endB l ({ objZ with kind := 2, leaves := (((⟨l, false⟩ : Ds).off 1).2.row Ds.leaf).1 }, (((⟨l, false⟩ : Ds).off 1).2.row Ds.leaf).2) := by
  rw [decB, if_neg h]
  exact (if_neg (by omega)).trans (if_pos (hk.symm.trans h1))
theorem dec3 {k : Nat} (h : l ≠ []) (hk : k = num ((⟨l, false⟩ : Ds).off 1).1) (h1 : k = 3) : decB l = endB l ((⟨l, false⟩ : Ds).off 1).2.com := by
  rw [decB, if_neg h]
  exact (if_neg (by omega)).trans ((if_neg (by omega)).trans (if_pos (hk.symm.trans h1)))
theorem dec4 {k : Nat} (h : l ≠ []) (hk : k = num ((⟨l, false⟩ : Ds).off 1).1) (h1 : ¬ k = 1) (h2 : ¬ k = 2) (h3 : ¬ k = 3) : decB l = (objZ, 160) := by
  rw [decB, if_neg h]
  exact (if_neg (by omega)).trans ((if_neg (by omega)).trans (if_neg (by omega)))
end
theorem Ds.off_lt {s : Ds} {n : Nat} (h : s.rest.length < 1000000000) : (s.off n).2.rest.length < 1000000000 := Nat.lt_of_le_of_lt (s.off_len n).2.1 h
theorem decode_calls (w : World) {p : Option Addr} {c : Nat} {l : List UInt8} (h : SlB w p l) (hl : l.length < 1000000000) :
    CallsV Tryd.prog 22 [.slice p l.length c] w fun v w' => ∃ a, v = .tuple #[.agg (objC (decB l).1 a).toArray, .int .i64 (decB l).2] ∧ ObjNew w w' (decB l).1 a ∧ Ext No w w' := by
  refine calls_enter Tryd.func22 rfl rfl rfl rfl ?_
  have hX := Ext.refl No w
  refine c_seq (c_region (wl (st_al I_ok rfl fun b2 w1 hn2 hb2 hE1 => ?_)))
  have fr2 := Nat.le_trans hX.size hn2
  have hX := hX.thenNo hE1
  have hb2o := hb2
  have hX1 := hX
  refine wl_p I_ok rfl (wl_nil (f_then (c_seq (c_region (wl_p I_ok rfl (wl (st_call Tryd.call40 rfl rfl rfl rfl rfl rfl (read_calls w1 (h.extNo hX) hl) fun v2 w2 hr2 => ?_)))))))
  obtain ⟨rb, rfl, hrn, hR, hE2⟩ := hr2
  have hb2 := hb2.extNo hE2
  have hX := hX.thenNo hE2
  have hR : RdS w2 rb ⟨l, false⟩ := hR
  refine wl (st_bd I_ok rfl ⟨⟨rfl, by decide⟩, trivial⟩ (l' := [.pointer (some ⟨rb, 0, none⟩)]) rfl (wl (st_al I_ok rfl fun b4 w3 hn4 hb4 hE3 => ?_)))
  have ne2_4 : b2 ≠ b4 := Nat.ne_of_lt (Nat.lt_of_lt_of_le hb2.lt hn4)
  have fr4 := Nat.le_trans hX.size hn4
  have hb2 := hb2.extNo hE3
  have hR := RdS.extNo hR hE3
  have hX := hX.thenNo hE3
  have hn4o := hn4
  have hb4o := hb4
  refine wl (st_stW (l' := [.pointer (some ⟨rb, 0, none⟩)]) I_ok hb4 rfl rfl rfl rfl OneC.h fun w4 hb4 hE4 hs4 => ?_)
  have hb2 := hb2.ext1 hE4 ne2_4
  have hR := RdS.ext1 hR hE4 hb4o (by decide) (by decide)
  have hX := hX.thenNew hE4 fr4
  refine wl_nil (f_then (c_seq (c_region (wl_p I_ok rfl (wl (st_ldb I_ok hb4 rfl rfl (wl (st_call Tryd.call41 rfl rfl rfl rfl rfl rfl (hR.u8 hl) fun v5 w5 hr5 => ?_))))))))
  obtain ⟨rfl, hR2, hE5⟩ := hr5
  have hb2 := hb2.ext1 hE5 (hR.ne hb2 (by decide)).symm
  have hb4 := hb4.ext1 hE5 (hR.ne hb4 (by decide)).symm
  have hX := hX.trans hE5 fun y hy hF => by have hF : y = rb := hF; have := hX1.size; omega
  have hR := hR2
  have hnm := (⟨l, false⟩ : Ds).num_lt 1
  refine wl_p I_ok rfl ?_
  rw [IntWalk.i64_in _ (by omega)]
  obtain ⟨k, hk⟩ : ∃ k, k = num ((⟨l, false⟩ : Ds).off 1).1 := ⟨_, rfl⟩
  rw [← hk]
  refine wl (st_bd I_ok rfl ⟨⟨rfl, by decide⟩, trivial⟩ (l' := objC { objZ with kind := (k : Int) } noP) (by rw [← objZ_c]; rfl) (wl (st_al I_ok rfl fun b5 w6 hn5 hb5 hE6 => ?_)))
  have ne2_5 : b2 ≠ b5 := Nat.ne_of_lt (Nat.lt_of_lt_of_le hb2.lt hn5)
  have ne4_5 : b4 ≠ b5 := Nat.ne_of_lt (Nat.lt_of_lt_of_le hb4.lt hn5)
  have fr5 := Nat.le_trans hX.size hn5
  have hb2 := hb2.extNo hE6
  have hb4 := hb4.extNo hE6
  have hR := RdS.extNo hR hE6
  have hX := hX.thenNo hE6
  have hb5o := hb5
  refine wl (st_stW (l' := objC { objZ with kind := (k : Int) } noP) I_ok hb5 rfl rfl rfl rfl OneC.h fun w7 hb5 hE7 hs7 => ?_)
  have hb2 := hb2.ext1 hE7 ne2_5
  have hb4 := hb4.ext1 hE7 ne4_5
  have hR := RdS.ext1 hR hE7 hb5o (by decide) (by decide)
  have hX := hX.thenNew hE7 fr5
  have hX1s := hX1.size
  have z2 := hE2.size
  have z3 := hE3.size
  have z4 := hE4.size
  have z5 := hE5.size
  have hXX : Ext No w1 w7 := ((((((hE2.thenNo hE3).thenNew hE4 (by omega)).trans hE5 fun y hy hF => by have hF : y = rb := hF; omega).thenNo hE6).thenNew hE7 (by omega)))
  have hD : DecS w1 w7 rb b4 b5 { objZ with kind := (k : Int) } noP ((⟨l, false⟩ : Ds).off 1).2 := ⟨hR, hb4, hb5, Own.nil _ _ _, Own.nil _ _ _, Own.nil _ _ _, noOwn, noOwn, noOwn, hrn, by omega, hXX, Ds.off_lt hl, ⟨objZ_in.tree, objZ_in.base, objZ_in.parents, objZ_in.leaves, objZ_in.rows, objZ_in.number, objZ_in.author⟩, ⟨objZ_sh.leaves, objZ_sh.parents, objZ_sh.rows, objZ_sh.leafP, objZ_sh.rowP⟩⟩
  refine wl_nil (f_then (c_seq (c_seq (c_region (wl_p I_ok rfl (wl_nil (f_then (c_if rfl (fun hc => ?_) (fun hc => ?_)))))))))
  · have hl0 : l = [] := List.eq_nil_of_length_eq_zero (by omega)
    refine c_seq (c_region (wl (st_bd I_ok rfl trivial (l' := objC objZ noP) objZ_c.symm (wl (st_stW (l' := objC objZ noP) I_ok hb2 rfl rfl rfl rfl OneC.h fun w8 hb2 hE8 hs8 => ?_)))))
    have hX := hX.thenNew hE8 fr2
    refine wl_p I_ok rfl (wl_nil (f_then (c_ret (f_thenR (f_ret [_, _] ⟨⟨b2, 0, rfl, ld_all I_ok rfl rfl hb2.seg rfl⟩, rfl, trivial⟩ ?_)))))
    exact ⟨noP, by rw [dec0 hl0]; rfl, by rw [dec0 hl0]; exact ObjNew.nil _ _ _ rfl rfl rfl, hX⟩
  · have hne : l ≠ [] := fun e => hc (by rw [e]; rfl)
    refine c_skip (f_then (c_cutK (α := ObjD × ObjP × Ds) [0, 2, 4, 5] rfl (fun z => []) (fun z u => (DecS w1 u rb b4 b5 z.1 z.2.1 z.2.2 ∧ decB l = endB l (z.1, z.2.2)) ∧ Blk u b2 33 (cellsOf ti33.zero) ∧ Ext No w u) ?_ ?_))
    · refine c_seq ?_
      refine c_region (wl_p I_ok rfl (wl (st_ld I_ok rfl ((hD.bo.seg.obj hD.oin).kind) ?_)))
      dsimp only
      refine wl_nil (f_then (c_block (c_seq (c_region (wl_p I_ok rfl (wl_nil (f_then (c_if rfl (fun hc => ?_) (fun hc => ?_)))))))))
      · obtain rfl : k = 1 := by omega
        refine c_region (wl (st_ldN I_ok rfl hD.bs.seg rfl (wl (st_call Tryd.call42 rfl rfl rfl rfl rfl rfl (text_rd w7 hD.rd hD.len) fun v9 w9 hr9 => ?_))))
        obtain ⟨rfl, hR2, hE9⟩ := hr9
        have hD := hD.read hR2 hE9 (Ds.str_len _ 2).2
        have hb2 := hb2o.extNo hD.X
        have hX := hX1.thenNo hD.X
        refine wl_p I_ok rfl (wl (st_st I_ok hD.bo rfl rfl rfl fun w10 hbo hE10 hs10 => ?_))
        have hD := hD.put hE10 (o' := { objZ with kind := ((1 : Nat) : Int), text := (((⟨l, false⟩ : Ds).off 1).2.str 2).1 }) hbo rfl rfl rfl ⟨hD.oin.tree, hD.oin.base, hD.oin.parents, hD.oin.leaves, hD.oin.rows, hD.oin.number, hD.oin.author⟩ ⟨hD.sh.leaves, hD.sh.parents, hD.sh.rows, hD.sh.leafP, hD.sh.rowP⟩
        have hb2 := hb2o.extNo hD.X
        have hX := hX1.thenNo hD.X
        refine wl_nil ?_
        exact f_blockN (f_cut (_, _, _) rfl ⟨⟨hD, dec1 hne hk rfl⟩, hb2, hX⟩)
      · have h1 : ¬ k = 1 := by omega
        refine c_seq (c_region (wl_p I_ok rfl (wl_nil (f_then (c_if rfl (fun hc => ?_) (fun hc => ?_))))))
        · obtain rfl : k = 2 := by omega
          refine c_region (wl (st_ldN I_ok rfl hD.bs.seg rfl (wl (st_mf rfl ?_))))
          refine wl (st_call Tryd.call43 rfl rfl rfl rfl rfl rfl (each_rd Ds.leaf w7 Tryd.call44 (fun acc s u => ∃ a, DecS w1 u rb b4 b5 { objZ with kind := ((2 : Nat) : Int), leaves := acc } a s) hD.len (fun acc s u ⟨a, h⟩ => h.rd) (fun acc s u u' ⟨a, h⟩ hE => ⟨a, h.extNo hE⟩) (fun acc s s' u u' ⟨a, h⟩ hR hl hE => ⟨a, h.read hR hE hl⟩) (fun acc s u ⟨a, h⟩ _ hl => dec1_calls u h hl) ⟨_, hD⟩) fun v11 w11 hr11 => ?_)
          obtain ⟨rfl, ⟨aa, hD⟩, hk1, hE11⟩ := hr11
          have hb2 := hb2o.extNo hD.X
          have hX := hX1.thenNo hD.X
          refine wl_nil ?_
          exact f_blockN (f_cut (_, _, _) rfl ⟨⟨hD, dec2 hne hk rfl⟩, hb2, hX⟩)
        · have h2 : ¬ k = 2 := by omega
          refine c_seq (c_region (wl_p I_ok rfl (wl_nil (f_then (c_if rfl (fun hc => ?_) (fun hc => ?_))))))
          · obtain rfl : k = 3 := by omega
            generalize hs1 : ((⟨l, false⟩ : Ds).off 1).2 = s1 at hD
            refine c_seq (c_region (wl_p I_ok rfl (wl (st_ld I_ok rfl (hD.bs.cell rfl) (wl (st_call Tryd.call41 rfl rfl rfl rfl rfl rfl (hD.rd.u8 hD.len) fun v12 w12 hr12 => ?_))))))
            obtain ⟨rfl, hR2, hE12⟩ := hr12
            have hD := hD.read hR2 hE12 (Ds.off_len _ 1).2.1
            have hb2 := hb2o.extNo hD.X
            have hX := hX1.thenNo hD.X
            have hn1 := s1.num_lt 1
            refine wl_p I_ok rfl ?_
            rw [IntWalk.i64_in _ (by omega)]
            refine wl_p I_ok rfl (wl (st_st I_ok hD.bo rfl rfl rfl fun w13 hbo hE13 hs13 => ?_))
            have hD := hD.put hE13 (o' := { objZ with kind := ((3 : Nat) : Int), style := (num (s1.off 1).1 : Nat) }) hbo rfl rfl rfl ⟨hD.oin.tree, hD.oin.base, hD.oin.parents, hD.oin.leaves, hD.oin.rows, hD.oin.number, hD.oin.author⟩ ⟨hD.sh.leaves, hD.sh.parents, hD.sh.rows, hD.sh.leafP, hD.sh.rowP⟩
            have hb2 := hb2o.extNo hD.X
            have hX := hX1.thenNo hD.X
            refine wl_nil (f_then (c_seq (c_region (wl (st_ldN I_ok rfl hD.bs.seg rfl (wl (st_call Tryd.call46 rfl rfl rfl rfl rfl rfl (id_rd w13 hD.rd hD.len) fun v14 w14 hr14 => ?_)))))))
            obtain ⟨rfl, hR2, hE14⟩ := hr14
            have hD := hD.read hR2 hE14 (Ds.id_len _).2
            have hb2 := hb2o.extNo hD.X
            have hX := hX1.thenNo hD.X
            refine wl_p I_ok rfl (wl (st_stN I_ok hD.bo rfl (by rw [cellsOf_agg, bytesU_len, (Ds.id_len _).1]) (by rw [objC_len hD.oin]; decide) (by rw [cellsOf_agg]; exact OneC.h) fun w15 hbo hE15 hs15 => ?_))
            rw [cellsOf_agg] at hbo
            have hbo := (show _ = _ from objC_tree hD.oin (Ds.id_len _).1) ▸ hbo
            have hD := hD.put hE15 (o' := { objZ with kind := ((3 : Nat) : Int), style := (num (s1.off 1).1 : Nat), tree := (s1.off 1).2.id.1 }) hbo rfl rfl rfl ⟨(Ds.id_len _).1, hD.oin.base, hD.oin.parents, hD.oin.leaves, hD.oin.rows, hD.oin.number, hD.oin.author⟩ ⟨hD.sh.leaves, hD.sh.parents, hD.sh.rows, hD.sh.leafP, hD.sh.rowP⟩
            have hb2 := hb2o.extNo hD.X
            have hX := hX1.thenNo hD.X
            refine wl_nil (f_then (c_seq (c_region (wl (st_ldN I_ok rfl hD.bs.seg rfl (wl (st_mf rfl ?_)))))))
            refine wl (st_call Tryd.call43 rfl rfl rfl rfl rfl rfl (each_rd Ds.id w15 Tryd.call47 (fun acc s u => ∃ a, DecS w1 u rb b4 b5 { objZ with kind := ((3 : Nat) : Int), style := (num (s1.off 1).1 : Nat), tree := (s1.off 1).2.id.1, parents := acc } a s) hD.len (fun acc s u ⟨a, h⟩ => h.rd) (fun acc s u u' ⟨a, h⟩ hE => ⟨a, h.extNo hE⟩) (fun acc s s' u u' ⟨a, h⟩ hR hl hE => ⟨a, h.read hR hE hl⟩) (fun acc s u ⟨a, h⟩ _ hl => dec2_calls u h hl) ⟨_, hD⟩) fun v16 w16 hr16 => ?_)
            obtain ⟨rfl, ⟨aa, hD⟩, hk1, hE16⟩ := hr16
            have hb2 := hb2o.extNo hD.X
            have hX := hX1.thenNo hD.X
            refine wl_nil (f_then (c_seq (c_region (wl (st_ldN I_ok rfl hD.bs.seg rfl (wl (st_call Tryd.call46 rfl rfl rfl rfl rfl rfl (id_rd w16 hD.rd hD.len) fun v17 w17 hr17 => ?_)))))))
            obtain ⟨rfl, hR2, hE17⟩ := hr17
            have hD := hD.read hR2 hE17 (Ds.id_len _).2
            have hb2 := hb2o.extNo hD.X
            have hX := hX1.thenNo hD.X
            refine wl_p I_ok rfl (wl (st_stN I_ok hD.bo rfl (by rw [cellsOf_agg, bytesU_len, (Ds.id_len _).1]) (by rw [objC_len hD.oin]; decide) (by rw [cellsOf_agg]; exact OneC.h) fun w18 hbo hE18 hs18 => ?_))
            rw [cellsOf_agg] at hbo
            have hbo := (show _ = _ from objC_base hD.oin (Ds.id_len _).1) ▸ hbo
            have hD := hD.put hE18 (o' := { objZ with kind := ((3 : Nat) : Int), style := (num (s1.off 1).1 : Nat), tree := (s1.off 1).2.id.1, parents := ((s1.off 1).2.id.2.row Ds.id).1, base := ((s1.off 1).2.id.2.row Ds.id).2.id.1 }) hbo rfl rfl rfl ⟨hD.oin.tree, (Ds.id_len _).1, hD.oin.parents, hD.oin.leaves, hD.oin.rows, hD.oin.number, hD.oin.author⟩ ⟨hD.sh.leaves, hD.sh.parents, hD.sh.rows, hD.sh.leafP, hD.sh.rowP⟩
            have hb2 := hb2o.extNo hD.X
            have hX := hX1.thenNo hD.X
            refine wl_nil (f_then (c_seq (c_region (wl (st_ldN I_ok rfl hD.bs.seg rfl (wl (st_mf rfl ?_)))))))
            refine wl (st_call Tryd.call43 rfl rfl rfl rfl rfl rfl (each_rd Ds.chg w18 Tryd.call48 (fun acc s u => ∃ a, DecS w1 u rb b4 b5 { objZ with kind := ((3 : Nat) : Int), style := (num (s1.off 1).1 : Nat), tree := (s1.off 1).2.id.1, parents := ((s1.off 1).2.id.2.row Ds.id).1, base := ((s1.off 1).2.id.2.row Ds.id).2.id.1, rows := acc } a s) hD.len (fun acc s u ⟨a, h⟩ => h.rd) (fun acc s u u' ⟨a, h⟩ hE => ⟨a, h.extNo hE⟩) (fun acc s s' u u' ⟨a, h⟩ hR hl hE => ⟨a, h.read hR hE hl⟩) (fun acc s u ⟨a, h⟩ _ hl => dec3_calls u h hl) ⟨_, hD⟩) fun v19 w19 hr19 => ?_)
            obtain ⟨rfl, ⟨aa, hD⟩, hk1, hE19⟩ := hr19
            have hb2 := hb2o.extNo hD.X
            have hX := hX1.thenNo hD.X
            refine wl_nil (f_then (c_seq (c_region (wl_p I_ok rfl (wl (st_ld I_ok rfl (hD.bs.cell rfl) (wl (st_call Tryd.call49 rfl rfl rfl rfl rfl rfl (hD.rd.u32 hD.len) fun v20 w20 hr20 => ?_))))))))
            obtain ⟨rfl, hR2, hE20⟩ := hr20
            have hD := hD.read hR2 hE20 (Ds.off_len _ 4).2.1
            have hb2 := hb2o.extNo hD.X
            have hX := hX1.thenNo hD.X
            refine wl_p I_ok rfl (wl (st_set I_ok hD.bo rfl rfl (by rw [objC_len hD.oin]; decide) fun w21 hbo hE21 hs21 => ?_))
            have hbo := (show _ = _ from objC_set hD.oin 2 _) ▸ (show Blk w21 b5 33 ((objC _ aa).set (68 + 2) _) from hbo)
            have hD := hD.put hE21 (o' := { objZ with kind := ((3 : Nat) : Int), style := (num (s1.off 1).1 : Nat), tree := (s1.off 1).2.id.1, parents := ((s1.off 1).2.id.2.row Ds.id).1, base := ((s1.off 1).2.id.2.row Ds.id).2.id.1, rows := (((s1.off 1).2.id.2.row Ds.id).2.id.2.row Ds.chg).1, number := num ((((s1.off 1).2.id.2.row Ds.id).2.id.2.row Ds.chg).2.off 4).1 }) hbo rfl rfl rfl ⟨hD.oin.tree, hD.oin.base, hD.oin.parents, hD.oin.leaves, hD.oin.rows, (Ds.num_lt _ 4), hD.oin.author⟩ ⟨hD.sh.leaves, hD.sh.parents, hD.sh.rows, hD.sh.leafP, hD.sh.rowP⟩
            have hb2 := hb2o.extNo hD.X
            have hX := hX1.thenNo hD.X
            refine wl_nil (f_then (c_seq (c_region (wl_p I_ok rfl (wl (st_ld I_ok rfl (hD.bs.cell rfl) (wl (st_call Tryd.call49 rfl rfl rfl rfl rfl rfl (hD.rd.u32 hD.len) fun v22 w22 hr22 => ?_))))))))
            obtain ⟨rfl, hR2, hE22⟩ := hr22
            have hD := hD.read hR2 hE22 (Ds.off_len _ 4).2.1
            have hb2 := hb2o.extNo hD.X
            have hX := hX1.thenNo hD.X
            refine wl_p I_ok rfl (wl (st_set I_ok hD.bo rfl rfl (by rw [objC_len hD.oin]; decide) fun w23 hbo hE23 hs23 => ?_))
            have hbo := (show _ = _ from objC_set hD.oin 3 _) ▸ (show Blk w23 b5 33 ((objC _ aa).set (68 + 3) _) from hbo)
            have hD := hD.put hE23 (o' := { objZ with kind := ((3 : Nat) : Int), style := (num (s1.off 1).1 : Nat), tree := (s1.off 1).2.id.1, parents := ((s1.off 1).2.id.2.row Ds.id).1, base := ((s1.off 1).2.id.2.row Ds.id).2.id.1, rows := (((s1.off 1).2.id.2.row Ds.id).2.id.2.row Ds.chg).1, number := num ((((s1.off 1).2.id.2.row Ds.id).2.id.2.row Ds.chg).2.off 4).1, author := num (((((s1.off 1).2.id.2.row Ds.id).2.id.2.row Ds.chg).2.off 4).2.off 4).1 }) hbo rfl rfl rfl ⟨hD.oin.tree, hD.oin.base, hD.oin.parents, hD.oin.leaves, hD.oin.rows, hD.oin.number, (Ds.num_lt _ 4)⟩ ⟨hD.sh.leaves, hD.sh.parents, hD.sh.rows, hD.sh.leafP, hD.sh.rowP⟩
            have hb2 := hb2o.extNo hD.X
            have hX := hX1.thenNo hD.X
            refine wl_nil (f_then (c_region (wl (st_ldN I_ok rfl hD.bs.seg rfl (wl (st_call Tryd.call45 rfl rfl rfl rfl rfl rfl (small_rd w23 hD.rd hD.len) fun v24 w24 hr24 => ?_))))))
            obtain ⟨rfl, hR2, hE24⟩ := hr24
            have hD := hD.read hR2 hE24 (Ds.str_len _ 1).2
            have hb2 := hb2o.extNo hD.X
            have hX := hX1.thenNo hD.X
            refine wl_p I_ok rfl (wl (st_set I_ok hD.bo rfl rfl (by rw [objC_len hD.oin]; decide) fun w25 hbo hE25 hs25 => ?_))
            have hbo := (show _ = _ from objC_set hD.oin 4 _) ▸ (show Blk w25 b5 33 ((objC _ aa).set (68 + 4) _) from hbo)
            have hD := hD.put hE25 (o' := { objZ with kind := ((3 : Nat) : Int), style := (num (s1.off 1).1 : Nat), tree := (s1.off 1).2.id.1, parents := ((s1.off 1).2.id.2.row Ds.id).1, base := ((s1.off 1).2.id.2.row Ds.id).2.id.1, rows := (((s1.off 1).2.id.2.row Ds.id).2.id.2.row Ds.chg).1, number := num ((((s1.off 1).2.id.2.row Ds.id).2.id.2.row Ds.chg).2.off 4).1, author := num (((((s1.off 1).2.id.2.row Ds.id).2.id.2.row Ds.chg).2.off 4).2.off 4).1, note := ((((((s1.off 1).2.id.2.row Ds.id).2.id.2.row Ds.chg).2.off 4).2.off 4).2.str 1).1 }) hbo rfl rfl rfl ⟨hD.oin.tree, hD.oin.base, hD.oin.parents, hD.oin.leaves, hD.oin.rows, hD.oin.number, hD.oin.author⟩ ⟨hD.sh.leaves, hD.sh.parents, hD.sh.rows, hD.sh.leafP, hD.sh.rowP⟩
            have hb2 := hb2o.extNo hD.X
            have hX := hX1.thenNo hD.X
            refine wl_nil ?_
            exact f_blockN (f_cut (_, _, _) rfl ⟨⟨hD, (dec3 hne hk rfl).trans (by rw [hs1]; rfl)⟩, hb2, hX⟩)
          · have h3 : ¬ k = 3 := by omega
            refine c_seq (c_region (wl (st_bd I_ok rfl trivial (l' := objC objZ noP) objZ_c.symm (wl (st_stW (l' := objC objZ noP) I_ok hb2 rfl rfl rfl rfl OneC.h fun w26 hb2 hE26 hs26 => ?_)))))
            have hX := hX.thenNew hE26 fr2
            refine wl_p I_ok rfl (wl_nil (f_then (c_ret (f_blockR (f_thenR (f_ret [_, _] ⟨⟨b2, 0, rfl, ld_all I_ok rfl rfl hb2.seg rfl⟩, rfl, trivial⟩ ?_))))))
            exact ⟨noP, by rw [dec4 hne hk h1 h2 h3]; rfl, by rw [dec4 hne hk h1 h2 h3]; exact ObjNew.nil _ _ _ rfl rfl rfl, hX⟩
    rintro ⟨o, aa, s⟩ w27 ⟨⟨hD, hdec⟩, hb2, hX⟩
    try dsimp only
    dsimp only at hD hdec
    refine c_seq (c_seq (c_region (wl_p I_ok rfl (wl (st_ld I_ok rfl (hD.bs.cell rfl) (wl (st_call Tryd.call50 rfl rfl rfl rfl rfl rfl (hD.rd.err) fun v28 w28 hr28 => ?_)))))))
    obtain ⟨rfl, rfl⟩ := hr28
    refine wl_p I_ok rfl (wl_nil (f_then (c_if rfl (fun hc => ?_) (fun hc => ?_))))
    · have hd2 : decB l = (objZ, 7) := by
        rw [hdec, endB]
        exact if_pos (by cases hb : s.bad; exact absurd (by rw [Ds.err, hb]; rfl) hc; rfl)
      refine c_seq (c_region (wl (st_bd I_ok rfl trivial (l' := objC objZ noP) objZ_c.symm (wl (st_stW (l' := objC objZ noP) I_ok hb2 rfl rfl rfl rfl OneC.h fun w29 hb2 hE29 hs29 => ?_)))))
      have hX := hX.thenNew hE29 fr2
      refine wl_p I_ok rfl (wl_nil (f_then (c_ret (f_thenR (f_ret [_, _] ⟨⟨b2, 0, rfl, ld_all I_ok rfl rfl hb2.seg rfl⟩, rfl, trivial⟩ ?_)))))
      exact ⟨noP, by rw [hd2]; rfl, by rw [hd2]; exact ObjNew.nil _ _ _ rfl rfl rfl, hX⟩
    · have hbd : s.bad = false := by
        cases hb : s.bad
        · rfl
        · exact absurd (fun e => by rw [Ds.err, hb] at e; exact absurd e (by decide)) hc
      have hd1 : decB l = if ObjOk o ∧ laidB o = l then (o, 0) else (objZ, 160) := by
        rw [hdec, endB]
        exact if_neg (by rw [hbd]; decide)
      refine c_skip (f_then (c_seq (c_region (wl (st_ldN I_ok rfl hD.bo.seg (objC_len hD.oin) (wl (st_call Tryd.call11 rfl rfl rfl rfl rfl rfl (encode_calls w28 hD.oin hD.new.l hD.sh) fun v30 w30 hr30 => ?_)))))))
      obtain ⟨q, k2, rfl, hq, hqn, hE30⟩ := hr30
      have hb2 := hb2.extNo hE30
      have hD := hD.extNo hE30
      have hX := hX.thenNo hE30
      refine wl_p I_ok rfl (wl_nil (f_then (c_seq (c_cutK (α := Bool) [2, 5] rfl (fun z => [(80, .bool z)]) (fun z u => (z = decide (¬ (ObjOk o ∧ laidB o = l)) ∧ DecS w1 u rb b4 b5 o aa s) ∧ Blk u b2 33 (cellsOf ti33.zero) ∧ Ext No w u) ?_ ?_))))
      · refine c_region ?_
        refine wl_p I_ok rfl (wl_caseD 75 rfl (fun hg => ?_) (fun hg => ?_))
        · have hok : ¬ ObjOk o := fun h => hg (if_pos h)
          refine wl_pk I_ok 5 rfl (wl_nil ?_)
          exact f_cut (true) rfl ⟨⟨by symm; rw [decide_eq_true_eq]; exact fun h => hok h.1, hD⟩, hb2, hX⟩
        · have hok : ObjOk o := (if_zero (by decide)).1 (Decidable.not_not.1 hg)
          refine wl_pk I_ok 2 rfl (wl (st_call Tryd.call17 rfl rfl rfl rfl rfl rfl (bytesEqual_calls w30 hq.sl (h.extNo hX)) fun v31 w31 hr31 => ?_))
          obtain ⟨rfl, rfl⟩ := hr31
          refine wl_pk I_ok 2 rfl (wl_nil ?_)
          exact f_cut (_) rfl ⟨⟨by rw [encB, if_pos hok, ← decide_not, decide_eq_decide]; exact ⟨fun h h2 => h h2.2, fun h h2 => h ⟨hok, h2⟩⟩, hD⟩, hb2, hX⟩
      rintro z w32 ⟨⟨rfl, hD⟩, hb2, hX⟩
      refine c_if rfl (fun hc => ?_) (fun hc => ?_)
      · have hd2 : decB l = (objZ, 160) := by rw [hd1]; exact if_neg hc
        refine c_seq (c_region (wl (st_bd I_ok rfl trivial (l' := objC objZ noP) objZ_c.symm (wl (st_stW (l' := objC objZ noP) I_ok hb2 rfl rfl rfl rfl OneC.h fun w33 hb2 hE33 hs33 => ?_)))))
        have hX := hX.thenNew hE33 fr2
        refine wl_p I_ok rfl (wl_nil (f_then (c_ret (f_thenR (f_ret [_, _] ⟨⟨b2, 0, rfl, ld_all I_ok rfl rfl hb2.seg rfl⟩, rfl, trivial⟩ ?_)))))
        exact ⟨noP, by rw [hd2]; rfl, by rw [hd2]; exact ObjNew.nil _ _ _ rfl rfl rfl, hX⟩
      · have hd2 : decB l = (o, 0) := by rw [hd1]; exact if_pos (Decidable.not_not.1 hc)
        refine c_skip (f_then (c_seq (c_region (wl (st_ldN I_ok rfl hD.bo.seg (objC_len hD.oin) ?_)))))
        have hN := hD.new
        have hin := hD.oin
        have hb2p := hb2
        refine wl (st_stW (l' := objC o aa) I_ok hb2 rfl rfl (objC_len hD.oin) (objC_len hD.oin) OneC.h fun w34 hb2 hE34 hs34 => ?_)
        have hX := hX.thenNew hE34 fr2
        have hN := hN.ext1 hE34 hb2p (by decide) (by decide) (by decide)
        refine wl_p I_ok rfl (wl_nil (f_then (c_ret (f_ret [_, _] ⟨⟨b2, 0, rfl, ld_all I_ok rfl rfl hb2.seg (objC_len hin)⟩, rfl, trivial⟩ ?_))))
        exact ⟨aa, by rw [hd2]; rfl, by rw [hd2]; exact hN.older hX1.size, hX⟩
end Go.Proofs.YtjghckniloikgaaDoor
namespace Go.Vc

/-- the widest fence, in a round or in none -/
inductive WideF : Fence → Prop where
  | none : WideF Fence.wide
  | round (l : Nat) : WideF (Fence.wide.inRound l)
section
variable {F : Fence} {n : Nat} {P : Program}
theorem WideF.fn (h : WideF F) (g : FuncId) : F.fn g := by cases h <;> trivial
theorem WideF.depth (h : WideF F) : F.depth.isSome = true → 1 ≤ n := by cases h <;> (intro h; cases h)
theorem WideF.calls (h : WideF F) {f : FuncId} {args : Array Value} {w : World} {R : Ending → World → Prop} (hc : Calls P f args w R) : CallsIn F n P f args w R := by
  cases h with
  | none => exact callsIn_wide.2 hc
  | round l => exact (callsIn_wide (n := n)).2 hc
theorem WideF.rows (h : WideF F) {row : String} {args : Array Value} {w : World} {R : Value → World → Prop} (hc : Rows P row args w R) : RowsIn F n P row args w R := by
  have key : RowsIn Fence.wide n P row args w R := fun c cs _ => by
    obtain ⟨v, w', r, s⟩ := hc c cs
    exact ⟨v, w', r, stepsIn_wide.2 s⟩
  cases h with
  | none => exact key
  | round l => exact key
def nd : Op → Bool
  | .defer _ => false
  | _ => true
theorem upon_in (hF : WideF F) {o : Oper} {a : Act} {next : Act → World → Prop} {Q : Exit → Act → World → Prop} {r : Result Next} (h : o.upon P a next (fun _ _ _ => False) r) : o.uponIn F n P a next Q r := by
  cases r with
  | ok x w' =>
    cases x <;> simp only [Oper.upon, Oper.uponIn] at h ⊢
    all_goals first
      | exact h
      | exact h.elim
      | exact ⟨hF.depth, (hF.calls h).mono fun e w' he => by
          cases e
          · exact he
          · exact he.elim
          · obtain ⟨_, _, hf⟩ := he
            exact hf.elim⟩
      | exact ⟨hF.depth, hF.rows h⟩
  | halt x w' =>
    cases x <;> simp only [Oper.upon] at h ⊢
    all_goals first
      | exact h
      | exact h.elim
end

/-- a list of operations, walked within a fence -/
def WLI (F : Fence) (n : Nat) (P : Program) (f : Fs) (ops : Array Oper) (Q : XPost) (l : List Oper) (env : Env) (w : World) : Prop := ∀ a, Ag f env a → wpListIn F n P ops Q l a w
section
variable {F : Fence} {n : Nat} {P : Program} {I : Info} {f : Fs} {ops : Array Oper} {Q : XPost} {o : Oper} {rest l : List Oper} {env : Env} {w : World}
theorem wli (hF : WideF F) (hnd : nd o.op = true) (h : St P f ops o env w (WLI F n P f ops Q rest)) : WLI F n P f ops Q (o :: rest) env w := by
  intro a ha
  have h1 := h a (fun _ _ _ => False) (wpListIn F n P ops Q rest) ha fun _ a' _ ha' k => k a' ha'
  unfold wpListIn
  split at h1
  · rename_i hw
    rw [if_pos hw]
    rcases h1 with h1 | ⟨_, _, _, hf⟩
    · refine ⟨fun g _ => hF.fn g, ?_⟩
      rw [Oper.semAt_eq _ _ _ (fun c e => by rw [e] at hnd; cases hnd)]
      exact upon_in hF h1
    · exact hf.elim
  · rename_i hw
    rw [if_neg hw]
    exact ⟨fun g _ => hF.fn g, h1⟩
theorem wli_nil (h : Fin f Q .normal env w) : WLI F n P f ops Q [] env w := fun a ha => h a ha
def nds (l : List Oper) : Bool := l.all fun o => nd o.op
theorem nds_cons (h : nds (o :: l) = true) : nd o.op = true ∧ nds l = true := by simpa [nds] using h
theorem wli_p (hF : WideF F) (hI : I.Ok P) {l' : List Oper} {env' : Env} (hn : nds l = true) (h : pevs I f.n l env = some (l', env')) (k : WLI F n P f ops Q l' env' w) : WLI F n P f ops Q l env w := by
  induction l generalizing env with
  | nil => simp [pevs] at h; obtain ⟨rfl, rfl⟩ := h; exact k
  | cons o r ih =>
    simp only [pevs] at h
    split at h
    · simp at h; obtain ⟨rfl, rfl⟩ := h; exact k
    · rename_i hg
      split at h
      · simp at h; obtain ⟨rfl, rfl⟩ := h; exact k
      · rename_i v hv
        split at h
        · rename_i e he
          obtain ⟨hd, rfl⟩ := pushO_eq he
          exact wli hF (nds_cons hn).1 (st_v (by simp [takes, hg]) hd (pev_sound hI hv w) (ih (nds_cons hn).2 h))
        · cases h
theorem wli_pk (hF : WideF F) (hI : I.Ok P) (m : Nat) {l' : List Oper} {env' : Env} (hn : nds l = true) (h : pevsN I f.n ops m l env = some (l', env')) (k : WLI F n P f ops Q l' env' w) : WLI F n P f ops Q l env w := by
  induction m generalizing env l with
  | zero => simp [pevsN] at h; obtain ⟨rfl, rfl⟩ := h; exact k
  | succ m ih =>
    cases l with
    | nil => simp [pevsN] at h; obtain ⟨rfl, rfl⟩ := h; exact k
    | cons o r =>
      simp only [pevsN] at h
      split at h
      · rename_i hp
        split at h
        · rename_i e he
          obtain ⟨hd, rfl⟩ := pushO_eq he
          exact wli hF (nds_cons hn).1 (st_pass hp hd (ih (nds_cons hn).2 h))
        · cases h
      · split at h
        · cases h
        · rename_i ht
          split at h
          · cases h
          · rename_i v hv
            split at h
            · rename_i e he
              obtain ⟨hd, rfl⟩ := pushO_eq he
              exact wli hF (nds_cons hn).1 (st_v ht hd (pev_sound hI hv w) (ih (nds_cons hn).2 h))
            · cases h
theorem wli_case (d : Nat) {b : Bool} (hd : lk env d = some (.bool b)) (ht : b = true → WLI F n P f ops Q l ((d, .bool true) :: env) w) (hf : b = false → WLI F n P f ops Q l ((d, .bool false) :: env) w) : WLI F n P f ops Q l env w := by
  cases b
  · exact fun a ha => hf rfl a ⟨ha.defers, ha.size, fun i u hi => by
      rw [lk_cons] at hi
      split at hi
      · rename_i e; subst e; simp at hi; subst hi; exact ha.get _ _ hd
      · exact ha.get _ _ hi⟩
  · exact fun a ha => ht rfl a ⟨ha.defers, ha.size, fun i u hi => by
      rw [lk_cons] at hi
      split at hi
      · rename_i e; subst e; simp at hi; subst hi; exact ha.get _ _ hd
      · exact ha.get _ _ hi⟩
theorem wli_caseD (d : Nat) {p : Prop} [Decidable p] (hd : lk env d = some (.bool (decide p))) (ht : p → WLI F n P f ops Q l ((d, .bool true) :: env) w) (hf : ¬ p → WLI F n P f ops Q l ((d, .bool false) :: env) w) : WLI F n P f ops Q l env w :=
  wli_case d hd (fun h => ht (of_decide_eq_true h)) (fun h => hf (of_decide_eq_false h))
theorem c_regionI {id : Nat} {l : List Oper} (h : WLI Fence.wide 9 P f l.toArray Q l env w) : WC P f (.region id l.toArray false) Q env w := fun a ha => wpIn_wide.1 (wpIn_region_lit (h a ha))

/-- the call of a yield -/
theorem wli_yield {g : Nat} {x : Operand} {xs : Array Operand} {ts : Array TypeId} {d : Nat} {vs : List Value} {R : Bool → World → Prop} (ho : o.op = .call { callee := .value x, args := xs, argTypes := ts })
    (hg : takes ops env o = true) (hd : o.dst = some d) (hdn : Nat.blt d f.n = true) (hx : evO env x = some (.func (.yield g) #[] #[])) (hvs : evs env xs.toList = some vs)
    (hY : YieldAt Fence.wide (n - 1) P g vs.toArray w fun e w' => ∃ b, e = .returned (.bool b) ∧ R b w') (k : ∀ b w', R b w' → WLI Fence.wide n P f ops Q rest ((d, .bool b) :: env) w') : WLI Fence.wide n P f ops Q (o :: rest) env w := by
  intro a ha
  unfold wpListIn
  rw [if_pos (takes_wanted ha hg)]
  have hevs : ∀ (l : List Operand) vs, evs env l = some vs → l.map a.eval = vs := by
    intro l
    induction l with
    | nil => intro vs h; simp [evs] at h; subst h; rfl
    | cons y r ih =>
      intro vs h
      simp only [evs] at h
      split at h
      · rename_i u hu
        split at h
        · rename_i l' hl'
          simp at h; subst h
          simp [ha.eval hu, ih _ hl']
        · simp at h
      · simp at h
  have h1 : xs.map a.eval = vs.toArray := by
    apply Array.ext'
    rw [Array.toList_map, hevs _ _ hvs]
  obtain ⟨fn, tmps, assign, body, hr, hR⟩ := hY
  have hrun : (execOp a.eval o).run P w = .ok (.round g fn tmps assign body) w := by
    simp only [execOp, ho, resolve, h1, ha.eval hx, Deferred.ofValue, Sem.run_bind, Sem.run_pure, Result.andThen_ok, invoke]
    simpa using hr
  refine ⟨fun _ _ => trivial, ?_⟩
  rw [Oper.semAt_eq _ _ _ (fun c e => by rw [ho] at e; cases e), hrun, Oper.uponIn_round]
  refine ⟨fun h => (by cases h), hR.mono ?_⟩
  rintro e w' ⟨b, rfl, hb⟩
  refine k b w' hb _ ?_
  have := ha.put (dst := some d) (v := .bool b) (by rw [dOk]; exact hdn)
  rw [hd]
  exact this
end

/-! ### The loop's record, and worlds -/
def notCells : Obj → Bool
  | .cells .. => false
  | _ => true
theorem froz_not {w : World} {r : Nat} {o : Obj} (h : w.heap[r]? = some o) (ho : notCells o = true) (a : Addr) (ha : a.block = r) : w.frozen? a = false := by
  subst ha
  unfold World.frozen?
  rw [h]
  cases o <;> first | rfl | cases ho
theorem Ext.putObj {w : World} {r : Nat} {o : Obj} (h : w.heap[r]? = some o) (ho : notCells o = true) {o' : Obj} (ho' : notCells o' = true) : Ext (One r) w (w.putObj r o') := by
  have hlt : r < w.heap.size := (Array.getElem?_eq_some_iff.1 h).1
  refine ⟨rfl, rfl, rfl, by simp, fun b hb hS => World.putObj_heap_other hS, fun a => ?_⟩
  by_cases e : a.block = r
  · rw [froz_not h ho a e, froz_not (World.putObj_heap_same hlt) ho' a e]
  · exact World.frozen?_of_block (World.putObj_heap_other e)
theorem Ext.allocObj (w : World) {o : Obj} (ho : notCells o = true) : Ext No w (w.alloc o) := by
  refine ⟨rfl, rfl, rfl, by simp, fun b hb _ => ?_, fun a => ?_⟩
  · show (w.heap.push _)[b]? = _
    rw [Array.getElem?_push, if_neg (by omega)]
  · by_cases h : a.block = w.heap.size
    · have e2 : w.heap[a.block]? = none := by rw [h]; simp
      have e3 : w.frozen? a = false := by unfold World.frozen?; rw [e2]
      rw [e3]
      exact froz_not (World.alloc_heap_new w o) ho a h
    · exact World.frozen?_alloc_old _ _ _ h
/-- the statement: its record and the mark are laid; the function is called with yield; and behind it -/
theorem c_range {P : Program} {f : Fs} {Q : XPost} {env : Env} {w : World} {g : Operand} {ps : Array Tmp} {assign body : Code} {gf : Nat} {cap : Array Value}
    (hg : evO env g = some (.func (.func gf) #[] cap)) (hcf : ∀ args w, (callFunc gf args).run P w = .ok (.enter gf args) w)
    (H : ∀ (fn : FuncId) (a : Act), Ag f env a → ∀ rec : LoopState → Option Code → Loop, rec = (fun st pe => { state := st, pending := pe, fn, tmps := a.tmps, params := ps, assign, body, defers := w.heap.size }) →
      ∀ w1, Ext No w w1 → w1.heap[w.heap.size + 1]? = some (.loop (rec .ready none)) → w1.heap[w.heap.size]? = some (.deferred (some [])) → w1.heap.size = w.heap.size + 2 →
      CallsV P gf (.func (.yield (w.heap.size + 1)) #[] #[] :: cap.toList) w1 fun _ w2 => w2.heap[w.heap.size + 1]? = some (.loop (rec .ready none)) ∧ w2.heap[w.heap.size]? = some (.deferred (some [])) ∧
        ∀ w3, Ext (One (w.heap.size + 1)) w2 w3 → w3.heap[w.heap.size]? = some (.deferred (some [])) → Fin ⟨f.n, { target := .collected w.heap.size, args := #[] } :: f.ds⟩ Q .normal env w3) :
    WC P f (.rangeFunc g ps assign body) Q env w := by
  intro a ha
  refine (wpIn_wide (n := 9)).1 (wpIn_rangeFunc fun fn _ => ?_)
  obtain ⟨rec, hrec⟩ : ∃ rec : LoopState → Option Code → Loop, rec = fun st pe => { state := st, pending := pe, fn, tmps := a.tmps, params := ps, assign, body, defers := w.heap.size } := ⟨_, rfl⟩
  have e0 : Ext No w (w.alloc (.deferred (some []))) := Ext.allocObj w rfl
  have e1 : Ext No (w.alloc (.deferred (some []))) ((w.alloc (.deferred (some []))).alloc (.loop (rec .ready none))) := Ext.allocObj _ rfl
  have hL : ((w.alloc (.deferred (some []))).alloc (.loop (rec .ready none))).heap[w.heap.size + 1]? = some (.loop (rec .ready none)) := by
    have := World.alloc_heap_new (w.alloc (.deferred (some []))) (.loop (rec .ready none)); rwa [World.size_alloc] at this
  have hD : ((w.alloc (.deferred (some []))).alloc (.loop (rec .ready none))).heap[w.heap.size]? = some (.deferred (some [])) :=
    (e1.same _ (by simp) id).trans (World.alloc_heap_new w _)
  refine ⟨w.heap.size + 1, [{ target := .collected w.heap.size, args := #[] }], (w.alloc (.deferred (some []))).alloc (.loop (rec .ready none)), { target := .fn (.func gf) cap, args := #[.func (.yield (w.heap.size + 1)) #[] #[]] }, (w.alloc (.deferred (some []))).alloc (.loop (rec .ready none)), gf,
    #[.func (.yield (w.heap.size + 1)) #[] #[]] ++ cap, (w.alloc (.deferred (some []))).alloc (.loop (rec .ready none)), ?_, ?_, fun _ _ => trivial, ?_, fun h => (by cases h), ?_⟩
  · rw [hrec]; exact run_enterLoop_outer _ _ _ _ _
  · have hev := ha.eval hg
    simp only [resolve, hev]
    simp [Deferred.ofValue, Act.eval]
  · simp [invoke, hcf]
  · have hc := H fn a ha rec hrec _ (e0.thenNo e1) hL hD (by simp)
    have e2 : (#[.func (.yield (w.heap.size + 1)) #[] #[]] ++ cap : Array Value) = (.func (.yield (w.heap.size + 1)) #[] #[] :: cap.toList).toArray := by
      apply Array.ext'; simp
    rw [e2]
    refine (WideF.none.calls hc).mono ?_
    rintro e w2 he
    cases e with
    | returned v =>
      obtain ⟨hl2, hd2, hk⟩ := he
      have hend := run_endLoop (P := P) hl2 (by rw [hrec]; simp)
      refine ⟨none, _, by rw [show (none : Option Code) = (rec .ready none).pending from by rw [hrec]]; exact hend, ?_⟩
      refine hk _ (Ext.putObj hl2 rfl rfl) ?_ _ ⟨?_, ha.size, ha.get⟩
      · exact (World.putObj_heap_other (by omega)).trans hd2
      · simp [ha.defers]
    | panicked ch => exact he.elim
    | outgrown => exact he.elim
/-- a function's contract, where its body holds such a statement -/
theorem calls_enterM {P : Program} {g : FuncId} {fn : Func} {c : Code} {args : List Value} {w : World} {R : Value → World → Prop} {n : Nat} {env : Env}
    (hf : P.funcs[g]? = some fn) (hb : fn.body = some c) (hn : fn.ntmps = n) (hl : Nat.ble args.length n = true) (he : envO 0 args = some env) (h : WC P ⟨n, []⟩ c (bodyPostM Fence.wide 9 P fn (Rv R)) env w) : CallsV P g args w R := by
  refine callsIn_wide.1 (callsIn_of_wp_marks (n := 9) hf hb trivial (wpIn_wide.2 (h _ ⟨rfl, ?_, fun i v hi => ?_⟩)))
  · have : args.length ≤ n := Nat.le_of_ble_eq_true hl
    simp only [hn, Array.size_append, List.size_toArray, Array.size_replicate]
    omega
  · have := (envO_lk he i v hi).2
    simp only [Nat.sub_zero] at this
    have hlt : i < args.length := by
      rcases Nat.lt_or_ge i args.length with h' | h'
      · exact h'
      · simp [List.getElem?_eq_none h'] at this
    simp only [hn]
    rw [Array.getElem?_append_left (by simpa using hlt)]
    simpa using this
theorem f_retM {P : Program} {n D t : Nat} {fn : Func} {R : Value → World → Prop} {env : Env} {w : World} {v : Value} (hr : fn.results = #[.tmp t]) (hv : lk env t = some v) (hD : w.heap[D]? = some (.deferred (some []))) (k : ∀ w', Ext (One D) w w' → R v w') :
    Fin ⟨n, [{ target := .collected D, args := #[] }]⟩ (bodyPostM Fence.wide 9 P fn (Rv R)) .ret env w := by
  intro a ha
  show LeavesInM Fence.wide 9 P fn a.tmps (Rv R) a.defers .returning w
  rw [ha.defers]
  refine ⟨by simp, .inl ⟨D, _, rfl, run_takeDeferred hD, ?_⟩⟩
  refine ⟨_, results_tmp hr _ _ _, ?_⟩
  have : a.tmps.getD t undef = v := by
    have := ha.get _ _ hv
    simp [this]
  rw [this]
  exact k _ (Ext.putObj hD rfl rfl)
/-- one round: the assignment, the body -/
def WCI (F : Fence) (n : Nat) (P : Program) (f : Fs) (c : Code) (Q : XPost) (env : Env) (w : World) : Prop := ∀ a, Ag f env a → c.wpIn F n P Q a w
section
variable {F : Fence} {n : Nat} {P : Program} {f : Fs} {Q : XPost} {env : Env} {w : World}
theorem ci_region {id : Nat} {l : List Oper} (h : WLI F n P f l.toArray Q l env w) : WCI F n P f (.region id l.toArray false) Q env w := fun a ha => wpIn_region_lit (h a ha)
theorem ci_block {id : Nat} {c : Code} (h : WCI F n P f c (Exit.inBlock id Q) env w) : WCI F n P f (.block id c) Q env w := fun a ha => wpIn_block (h a ha)
theorem round_of {l m t : Nat} {W : World} {r : Loop} {v : Value} {R : Bool → World → Prop} (hl : W.heap[l]? = some (.loop r)) (_hr : r.state = .ready) (hp : r.params = #[t]) {a : Act} (hat : r.tmps = a.tmps) (ha : Ag f env a) (ht : t < f.n)
    (h : WCI (Fence.wide.inRound l) m P ⟨f.n, []⟩ r.assign (Exit.then (fun a1 w1 => ∃ w2, (Instr.beginRound l).run P w1 = .ok () w2 ∧ r.body.wpIn (Fence.wide.inRound l) m P (roundPost P l fun e w' => ∃ b, e = .returned (.bool b) ∧ R b w') a1 w2) (fun _ _ _ => False)) ((t, v) :: env) W) :
    YieldAt Fence.wide m P l #[v] W fun e w' => ∃ b, e = .returned (.bool b) ∧ R b w' := by
  have hy := run_yield (P := P) (args := #[v]) hl (by rw [hp]; rfl)
  refine ⟨_, _, _, _, hy, roundIn_of_wpIn trivial (h _ ⟨rfl, ?_, fun i u hi => ?_⟩)⟩
  · rw [hp, hat]; simp [ha.size]
  · rw [hp, hat]
    rw [lk_cons] at hi
    have e0 : (Array.foldl (fun tmps (x : Tmp × Value) => tmps.setIfInBounds x.1 x.2) a.tmps (#[t].zip #[v])) = a.tmps.setIfInBounds t v := by simp
    refine (congrArg (fun z : Array Value => z[i]?) e0).trans ?_
    show (a.tmps.setIfInBounds t v)[i]? = some u
    split at hi
    · rename_i e
      subst e
      cases hi
      simp [ha.size, ht]
    · rename_i e
      simp [Array.getElem?_setIfInBounds_ne e, ha.get _ _ hi]
end
end Go.Vc
namespace Go.Vc
section
variable {P : Program} {I : Info} {f : Fs} {ops : Array Oper} {Q : XPost} {o : Oper} {rest l : List Oper} {env : Env} {w : World}
theorem wlw (hnd : nd o.op = true) (h : St P f ops o env w (WLI Fence.wide 9 P f ops Q rest)) : WLI Fence.wide 9 P f ops Q (o :: rest) env w := wli .none hnd h
theorem wlw_p (hn : nds l = true) (hI : I.Ok P) {l' : List Oper} {env' : Env} (h : pevs I f.n l env = some (l', env')) (k : WLI Fence.wide 9 P f ops Q l' env' w) : WLI Fence.wide 9 P f ops Q l env w := wli_p .none hI hn h k
theorem wlw_pk (hn : nds l = true) (hI : I.Ok P) (m : Nat) {l' : List Oper} {env' : Env} (h : pevsN I f.n ops m l env = some (l', env')) (k : WLI Fence.wide 9 P f ops Q l' env' w) : WLI Fence.wide 9 P f ops Q l env w := wli_pk .none hI m hn h k
theorem wlw_case (d : Nat) {b : Bool} (hd : lk env d = some (.bool b)) (ht : b = true → WLI Fence.wide 9 P f ops Q l ((d, .bool true) :: env) w) (hf : b = false → WLI Fence.wide 9 P f ops Q l ((d, .bool false) :: env) w) : WLI Fence.wide 9 P f ops Q l env w := wli_case d hd ht hf
theorem wlw_caseD (d : Nat) {p : Prop} [Decidable p] (hd : lk env d = some (.bool (decide p))) (ht : p → WLI Fence.wide 9 P f ops Q l ((d, .bool true) :: env) w) (hf : ¬ p → WLI Fence.wide 9 P f ops Q l ((d, .bool false) :: env) w) : WLI Fence.wide 9 P f ops Q l env w := wli_caseD d hd ht hf
end
end Go.Vc
namespace Go.Vc
section
variable {P : Program} {l : Nat} {r : Loop} {w : World}
theorem begin_round (h : w.heap[l]? = some (.loop r)) (hr : r.state = .ready) {Q : World → Prop} (k : ∀ w', Ext (One l) w w' → w'.heap[l]? = some (.loop { r with state := .busy }) → Q w') : ∃ w2, (Instr.beginRound l).run P w = .ok () w2 ∧ Q w2 :=
  ⟨_, run_beginRound h hr, k _ (Ext.putObj h rfl rfl) (World.putObj_heap_same (Array.getElem?_eq_some_iff.1 h).1)⟩
theorem end_round (h : w.heap[l]? = some (.loop { r with state := .busy })) (hr : r.state = .ready) (hp : r.pending = none) {R : Bool → World → Prop} (k : ∀ w', Ext (One l) w w' → w'.heap[l]? = some (.loop r) → R true w') :
    ∃ v w', (Instr.endRound l none).run P w = .ok v w' ∧ ∃ b, Ending.returned v = .returned (.bool b) ∧ R b w' := by
  refine ⟨_, _, run_endRound none h, true, rfl, k _ (Ext.putObj h rfl rfl) ?_⟩
  rw [World.putObj_heap_same (Array.getElem?_eq_some_iff.1 h).1]
  cases r
  cases hr
  cases hp
  rfl
end
end Go.Vc
