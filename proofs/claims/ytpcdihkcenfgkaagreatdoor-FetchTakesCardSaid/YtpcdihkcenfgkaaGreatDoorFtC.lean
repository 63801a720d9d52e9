/-
  Walks and laws towards: FetchTakesCardSaid , walked
-/
import Derived.DeepKeys3
import Derived.MapKept
import Derived.MapFrom
import Derived.TacticsIn
import Derived.RangeFuncSeq
import Derived.RangeFuncLeaves
import Derived.Test.YtpcdihkcenfgkaaGreatDoorFtB
namespace Go.Proofs.YtpcdihkcenfgkaaGreatDoor
open Go.Vc
theorem uStr : Tryz.prog.underlying 9 = some .string := by kernel_rfl
theorem uBool : Tryz.prog.underlying 4 = some .bool := by kernel_rfl
theorem uByte : Tryz.prog.underlying 5 = some (.int .u8) := by kernel_rfl
theorem uId : Tryz.prog.underlying 31 = some (.array 32 5) := by kernel_rfl
theorem cStr : Tryz.prog.cellsOf 9 = 1 := by kernel_rfl
theorem cBool : Tryz.prog.cellsOf 4 = 1 := by kernel_rfl
theorem cByte : Tryz.prog.cellsOf 5 = 1 := by kernel_rfl
theorem cId : Tryz.prog.cellsOf 31 = 32 := by kernel_rfl
theorem kId : Tryz.prog.keyTypeAt 10 31 = true := by kernel_rfl
theorem gId : Tryz.prog.eqGuardType Tryz.prog.depth 31 = false := by kernel_rfl
theorem idKey {l : List UInt8} (hl : l.length = 32) : Tryz.prog.keyLits 2 31 (zq6 l) = some (idLits l) := lits_bytes uId cId uByte cByte hl
theorem idForm {l : List UInt8} (hl : l.length = 32) : (Value.agg (zq6 l).toArray).formed Tryz.prog 31 = true := by
 simp [Value.formed, cId, zx0, hl]
theorem uChgD : Tryz.prog.underlying 114 = some (.struct (Tryz.prog.fieldsOf 114)) := by kernel_rfl
theorem cChgD : Tryz.prog.cellsOf 114 = 3 := by kernel_rfl
theorem kChgD : Tryz.prog.keyTypeAt 10 114 = true := by kernel_rfl
theorem gChgD : Tryz.prog.eqGuardType Tryz.prog.depth 114 = false := by kernel_rfl
theorem chgKey {r : ChgD} (h1 : r.path.length ≤ maxLen) (h2 : r.text.length ≤ maxLen) : Tryz.prog.keyLits 3 114 r.cells = some ([.string r.path, .bool r.is, .string r.text]) := by
 have hm : [(9, 0), (4, 1), (9, 2)].mapM (fun p : Nat × Nat => Tryz.prog.keyLits 2 p.1 ((r.cells.drop p.2).take (Tryz.prog.cellsOf p.1))) = some [[.string r.path], [.bool r.is], [.string r.text]] := by
  have a1 : ((r.cells.drop 0).take (Tryz.prog.cellsOf 9)) = [.string (strU r.path)] := by rw [cStr]; rfl
  have a2 : ((r.cells.drop 1).take (Tryz.prog.cellsOf 4)) = [.bool r.is] := by rw [cBool]; rfl
  have a3 : ((r.cells.drop 2).take (Tryz.prog.cellsOf 9)) = [.string (strU r.text)] := by rw [cStr]; rfl
  simp only [List.mapM_cons, List.mapM_nil, a1, a2, a3, lits_str (d := 1) uStr h1, lits_bool (d := 1) uBool, lits_str (d := 1) uStr h2]
  rfl
 have e := lits_struct (d := 2) (cs := r.cells) uChgD (by kernel_rfl) (by rw [cChgD]; exact rfl) (L := [(9, 0), (4, 1), (9, 2)]) (by kernel_rfl) hm
 rw [e]
 simp
theorem chgForm {r : ChgD} (h : r.cells.length = 3) : (Value.agg r.cells.toArray).formed Tryz.prog 114 = true := by
 simp [Value.formed, cChgD, h]
theorem uLeafD : Tryz.prog.underlying 56 = some (.struct (Tryz.prog.fieldsOf 56)) := by kernel_rfl
theorem cLeafD : Tryz.prog.cellsOf 56 = 33 := by kernel_rfl
theorem kLeafD : Tryz.prog.keyTypeAt 10 56 = true := by kernel_rfl
theorem gLeafD : Tryz.prog.eqGuardType Tryz.prog.depth 56 = false := by kernel_rfl
theorem leafKey {r : zj8} (h1 : r.path.length ≤ maxLen) (h2 : r.id.length = 32) : Tryz.prog.keyLits 3 56 r.cells = some (.string r.path :: idLits r.id) := by
 have hm : [(9, 0), (31, 1)].mapM (fun p : Nat × Nat => Tryz.prog.keyLits 2 p.1 ((r.cells.drop p.2).take (Tryz.prog.cellsOf p.1))) = some [[.string r.path], idLits r.id] := by
  have a1 : ((r.cells.drop 0).take (Tryz.prog.cellsOf 9)) = [.string (strU r.path)] := by rw [cStr]; rfl
  have a2 : ((r.cells.drop 1).take (Tryz.prog.cellsOf 31)) = zq6 r.id := by rw [cId]; exact List.take_of_length_le (by rw [← h2]; exact Nat.le_of_eq (zx0 _))
  simp only [List.mapM_cons, List.mapM_nil, a1, a2, lits_str (d := 1) uStr h1, idKey h2]
  rfl
 have e := lits_struct (d := 2) (cs := r.cells) uLeafD (by kernel_rfl) (by rw [cLeafD]; exact zj8.len h2) (L := [(9, 0), (31, 1)]) (by kernel_rfl) hm
 rw [e]
 simp
theorem leafForm {r : zj8} (h : r.cells.length = 33) : (Value.agg r.cells.toArray).formed Tryz.prog 56 = true := by
 simp [Value.formed, cLeafD, h]
theorem chg_eq {r s : ChgD} : ([.string r.path, .bool r.is, .string r.text] : List Lit) = [.string s.path, .bool s.is, .string s.text] ↔ r = s := by
 obtain ⟨a, b, c⟩ := r
 obtain ⟨d, e, f⟩ := s
 simp
theorem leaf_eq {r s : zj8} : ((.string r.path : Lit) :: idLits r.id) = .string s.path :: idLits s.id ↔ r = s := by
 obtain ⟨a, b⟩ := r
 obtain ⟨c, d⟩ := s
 simp [idLits_inj]
theorem list_ext {α : Type} {l m : List α} (hl : l.length = m.length) (h : ∀ k (hk : k < l.length), l[k] = m[k]'(by omega)) : l = m :=
 List.ext_getElem hl fun k h1 _ => h k h1
def RowsIn (l : List RowD) : Prop := ∀ r ∈ l, r.path.length ≤ maxLen ∧ r.text.length ≤ maxLen
def LeafIn (r : zj8) : Prop := r.path.length ≤ maxLen ∧ r.id.length = 32
def ChgIn (r : ChgD) : Prop := r.path.length ≤ maxLen ∧ r.text.length ≤ maxLen
def IdIn (r : List UInt8) : Prop := r.length = 32
theorem IdIn.len {r : List UInt8} (h : IdIn r) : (zq6 r).length = 32 := by rw [zx0]; exact h
theorem equalLeaf_calls (w : World) {p q : Option Addr} {c d : Nat} {l m : (List (zj8))} (h : Sl w p l.length 33 (l.flatMap zj8.cells)) (h' : Sl w q m.length 33 (m.flatMap zj8.cells)) (hl : l.length < 1000000000) (h1 : ∀ r ∈ l, LeafIn r) (h2 : ∀ r ∈ m, LeafIn r) :
  zz1 Tryz.prog 67 [.slice p l.length c, .slice q m.length d] w fun v w' => v = .bool (decide (l = m)) ∧ Ext No w w' := by
 refine zq9 Tryz.func67 rfl rfl rfl rfl ?_
 have hX := Ext.refl No w
 refine zq5 (zq0 (wl_p I_ok rfl (zq3 (zq1 (zq5 (zq5 (zq0 (wl_p I_ok rfl (zq3 (zq1 (c_if rfl (fun hc => ?_) (fun hc => ?_))))))))))))
 ·refine zq5 ?_
  refine zq0 (wl_p I_ok rfl (zq3 (zq1 (zj0 (zx5 (zz2 rfl rfl ?_))))))
  exact ⟨congrArg Value.bool (by symm; rw [decide_eq_false_iff_not]; intro h; rw [h] at hc; exact hc rfl), hX⟩
 ·have hlm : l.length = m.length := by omega
  refine zx7 (zq1 (zq5 (zq5 (zq0 (wl_p I_ok rfl (zq3 (zq1 (zx4 ?_))))))))
  refine zv3 (α := Nat) [0, 1, 12] rfl (fun z => [(13, .int .i64 (z : Int))]) (fun z u => (z ≤ l.length ∧ ∀ k (hk : k < l.length), k < z → l[k] = m[k]'(by omega)) ∧ Ext No w u) (fun z u => l.length - z) (0) rfl ⟨⟨Nat.zero_le _, fun k _ h => absurd h (Nat.not_lt_zero _)⟩, hX⟩ ?_
  rintro i w1 ⟨⟨hi, hok⟩, hX⟩
  refine zq5 (zq0 (wl_p I_ok rfl (zq3 (zq1 (zq5 (c_if rfl (fun hc => ?_) (fun hc => ?_)))))))
  ·have hi : i < l.length := by omega
   have him : i < m.length := by omega
   obtain ⟨b, off, rfl, hsa⟩ := h.rowAll (fun r hr => zj8.len (h1 r hr).2) (by omega)
   obtain ⟨b', off', rfl, hsb⟩ := h'.rowAll (fun r hr => zj8.len (h2 r hr).2) (by omega)
   have ha1 := h1 _ (List.getElem_mem hi)
   have ha2 := h2 _ (List.getElem_mem him)
   refine zx7 (zq1 (zq5 (zx4 (zq5 (zq0 (wl_p I_ok rfl (zq3 (zq1 (zq5 ?_)))))))))
   refine c_draw rfl 9 [(0, true), (1, true), (2, true), (3, true), (4, true), (5, true), (6, true), (7, true), (8, true)] [] (No) (by kernel_rfl) fun w2 hE2 hs2 => ?_
   have hXd := hX
   have hX := hX.zq4 hE2
   refine wd_k I_ok 2 rfl (wd_ix I_ok rfl rfl 33 rfl i rfl (by omega) (off + i * 33) rfl (wd_ldN I_ok rfl rfl (fun w' hw' => ((hsa i hi).zq2 (hXd.zq4 hw'))) (zj8.len ha1.2) ?_))
   refine wd_k I_ok 2 rfl (wd_ix I_ok rfl rfl 33 rfl i rfl (by omega) (off' + i * 33) rfl (wd_ldN I_ok rfl rfl (fun w' hw' => ((hsb i him).zq2 (hXd.zq4 hw'))) (zj8.len ha2.2) ?_))
   refine wd_eqK rfl rfl gLeafD 10 (by decide) kLeafD (leafForm (zj8.len ha1.2)) (leafForm (zj8.len ha2.2)) (leafKey ha1.1 ha1.2) (leafKey ha2.1 ha2.2) leaf_eq ?_
   simp only [Bool.false_eq_true, if_false]
   refine wd_sw (zv0 (zq1 (c_if rfl (fun hc => ?_) (fun hc => ?_))))
   ·refine zq5 ?_
    refine zq0 (wl_p I_ok rfl (zq3 (zq1 (zj0 (zz3 (zx5 (zx5 (zz3 (zx5 (zz2 rfl rfl ?_))))))))))
    exact ⟨congrArg Value.bool (by symm; rw [decide_eq_false_iff_not]; intro e; subst e; exact hc rfl), hX⟩
   ·have hei := Decidable.not_not.1 hc
    refine zx7 (zx6 (zq1 (zq0 (wl_p I_ok rfl ?_))))
    rw [IntWalk.i64_in _ (by omega)]
    refine zq3 ?_
    exact zv1 (i + 1) rfl ⟨⟨by omega, fun k hk hlt => (by rcases Nat.lt_or_ge k i with h0 | h0; exact hok k hk h0; (have e : k = i := (by omega)); subst e; exact hei)⟩, hX⟩ (by first | omega | (dsimp only; omega))
  ·have hall : l = m := list_ext hlm fun k hk => hok k hk (by omega)
   refine c_exit (zx3 (zx3 (zz0 (zq1 (zq5 (zq0 (wl_p I_ok rfl (zq3 (zq1 (zj0 (zz2 rfl rfl ?_)))))))))))
   exact ⟨congrArg Value.bool (decide_eq_true hall).symm, hX⟩
theorem equalChange_calls (w : World) {p q : Option Addr} {c d : Nat} {l m : (List (ChgD))} (h : Sl w p l.length 3 (l.flatMap ChgD.cells)) (h' : Sl w q m.length 3 (m.flatMap ChgD.cells)) (hl : l.length < 1000000000) (h1 : ∀ r ∈ l, ChgIn r) (h2 : ∀ r ∈ m, ChgIn r) :
  zz1 Tryz.prog 68 [.slice p l.length c, .slice q m.length d] w fun v w' => v = .bool (decide (l = m)) ∧ Ext No w w' := by
 refine zq9 Tryz.func68 rfl rfl rfl rfl ?_
 have hX := Ext.refl No w
 refine zq5 (zq0 (wl_p I_ok rfl (zq3 (zq1 (zq5 (zq5 (zq0 (wl_p I_ok rfl (zq3 (zq1 (c_if rfl (fun hc => ?_) (fun hc => ?_))))))))))))
 ·refine zq5 ?_
  refine zq0 (wl_p I_ok rfl (zq3 (zq1 (zj0 (zx5 (zz2 rfl rfl ?_))))))
  exact ⟨congrArg Value.bool (by symm; rw [decide_eq_false_iff_not]; intro h; rw [h] at hc; exact hc rfl), hX⟩
 ·have hlm : l.length = m.length := by omega
  refine zx7 (zq1 (zq5 (zq5 (zq0 (wl_p I_ok rfl (zq3 (zq1 (zx4 ?_))))))))
  refine zv3 (α := Nat) [0, 1, 12] rfl (fun z => [(13, .int .i64 (z : Int))]) (fun z u => (z ≤ l.length ∧ ∀ k (hk : k < l.length), k < z → l[k] = m[k]'(by omega)) ∧ Ext No w u) (fun z u => l.length - z) (0) rfl ⟨⟨Nat.zero_le _, fun k _ h => absurd h (Nat.not_lt_zero _)⟩, hX⟩ ?_
  rintro i w1 ⟨⟨hi, hok⟩, hX⟩
  refine zq5 (zq0 (wl_p I_ok rfl (zq3 (zq1 (zq5 (c_if rfl (fun hc => ?_) (fun hc => ?_)))))))
  ·have hi : i < l.length := by omega
   have him : i < m.length := by omega
   obtain ⟨b, off, rfl, hsa⟩ := h.rowAll (fun r _ => r.len) (by omega)
   obtain ⟨b', off', rfl, hsb⟩ := h'.rowAll (fun r _ => r.len) (by omega)
   have ha1 := h1 _ (List.getElem_mem hi)
   have ha2 := h2 _ (List.getElem_mem him)
   refine zx7 (zq1 (zq5 (zx4 (zq5 (zq0 (wl_p I_ok rfl (zq3 (zq1 (zq5 ?_)))))))))
   refine c_draw rfl 9 [(0, true), (1, true), (2, true), (3, true), (4, true), (5, true), (6, true), (7, true), (8, true)] [] (No) (by kernel_rfl) fun w2 hE2 hs2 => ?_
   have hXd := hX
   have hX := hX.zq4 hE2
   refine wd_k I_ok 2 rfl (wd_ix I_ok rfl rfl 3 rfl i rfl (by omega) (off + i * 3) rfl (wd_ldN I_ok rfl rfl (fun w' hw' => ((hsa i hi).zq2 (hXd.zq4 hw'))) rfl ?_))
   refine wd_k I_ok 2 rfl (wd_ix I_ok rfl rfl 3 rfl i rfl (by omega) (off' + i * 3) rfl (wd_ldN I_ok rfl rfl (fun w' hw' => ((hsb i him).zq2 (hXd.zq4 hw'))) rfl ?_))
   refine wd_eqK rfl rfl gChgD 10 (by decide) kChgD (chgForm rfl) (chgForm rfl) (chgKey ha1.1 ha1.2) (chgKey ha2.1 ha2.2) chg_eq ?_
   simp only [Bool.false_eq_true, if_false]
   refine wd_sw (zv0 (zq1 (c_if rfl (fun hc => ?_) (fun hc => ?_))))
   ·refine zq5 ?_
    refine zq0 (wl_p I_ok rfl (zq3 (zq1 (zj0 (zz3 (zx5 (zx5 (zz3 (zx5 (zz2 rfl rfl ?_))))))))))
    exact ⟨congrArg Value.bool (by symm; rw [decide_eq_false_iff_not]; intro e; subst e; exact hc rfl), hX⟩
   ·have hei := Decidable.not_not.1 hc
    refine zx7 (zx6 (zq1 (zq0 (wl_p I_ok rfl ?_))))
    rw [IntWalk.i64_in _ (by omega)]
    refine zq3 ?_
    exact zv1 (i + 1) rfl ⟨⟨by omega, fun k hk hlt => (by rcases Nat.lt_or_ge k i with h0 | h0; exact hok k hk h0; (have e : k = i := (by omega)); subst e; exact hei)⟩, hX⟩ (by first | omega | (dsimp only; omega))
  ·have hall : l = m := list_ext hlm fun k hk => hok k hk (by omega)
   refine c_exit (zx3 (zx3 (zz0 (zq1 (zq5 (zq0 (wl_p I_ok rfl (zq3 (zq1 (zj0 (zz2 rfl rfl ?_)))))))))))
   exact ⟨congrArg Value.bool (decide_eq_true hall).symm, hX⟩
theorem equalId_calls (w : World) {p q : Option Addr} {c d : Nat} {l m : (List (List UInt8))} (h : Sl w p l.length 32 (l.flatMap zq6)) (h' : Sl w q m.length 32 (m.flatMap zq6)) (hl : l.length < 1000000000) (h1 : ∀ r ∈ l, IdIn r) (h2 : ∀ r ∈ m, IdIn r) :
  zz1 Tryz.prog 38 [.slice p l.length c, .slice q m.length d] w fun v w' => v = .bool (decide (l = m)) ∧ Ext No w w' := by
 refine zq9 Tryz.func38 rfl rfl rfl rfl ?_
 have hX := Ext.refl No w
 refine zq5 (zq0 (wl_p I_ok rfl (zq3 (zq1 (zq5 (zq5 (zq0 (wl_p I_ok rfl (zq3 (zq1 (c_if rfl (fun hc => ?_) (fun hc => ?_))))))))))))
 ·refine zq5 ?_
  refine zq0 (wl_p I_ok rfl (zq3 (zq1 (zj0 (zx5 (zz2 rfl rfl ?_))))))
  exact ⟨congrArg Value.bool (by symm; rw [decide_eq_false_iff_not]; intro h; rw [h] at hc; exact hc rfl), hX⟩
 ·have hlm : l.length = m.length := by omega
  refine zx7 (zq1 (zq5 (zq5 (zq0 (wl_p I_ok rfl (zq3 (zq1 (zx4 ?_))))))))
  refine zv3 (α := Nat) [0, 1, 12] rfl (fun z => [(13, .int .i64 (z : Int))]) (fun z u => (z ≤ l.length ∧ ∀ k (hk : k < l.length), k < z → l[k] = m[k]'(by omega)) ∧ Ext No w u) (fun z u => l.length - z) (0) rfl ⟨⟨Nat.zero_le _, fun k _ h => absurd h (Nat.not_lt_zero _)⟩, hX⟩ ?_
  rintro i w1 ⟨⟨hi, hok⟩, hX⟩
  refine zq5 (zq0 (wl_p I_ok rfl (zq3 (zq1 (zq5 (c_if rfl (fun hc => ?_) (fun hc => ?_)))))))
  ·have hi : i < l.length := by omega
   have him : i < m.length := by omega
   obtain ⟨b, off, rfl, hsa⟩ := h.rowAll (fun r hr => (h1 r hr).len) (by omega)
   obtain ⟨b', off', rfl, hsb⟩ := h'.rowAll (fun r hr => (h2 r hr).len) (by omega)
   have ha1 := h1 _ (List.getElem_mem hi)
   have ha2 := h2 _ (List.getElem_mem him)
   refine zx7 (zq1 (zq5 (zx4 (zq5 (zq0 (wl_p I_ok rfl (zq3 (zq1 (zq5 ?_)))))))))
   refine c_draw rfl 9 [(0, true), (1, true), (2, true), (3, true), (4, true), (5, true), (6, true), (7, true), (8, true)] [] (No) (by kernel_rfl) fun w2 hE2 hs2 => ?_
   have hXd := hX
   have hX := hX.zq4 hE2
   refine wd_k I_ok 2 rfl (wd_ix I_ok rfl rfl 32 rfl i rfl (by omega) (off + i * 32) rfl (wd_ldN I_ok rfl rfl (fun w' hw' => ((hsa i hi).zq2 (hXd.zq4 hw'))) (IdIn.len ha1) ?_))
   refine wd_k I_ok 2 rfl (wd_ix I_ok rfl rfl 32 rfl i rfl (by omega) (off' + i * 32) rfl (wd_ldN I_ok rfl rfl (fun w' hw' => ((hsb i him).zq2 (hXd.zq4 hw'))) (IdIn.len ha2) ?_))
   refine wd_eqK rfl rfl gId 10 (by decide) kId (idForm ha1) (idForm ha2) (idKey ha1) (idKey ha2) idLits_inj ?_
   simp only [Bool.false_eq_true, if_false]
   refine wd_sw (zv0 (zq1 (c_if rfl (fun hc => ?_) (fun hc => ?_))))
   ·refine zq5 ?_
    refine zq0 (wl_p I_ok rfl (zq3 (zq1 (zj0 (zz3 (zx5 (zx5 (zz3 (zx5 (zz2 rfl rfl ?_))))))))))
    exact ⟨congrArg Value.bool (by symm; rw [decide_eq_false_iff_not]; intro e; subst e; exact hc rfl), hX⟩
   ·have hei := Decidable.not_not.1 hc
    refine zx7 (zx6 (zq1 (zq0 (wl_p I_ok rfl ?_))))
    rw [IntWalk.i64_in _ (by omega)]
    refine zq3 ?_
    exact zv1 (i + 1) rfl ⟨⟨by omega, fun k hk hlt => (by rcases Nat.lt_or_ge k i with h0 | h0; exact hok k hk h0; (have e : k = i := (by omega)); subst e; exact hei)⟩, hX⟩ (by first | omega | (dsimp only; omega))
  ·have hall : l = m := list_ext hlm fun k hk => hok k hk (by omega)
   refine c_exit (zx3 (zx3 (zz0 (zq1 (zq5 (zq0 (wl_p I_ok rfl (zq3 (zq1 (zj0 (zz2 rfl rfl ?_)))))))))))
   exact ⟨congrArg Value.bool (decide_eq_true hall).symm, hX⟩
end Go.Proofs.YtpcdihkcenfgkaaGreatDoor
namespace Go.Vc
structure ObjD where
  kind : Int
  text : Str
  leaves : List zj8
  style : Int
  tree : List UInt8
  base : List UInt8
  parents : List (List UInt8)
  rows : List ChgD
  number : Nat
  author : Nat
  note : Str
  deriving DecidableEq
structure ObjP where
  lp : Option Addr
  lc : Nat
  pp : Option Addr
  pc : Nat
  rp : Option Addr
  rc : Nat
def objC (o : ObjD) (a : ObjP) : List Value :=
  [.int .i64 o.kind, strV o.text, .slice a.lp o.leaves.length a.lc, .int .i64 o.style] ++ (zq6 o.tree ++ (zq6 o.base ++
    [.slice a.pp o.parents.length a.pc, .slice a.rp o.rows.length a.rc, .int .u32 (o.number : Int), .int .u32 (o.author : Int), strV o.note]))
instance (o : ObjD) (a : ObjP) : OneC (objC o a) := by unfold objC; infer_instance
structure ObjIn (o : ObjD) : Prop where
  tree : o.tree.length = 32
  base : o.base.length = 32
  parents : ∀ r ∈ o.parents, r.length = 32
  leaves : ∀ r ∈ o.leaves, r.path.length ≤ maxLen ∧ r.id.length = 32
  rows : ∀ r ∈ o.rows, r.path.length ≤ maxLen ∧ r.text.length ≤ maxLen
  number : o.number < 2 ^ 32
  author : o.author < 2 ^ 32
theorem zq7 {o : ObjD} {a : ObjP} (h : ObjIn o) : (objC o a).length = 73 := by
 simp only [objC, List.length_append, zx0, h.tree, h.base, List.length_cons, List.length_nil]
structure ObjL (w : World) (o : ObjD) (a : ObjP) : Prop where
  leaves : Sl w a.lp o.leaves.length 33 (o.leaves.flatMap zj8.cells)
  parents : Sl w a.pp o.parents.length 32 (o.parents.flatMap zq6)
  rows : Sl w a.rp o.rows.length 3 (o.rows.flatMap ChgD.cells)
theorem ObjL.zq2 {w w' : World} {o : ObjD} {a : ObjP} (h : ObjL w o a) (hE : Ext No w w') : ObjL w' o a := ⟨h.leaves.zq2 hE, h.parents.zq2 hE, h.rows.zq2 hE⟩
structure ObjAt (w : World) (b off : Nat) (o : ObjD) (a : ObjP) : Prop where
  kind : w.cell? ⟨b, off, none⟩ = some (.int .i64 o.kind)
  text : w.cell? ⟨b, off + 1, none⟩ = some (strV o.text)
  leaves : w.cell? ⟨b, off + 2, none⟩ = some (.slice a.lp o.leaves.length a.lc)
  style : w.cell? ⟨b, off + 3, none⟩ = some (.int .i64 o.style)
  tree : Seg w b (off + 4) (zq6 o.tree)
  base : Seg w b (off + 36) (zq6 o.base)
  parents : w.cell? ⟨b, off + 68, none⟩ = some (.slice a.pp o.parents.length a.pc)
  rows : w.cell? ⟨b, off + 69, none⟩ = some (.slice a.rp o.rows.length a.rc)
  number : w.cell? ⟨b, off + 70, none⟩ = some (.int .u32 (o.number : Int))
  author : w.cell? ⟨b, off + 71, none⟩ = some (.int .u32 (o.author : Int))
  note : w.cell? ⟨b, off + 72, none⟩ = some (strV o.note)
theorem Seg.obj {w : World} {b off : Nat} {o : ObjD} {a : ObjP} (hs : Seg w b off (objC o a)) (h : ObjIn o) : ObjAt w b off o a := by
 unfold objC at hs
 obtain ⟨h1, h2⟩ := Seg.append.1 hs
 obtain ⟨h3, h4⟩ := Seg.append.1 h2
 obtain ⟨h5, h6⟩ := Seg.append.1 h4
 have e1 : off + 4 + (zq6 o.tree).length = off + 36 := by rw [zx0, h.tree]
 have h5 : Seg w b (off + 4 + (zq6 o.tree).length) (zq6 o.base) := h5
 have h6 : Seg w b (off + 4 + (zq6 o.tree).length + (zq6 o.base).length) _ := h6
 rw [e1] at h5 h6
 rw [zx0, h.base] at h6
 exact ⟨h1 0 _ rfl, h1 1 _ rfl, h1 2 _ rfl, h1 3 _ rfl, h3, h5, h6 0 _ rfl, h6 1 _ rfl, h6 2 _ rfl, h6 3 _ rfl, h6 4 _ rfl⟩
theorem ObjAt.zq2 {w w' : World} {b off : Nat} {o : ObjD} {a : ObjP} (hs : ObjAt w b off o a) (hE : Ext No w w') : ObjAt w' b off o a := by
 have key : ∀ {k : Nat} {v : Value}, w.cell? ⟨b, k, none⟩ = some v → w'.cell? ⟨b, k, none⟩ = some v := fun {k v} hk => by
  have hS : Seg w b k [v] := fun i u hi => by
   cases i with
   | zero => cases hi; exact hk
   | succ i => cases hi
  exact (hS.zq2 hE) 0 v rfl
 exact ⟨key hs.kind, key hs.text, key hs.leaves, key hs.style, hs.tree.zq2 hE, hs.base.zq2 hE, key hs.parents, key hs.rows, key hs.number, key hs.author, key hs.note⟩
abbrev idZ : List UInt8 := List.replicate 32 0
def objZ : ObjD := ⟨0, [], [], 0, idZ, idZ, [], [], 0, 0, []⟩
theorem objZ_in : ObjIn objZ := ⟨rfl, rfl, fun _ h => absurd h List.not_mem_nil, fun _ h => absurd h List.not_mem_nil, fun _ h => absurd h List.not_mem_nil, by decide, by decide⟩
def StyleIs (o : ObjD) : Prop :=
  o.style = 1 ∧ o.parents.length = 0 ∧ o.base = idZ ∧ o.rows.length = 0 ∧ o.number = 0 ∨
  o.style = 2 ∧ o.parents.length = 1 ∧ o.base = idZ ∧ 0 < o.number ∨
  o.style = 3 ∧ o.parents.length = 2 ∧ o.parents.getD 0 [] ≠ o.parents.getD 1 [] ∧ 0 < o.number
instance (o : ObjD) : Decidable (StyleIs o) := inferInstanceAs (Decidable (_ ∨ _))
def StyleOk (o : ObjD) : Prop := idZ ∉ o.parents ∧ StyleIs o
instance (o : ObjD) : Decidable (StyleOk o) := inferInstanceAs (Decidable (_ ∧ _))
def Styled (o : ObjD) : Prop := o.tree ≠ idZ ∧ StyleOk o
instance (o : ObjD) : Decidable (Styled o) := inferInstanceAs (Decidable (_ ∧ _))
def NoCom (o : ObjD) : Prop := o.style = 0 ∧ o.tree = idZ ∧ o.base = idZ ∧ o.parents.length = 0 ∧ o.rows.length = 0 ∧ o.number = 0 ∧ o.author = 0 ∧ o.note = []
instance (o : ObjD) : Decidable (NoCom o) := inferInstanceAs (Decidable (_ ∧ _))
def Leaved (l : List zj8) : Prop := Rises (l.map zj8.path) ∧ ∀ x ∈ l, x.id ≠ idZ
instance (l : List zj8) : Decidable (Leaved l) := inferInstanceAs (Decidable (_ ∧ _))
def BlobOk (o : ObjD) : Prop := o.text.length ≤ 256 ∧ o.leaves.length = 0 ∧ NoCom o
instance (o : ObjD) : Decidable (BlobOk o) := inferInstanceAs (Decidable (_ ∧ _))
def TreeOk (o : ObjD) : Prop := Leaved o.leaves ∧ o.text = [] ∧ NoCom o
instance (o : ObjD) : Decidable (TreeOk o) := inferInstanceAs (Decidable (_ ∧ _))
def ComOk (o : ObjD) : Prop := o.text = [] ∧ o.leaves.length = 0 ∧ o.note.length ≤ 200 ∧ EditOk o.rows ∧ Styled o
instance (o : ObjD) : Decidable (ComOk o) := inferInstanceAs (Decidable (_ ∧ _))
def FieldsOk (o : ObjD) : Prop := o.kind = 1 ∧ BlobOk o ∨ o.kind = 2 ∧ TreeOk o ∨ o.kind = 3 ∧ ComOk o
instance (o : ObjD) : Decidable (FieldsOk o) := inferInstanceAs (Decidable (_ ∨ _))
theorem blob_zero {o : ObjD} : BlobOk o ↔ o.text.length ≤ 256 ∧ { o with kind := 0, text := [] } = objZ := by
 obtain ⟨k, t, l, s, tr, ba, p, r, n, a, no⟩ := o
 simp only [BlobOk, NoCom, objZ, ObjD.mk.injEq, List.length_eq_zero_iff, true_and]
theorem tree_zero {o : ObjD} : TreeOk o ↔ Leaved o.leaves ∧ { o with kind := 0, leaves := [] } = objZ := by
 obtain ⟨k, t, l, s, tr, ba, p, r, n, a, no⟩ := o
 simp only [TreeOk, NoCom, objZ, ObjD.mk.injEq, List.length_eq_zero_iff, true_and]
/-! ### Bytes -/
def strB (n : Nat) (s : Str) : List UInt8 := be n s.length ++ s
def isB (b : Bool) : UInt8 := if b then 1 else 0
def leafB (r : zj8) : List UInt8 := strB 1 r.path ++ r.id
def chgB (r : ChgD) : List UInt8 := strB 1 r.path ++ [isB r.is] ++ strB 2 r.text
def treeB (l : List zj8) : List UInt8 := be 1 l.length ++ l.flatMap leafB
def comB (o : ObjD) : List UInt8 := be 1 o.style.toNat ++ o.tree ++ be 1 o.parents.length ++ o.parents.flatten ++ o.base ++ be 1 o.rows.length ++ o.rows.flatMap chgB ++ be 4 o.number ++ be 4 o.author ++ strB 1 o.note
def laidB (o : ObjD) : List UInt8 :=
  be 1 o.kind.toNat ++ if o.kind = 1 then strB 2 o.text else if o.kind = 2 then treeB o.leaves else comB o
def ObjOk (o : ObjD) : Prop := FieldsOk o ∧ (laidB o).length ≤ 800
instance (o : ObjD) : Decidable (ObjOk o) := inferInstanceAs (Decidable (_ ∧ _))
def idOf (o : ObjD) : List UInt8 := sumW (laidB o)
def zj3 (o : ObjD) : List (List UInt8) := if o.kind = 2 then o.leaves.map zj8.id else if o.kind = 3 then o.tree :: o.parents else []
theorem flat_le {α β : Type} {f : α → List β} {n : Nat} : ∀ {l : List α}, (∀ x ∈ l, (f x).length ≤ n) → (l.flatMap f).length ≤ l.length * n
 | [], _ => by simp
 | x :: r, h => by
  have h1 := h x (by simp)
  have h2 := flat_le (f := f) (n := n) (l := r) fun y hy => h y (by simp [hy])
  rw [List.flatMap_cons, List.length_append, List.length_cons, Nat.succ_mul]
  omega
theorem flatten_len {l : List (List UInt8)} {n : Nat} (h : ∀ x ∈ l, x.length = n) : l.flatten.length = l.length * n := by
 induction l with
 | nil => simp
 | cons x r ih => rw [List.flatten_cons, List.length_append, h x (by simp), ih fun y hy => h y (by simp [hy]), List.length_cons, Nat.succ_mul, Nat.add_comm]
/-! ### What is taken off bytes -/
end Go.Vc
namespace Go.Proofs.YtpcdihkcenfgkaaGreatDoor
open Go.Vc
def Flat (x y : ObjD) : Prop := x.kind = y.kind ∧ x.text = y.text ∧ x.style = y.style ∧ x.tree = y.tree ∧ x.base = y.base ∧ x.number = y.number ∧ x.author = y.author ∧ x.note = y.note
instance (x y : ObjD) : Decidable (Flat x y) := inferInstanceAs (Decidable (_ ∧ _))
theorem same_iff {x y : ObjD} : x = y ↔ Flat x y ∧ x.leaves = y.leaves ∧ x.parents = y.parents ∧ x.rows = y.rows := by
 cases x; cases y
 simp only [Flat, ObjD.mk.injEq]
 constructor
 ·rintro ⟨rfl, rfl, rfl, rfl, rfl, rfl, rfl, rfl, rfl, rfl, rfl⟩
  exact ⟨⟨rfl, rfl, rfl, rfl, rfl, rfl, rfl, rfl⟩, rfl, rfl, rfl⟩
 ·rintro ⟨⟨rfl, rfl, rfl, rfl, rfl, rfl, rfl, rfl⟩, rfl, rfl, rfl⟩
  exact ⟨rfl, rfl, rfl, rfl, rfl, rfl, rfl, rfl, rfl, rfl, rfl⟩
theorem str_iff {a b : Str} : strU a = strU b ↔ a = b := ⟨fun h => strU_inj h, fun h => h ▸ rfl⟩
structure Short (x : ObjD) : Prop where
  leaves : x.leaves.length < 1000000000
  parents : x.parents.length < 1000000000
  rows : x.rows.length < 1000000000
  leafP : ∀ r ∈ x.leaves, r.path.length < 1000000000
  rowP : ∀ r ∈ x.rows, r.path.length < 1000000000
theorem sameObj_calls (w : World) {x y : ObjD} {a b : ObjP} (hx : ObjIn x) (hy : ObjIn y) (hxl : ObjL w x a) (hyl : ObjL w y b) (hsx : Short x) :
  zz1 Tryz.prog 32 [.agg (objC x a).toArray, .agg (objC y b).toArray] w fun v w' => v = .bool (decide (x = y)) ∧ Ext No w w' := by
 refine zq9 Tryz.func32 rfl rfl rfl rfl ?_
 have hX := Ext.refl No w
 refine zq5 (zq0 (wl (zz9 I_ok rfl fun b2 w1 hn2 hb2 hE1 => ?_)))
 have hX := hX.zq4 hE1
 have hb2 : Blk w1 b2 46 (objC x a) := hb2
 have oa := hb2.seg.obj hx
 refine wl (zz9 I_ok rfl fun b3 w2 hn3 hb3 hE2 => ?_)
 have hb2 := hb2.zq2 hE2
 have oa := oa.zq2 hE2
 have hX := hX.zq4 hE2
 have hb3 : Blk w2 b3 46 (objC y b) := hb3
 have ob := hb3.seg.obj hy
 refine wl_p I_ok rfl (zq3 (zq1 (c_cutK (α := Bool) [2, 3] rfl (fun z => [(5, .bool z)]) (fun z u => (z = decide (Flat x y)) ∧ Blk u b2 46 (objC x a) ∧ Blk u b3 46 (objC y b) ∧ Ext No w u) ?_ ?_)))
 ·refine zq0 ?_
  refine wl_p I_ok rfl (wl (st_ld I_ok rfl oa.kind (wl_p I_ok rfl (wl (st_ld I_ok rfl ob.kind (wl_p I_ok rfl (zj4 11 rfl (fun hg => ?_) (fun hg => ?_))))))))
  ·have e1 : x.kind = y.kind := by exact hg
   refine zz5 I_ok 1 rfl (wl (st_ld I_ok rfl oa.text (zz5 I_ok 1 rfl (wl (st_ld I_ok rfl ob.text (zz5 I_ok 3 rfl (zj4 18 rfl (fun hg => ?_) (fun hg => ?_))))))))
   ·have e2 : x.text = y.text := by exact str_iff.1 hg
    refine zz5 I_ok 1 rfl (wl (st_ld I_ok rfl oa.style (zz5 I_ok 1 rfl (wl (st_ld I_ok rfl ob.style (zz5 I_ok 3 rfl (zj4 25 rfl (fun hg => ?_) (fun hg => ?_))))))))
    ·have e3 : x.style = y.style := by exact hg
     refine zz5 I_ok 1 rfl (wl (st_ldN I_ok rfl oa.tree (IdIn.len hx.tree) (zz5 I_ok 1 rfl (wl (st_ldN I_ok rfl ob.tree (IdIn.len hy.tree) ?_)))))
     refine wl (st_eqK rfl gId 10 (by decide) kId (idForm hx.tree) (idForm hy.tree) (idKey hx.tree) (idKey hy.tree) idLits_inj ?_)
     simp only [if_true]
     refine wl_p I_ok rfl (zj4 32 rfl (fun hg => ?_) (fun hg => ?_))
     ·have e4 : x.tree = y.tree := by exact hg
      refine zz5 I_ok 1 rfl (wl (st_ldN I_ok rfl oa.base (IdIn.len hx.base) (zz5 I_ok 1 rfl (wl (st_ldN I_ok rfl ob.base (IdIn.len hy.base) ?_)))))
      refine wl (st_eqK rfl gId 10 (by decide) kId (idForm hx.base) (idForm hy.base) (idKey hx.base) (idKey hy.base) idLits_inj ?_)
      simp only [if_true]
      refine wl_p I_ok rfl (zj4 39 rfl (fun hg => ?_) (fun hg => ?_))
      ·have e5 : x.base = y.base := by exact hg
       refine zz5 I_ok 1 rfl (wl (st_ld I_ok rfl oa.number (zz5 I_ok 1 rfl (wl (st_ld I_ok rfl ob.number (zz5 I_ok 3 rfl (zj4 46 rfl (fun hg => ?_) (fun hg => ?_))))))))
       ·have e6 : x.number = y.number := by omega
        refine zz5 I_ok 1 rfl (wl (st_ld I_ok rfl oa.author (zz5 I_ok 1 rfl (wl (st_ld I_ok rfl ob.author (zz5 I_ok 3 rfl (zj4 53 rfl (fun hg => ?_) (fun hg => ?_))))))))
        ·have e7 : x.author = y.author := by omega
         refine zz5 I_ok 1 rfl (wl (st_ld I_ok rfl oa.note (zz5 I_ok 1 rfl (wl (st_ld I_ok rfl ob.note (zz5 I_ok 3 rfl (zq3 ?_)))))))
         exact zz7 (_) rfl ⟨by rw [decide_eq_decide, str_iff]; exact ⟨fun h => ⟨e1, e2, e3, e4, e5, e6, e7, h⟩, fun h => h.2.2.2.2.2.2.2⟩, hb2, hb3, hX⟩
        ·have n7 : ¬ x.author = y.author := fun e => hg (by rw [e])
         refine zz5 I_ok 7 rfl (zq3 ?_)
         exact zz7 (false) rfl ⟨by symm; rw [decide_eq_false_iff_not]; exact fun h => n7 h.2.2.2.2.2.2.1, hb2, hb3, hX⟩
       ·have n6 : ¬ x.number = y.number := fun e => hg (by rw [e])
        refine zz5 I_ok 14 rfl (zq3 ?_)
        exact zz7 (false) rfl ⟨by symm; rw [decide_eq_false_iff_not]; exact fun h => n6 h.2.2.2.2.2.1, hb2, hb3, hX⟩
      ·have n5 : ¬ x.base = y.base := fun e => hg (by rw [e])
       refine zz5 I_ok 21 rfl (zq3 ?_)
       exact zz7 (false) rfl ⟨by symm; rw [decide_eq_false_iff_not]; exact fun h => n5 h.2.2.2.2.1, hb2, hb3, hX⟩
     ·have n4 : ¬ x.tree = y.tree := fun e => hg (by rw [e])
      refine zz5 I_ok 28 rfl (zq3 ?_)
      exact zz7 (false) rfl ⟨by symm; rw [decide_eq_false_iff_not]; exact fun h => n4 h.2.2.2.1, hb2, hb3, hX⟩
    ·have n3 : ¬ x.style = y.style := fun e => hg (by rw [e])
     refine zz5 I_ok 35 rfl (zq3 ?_)
     exact zz7 (false) rfl ⟨by symm; rw [decide_eq_false_iff_not]; exact fun h => n3 h.2.2.1, hb2, hb3, hX⟩
   ·have n2 : ¬ x.text = y.text := fun e => hg (by rw [e])
    refine zz5 I_ok 42 rfl (zq3 ?_)
    exact zz7 (false) rfl ⟨by symm; rw [decide_eq_false_iff_not]; exact fun h => n2 h.2.1, hb2, hb3, hX⟩
  ·have n1 : ¬ x.kind = y.kind := fun e => hg (by rw [e])
   refine zz5 I_ok 49 rfl (zq3 ?_)
   exact zz7 (false) rfl ⟨by symm; rw [decide_eq_false_iff_not]; exact fun h => n1 h.1, hb2, hb3, hX⟩
 rintro z w3 ⟨hz, hb2, hb3, hX⟩
 have oa := hb2.seg.obj hx
 have ob := hb3.seg.obj hy
 refine c_cutK (α := Bool) [] rfl (fun z => [(4, .bool z)]) (fun z u => (z = decide (x = y)) ∧ Ext No w u) ?_ ?_
 ·refine zq0 ?_
  refine wl_p I_ok rfl (wl_case 61 rfl (fun hg => ?_) (fun hg => ?_))
  ·have hz : Flat x y := by simpa [hg] using hz
   refine zz5 I_ok 1 rfl (wl (st_ld I_ok rfl oa.leaves (zz5 I_ok 1 rfl (wl (st_ld I_ok rfl ob.leaves ?_)))))
   refine wl (zx2 Tryz.call67 rfl rfl rfl rfl rfl rfl (equalLeaf_calls w3 (hxl.leaves.zq2 hX) (hyl.leaves.zq2 hX) hsx.leaves hx.leaves hy.leaves) fun v4 w4 hr4 => ?_)
   obtain ⟨rfl, hE4⟩ := hr4
   have oa := oa.zq2 hE4
   have ob := ob.zq2 hE4
   have hX := hX.zq4 hE4
   refine wl_p I_ok rfl (zj4 68 rfl (fun hg => ?_) (fun hg => ?_))
   ·have hl1 := hg
    refine zz5 I_ok 1 rfl (wl (st_ld I_ok rfl oa.parents (zz5 I_ok 1 rfl (wl (st_ld I_ok rfl ob.parents ?_)))))
    refine wl (zx2 Tryz.call38 rfl rfl rfl rfl rfl rfl (equalId_calls w4 (hxl.parents.zq2 hX) (hyl.parents.zq2 hX) hsx.parents hx.parents hy.parents) fun v5 w5 hr5 => ?_)
    obtain ⟨rfl, hE5⟩ := hr5
    have oa := oa.zq2 hE5
    have ob := ob.zq2 hE5
    have hX := hX.zq4 hE5
    refine wl_p I_ok rfl (zj4 75 rfl (fun hg => ?_) (fun hg => ?_))
    ·have hl2 := hg
     refine zz5 I_ok 2 rfl (wl (st_ld I_ok rfl oa.rows (zz5 I_ok 2 rfl (wl (st_ld I_ok rfl ob.rows ?_)))))
     refine wl (zx2 Tryz.call68 rfl rfl rfl rfl rfl rfl (equalChange_calls w5 (hxl.rows.zq2 hX) (hyl.rows.zq2 hX) hsx.rows hx.rows hy.rows) fun v6 w6 hr6 => ?_)
     obtain ⟨rfl, hE6⟩ := hr6
     have hX := hX.zq4 hE6
     refine wl_p I_ok rfl (zq3 ?_)
     exact zz7 (_) rfl ⟨by rw [decide_eq_decide]; exact ⟨fun h => same_iff.2 ⟨hz, hl1, hl2, h⟩, fun h => (same_iff.1 h).2.2.2⟩, hX⟩
    ·have hl2 := hg
     refine zz5 I_ok 9 rfl (zq3 ?_)
     exact zz7 (false) rfl ⟨by symm; rw [decide_eq_false_iff_not]; exact fun h => hl2 (same_iff.1 h).2.2.1, hX⟩
   ·have hl1 := hg
    refine zz5 I_ok 16 rfl (zq3 ?_)
    exact zz7 (false) rfl ⟨by symm; rw [decide_eq_false_iff_not]; exact fun h => hl1 (same_iff.1 h).2.1, hX⟩
  ·have hz : ¬ Flat x y := by simpa [hg] using hz
   refine zz5 I_ok 23 rfl (zq3 ?_)
   exact zz7 (false) rfl ⟨by symm; rw [decide_eq_false_iff_not]; exact fun h => hz (same_iff.1 h).1, hX⟩
 rintro z w7 ⟨rfl, hX⟩
 refine zj0 (zz2 rfl rfl ?_)
 exact ⟨rfl, hX⟩
theorem objZ_l (w : World) : ObjL w objZ ⟨none, 0, none, 0, none, 0⟩ := ⟨Sl.nil _ _ _, Sl.nil _ _ _, Sl.nil _ _ _⟩
theorem objZ_c : objC objZ ⟨none, 0, none, 0, none, 0⟩ = cellsOf ti46.zero := by kernel_rfl
theorem zeroObj_calls (w : World) {x : ObjD} {a : ObjP} (hx : ObjIn x) (hxl : ObjL w x a) (hsx : Short x) :
  zz1 Tryz.prog 150 [.agg (objC x a).toArray] w fun v w' => v = .bool (decide (x = objZ)) ∧ Ext No w w' := by
 refine zq9 Tryz.func150 rfl rfl rfl rfl ?_
 have hX := Ext.refl No w
 refine zq5 (zq0 (wl (zz9 I_ok rfl fun b1 w1 hn1 hb1 hE1 => ?_)))
 have hX := hX.zq4 hE1
 have hb1 : Blk w1 b1 46 (objC x a) := hb1
 refine wl_p I_ok rfl (zq3 (zq1 (zq5 (zq0 (wl (zj2 I_ok hb1 rfl (zq7 hx) (wl (st_bd I_ok rfl trivial (l' := objC objZ ⟨none, 0, none, 0, none, 0⟩) objZ_c.symm ?_))))))))
 refine wl (zx2 Tryz.call32 rfl rfl rfl rfl rfl rfl (sameObj_calls w1 hx objZ_in (hxl.zq2 hX) (objZ_l _) hsx) fun v2 w2 hr2 => ?_)
 obtain ⟨rfl, hE2⟩ := hr2
 have hX := hX.zq4 hE2
 refine wl_p I_ok rfl (zq3 (zq1 (zj0 (zz2 rfl rfl ?_))))
 exact ⟨rfl, hX⟩
theorem idZ_c : zq6 idZ = cellsOf ti31.zero := by kernel_rfl
theorem idZ_in : IdIn idZ := rfl
theorem indexId_calls (w : World) {p : Option Addr} {c : Nat} {l : List (List UInt8)} {x : List UInt8} (h : Sl w p l.length 32 (l.flatMap zq6)) (hl : l.length < 1000000000) (h1 : ∀ r ∈ l, IdIn r) (hx : IdIn x) :
  zz1 Tryz.prog 65 [.slice p l.length c, .agg (zq6 x).toArray] w fun v w' => ∃ n : Int, v = .int .i64 n ∧ (0 ≤ n ↔ x ∈ l) ∧ Ext No w w' := by
 refine zq9 Tryz.func65 rfl rfl rfl rfl ?_
 have hX := Ext.refl No w
 refine zq5 (zq0 (wl (zz9 I_ok rfl fun b3 w1 hn3 hb3 hE1 => ?_)))
 have hX := hX.zq4 hE1
 have hb3 : Blk w1 b3 31 (zq6 x) := hb3
 refine wl_p I_ok rfl (zq3 (zq1 (zq5 (zq5 (zq0 (wl_p I_ok rfl (zq3 (zq1 (zx4 ?_)))))))))
 refine zv3 (α := Nat) [0, 3, 7] rfl (fun z => [(8, .int .i64 (z : Int))]) (fun z u => (z ≤ l.length ∧ ∀ k (hk : k < l.length), k < z → ¬ x = l[k]) ∧ Blk u b3 31 (zq6 x) ∧ Ext No w u) (fun z u => l.length - z) (0) rfl ⟨⟨Nat.zero_le _, fun k _ h => absurd h (Nat.not_lt_zero _)⟩, hb3, hX⟩ ?_
 rintro i w2 ⟨⟨hi, hno⟩, hb3, hX⟩
 refine zq5 (zq0 (wl_p I_ok rfl (zq3 (zq1 (zq5 (c_if rfl (fun hc => ?_) (fun hc => ?_)))))))
 ·have hi : i < l.length := by omega
  obtain ⟨b, off, rfl, hseg⟩ := (h.rowAll (fun r hr => (h1 r hr).len) (by omega))
  have ha1 := h1 _ (List.getElem_mem hi)
  refine zx7 (zq1 (zq5 (zx4 (zq5 (zq0 (wl_p I_ok rfl (zq3 (zq1 (zq5 (c_draw rfl 6 [(0, true), (1, true), (2, true), (3, true), (4, true), (5, true)] [] (No) (by kernel_rfl) fun w3 hE3 hs3 => ?_))))))))))
  have hd3 := hb3
  have hXd := hX
  have hb3 := hb3.zq2 hE3
  have hX := hX.zq4 hE3
  refine wd_ldN I_ok rfl rfl (fun w' hw' => (hd3.zq2 hw').seg) hx.len ?_
  refine wd_k I_ok 2 rfl (wd_ix I_ok rfl rfl 32 rfl i rfl (by omega) (off + i * 32) rfl (wd_ldN I_ok rfl rfl (fun w' hw' => ((hseg i hi).zq2 (hXd.zq4 hw'))) ha1.len ?_))
  refine wd_eqK rfl rfl gId 10 (by decide) kId (idForm hx) (idForm ha1) (idKey hx) (idKey ha1) idLits_inj ?_
  simp only [if_true]
  refine wd_sw (zv0 (zq1 (c_if rfl (fun hc => ?_) (fun hc => ?_))))
  ·refine zq5 ?_
   refine zq0 (wl_p I_ok rfl (zq3 (zq1 (zj0 (zz3 (zx5 (zx5 (zz3 (zx5 (zz2 rfl rfl ?_))))))))))
   exact ⟨_, rfl, ⟨fun _ => hc ▸ List.getElem_mem hi, fun _ => Int.natCast_nonneg _⟩, hX⟩
  ·refine zx7 ?_
   refine zx6 (zq1 (zq0 (wl_p I_ok rfl ?_)))
   rw [IntWalk.i64_in _ (by omega)]
   refine zq3 ?_
   exact zv1 (i + 1) rfl ⟨⟨by omega, allStep (p := fun y => ¬ x = y) hno hi hc⟩, hb3, hX⟩ (by first | omega | (dsimp only; omega))
 ·have hall : ¬ x ∈ l := fun hr => by
   obtain ⟨k, hk, e⟩ := List.mem_iff_getElem.1 hr
   exact hno k hk (by omega) e.symm
  refine c_exit (zx3 (zx3 (zz0 (zq1 (zq5 (zq0 (wl_p I_ok rfl (zq3 (zq1 (zj0 (zz2 rfl rfl ?_)))))))))))
  exact ⟨_, rfl, ⟨fun h => absurd h (by decide), fun h => absurd h hall⟩, hX⟩
theorem containsId_calls (w : World) {p : Option Addr} {c : Nat} {l : List (List UInt8)} {x : List UInt8} (h : Sl w p l.length 32 (l.flatMap zq6)) (hl : l.length < 1000000000) (h1 : ∀ r ∈ l, IdIn r) (hx : IdIn x) :
  zz1 Tryz.prog 29 [.slice p l.length c, .agg (zq6 x).toArray] w fun v w' => v = .bool (decide (x ∈ l)) ∧ Ext No w w' := by
 refine zq9 Tryz.func29 rfl rfl rfl rfl ?_
 have hX := Ext.refl No w
 refine zq5 (zq0 (wl (zz9 I_ok rfl fun b3 w1 hn3 hb3 hE1 => ?_)))
 have hX := hX.zq4 hE1
 have hb3 : Blk w1 b3 31 (zq6 x) := hb3
 refine wl_p I_ok rfl (zq3 (zq1 (zq5 (zq0 (wl_p I_ok rfl (wl (zj2 I_ok hb3 rfl hx.len (wl (zx2 Tryz.call65 rfl rfl rfl rfl rfl rfl (indexId_calls w1 (h.zq2 hX) hl h1 hx) fun v2 w2 hr2 => ?_)))))))))
 obtain ⟨n, rfl, hn1, hE2⟩ := hr2
 have hX := hX.zq4 hE2
 refine wl_p I_ok rfl (zq3 (zq1 (zj0 (zz2 rfl rfl ?_))))
 exact ⟨congrArg Value.bool (decide_eq_decide.2 hn1), hX⟩
theorem styled_no {o : ObjD} (h : idZ ∈ o.parents ∨ o.tree = idZ) : ¬ Styled o := fun hs => h.elim hs.2.1 hs.1
theorem styled1 {o : ObjD} (h : ¬ (idZ ∈ o.parents ∨ o.tree = idZ)) (hs : o.style = 1) : Styled o ↔ o.parents.length = 0 ∧ o.base = idZ ∧ o.rows.length = 0 ∧ o.number = 0 := by
 constructor
 ·rintro ⟨_, _, h1 | h1 | h1⟩
  ·exact h1.2
  ·exact absurd (hs.symm.trans h1.1) (by decide)
  ·exact absurd (hs.symm.trans h1.1) (by decide)
 ·exact fun h1 => ⟨fun e => h (.inr e), fun e => h (.inl e), .inl ⟨hs, h1⟩⟩
theorem styled2 {o : ObjD} (h : ¬ (idZ ∈ o.parents ∨ o.tree = idZ)) (hs : o.style = 2) : Styled o ↔ o.parents.length = 1 ∧ o.base = idZ ∧ 0 < o.number := by
 constructor
 ·rintro ⟨_, _, h1 | h1 | h1⟩
  ·exact absurd (hs.symm.trans h1.1) (by decide)
  ·exact h1.2
  ·exact absurd (hs.symm.trans h1.1) (by decide)
 ·exact fun h1 => ⟨fun e => h (.inr e), fun e => h (.inl e), .inr (.inl ⟨hs, h1⟩)⟩
theorem styled3 {o : ObjD} (h : ¬ (idZ ∈ o.parents ∨ o.tree = idZ)) (hs : o.style = 3) : Styled o ↔ o.parents.length = 2 ∧ o.parents.getD 0 [] ≠ o.parents.getD 1 [] ∧ 0 < o.number := by
 constructor
 ·rintro ⟨_, _, h1 | h1 | h1⟩
  ·exact absurd (hs.symm.trans h1.1) (by decide)
  ·exact absurd (hs.symm.trans h1.1) (by decide)
  ·exact h1.2
 ·exact fun h1 => ⟨fun e => h (.inr e), fun e => h (.inl e), .inr (.inr ⟨hs, h1⟩)⟩
theorem styled0 {o : ObjD} (h1 : ¬ o.style = 1) (h2 : ¬ o.style = 2) (h3 : ¬ o.style = 3) : ¬ Styled o := fun h => h.2.2.elim (fun h => h1 h.1) fun h => h.elim (fun h => h2 h.1) fun h => h3 h.1
theorem getD_get {α : Type} {l : List α} {i : Nat} (h : i < l.length) (d : α) : l.getD i d = l[i] := by rw [List.getD_eq_getElem?_getD, List.getElem?_eq_getElem h]; rfl
theorem styledObj_calls (w : World) {x : ObjD} {a : ObjP} (hx : ObjIn x) (hxl : ObjL w x a) (hsx : Short x) :
  zz1 Tryz.prog 153 [.agg (objC x a).toArray] w fun v w' => v = .bool (decide (Styled x)) ∧ Ext No w w' := by
 refine zq9 Tryz.func153 rfl rfl rfl rfl ?_
 have hX := Ext.refl No w
 refine zq5 (zq0 (wl (zz9 I_ok rfl fun b1 w1 hn1 hb1 hE1 => ?_)))
 have hX := hX.zq4 hE1
 have hb1 : Blk w1 b1 46 (objC x a) := hb1
 have oa := hb1.seg.obj hx
 refine wl_p I_ok rfl (zq3 (zq1 (zq5 (c_cutK (α := Bool) [1] rfl (fun z => [(13, .bool z)]) (fun z u => (z = decide (idZ ∈ x.parents ∨ x.tree = idZ)) ∧ Blk u b1 46 (objC x a) ∧ Ext No w u) ?_ ?_))))
 ·refine zq0 ?_
  refine wl_p I_ok rfl (wl (st_ld I_ok rfl oa.parents (wl (st_bd I_ok rfl trivial (l' := zq6 idZ) idZ_c.symm ?_))))
  refine wl (zx2 Tryz.call29 rfl rfl rfl rfl rfl rfl (containsId_calls w1 (hxl.parents.zq2 hX) hsx.parents hx.parents idZ_in) fun v2 w2 hr2 => ?_)
  obtain ⟨rfl, hE2⟩ := hr2
  have hb1 := hb1.zq2 hE2
  have oa := oa.zq2 hE2
  have hX := hX.zq4 hE2
  refine wl_p I_ok rfl (zj4 8 rfl (fun hg => ?_) (fun hg => ?_))
  ·refine zz5 I_ok 5 rfl ?_
   refine zq3 ?_
   exact zz7 (true) rfl ⟨by symm; rw [decide_eq_true_eq]; exact .inl hg, hb1, hX⟩
  ·refine zz5 I_ok 1 rfl ?_
   refine wl (st_ldN I_ok rfl oa.tree (IdIn.len hx.tree) (wl (st_bd I_ok rfl trivial (l' := zq6 idZ) idZ_c.symm (wl (st_eqK rfl gId 10 (by decide) kId (idForm hx.tree) (idForm idZ_in) (idKey hx.tree) (idKey idZ_in) idLits_inj ?_)))))
   simp only [if_true]
   refine wl_p I_ok rfl (zq3 ?_)
   exact zz7 (_) rfl ⟨by rw [decide_eq_decide]; exact ⟨fun h => .inr h, fun h => h.resolve_left hg⟩, hb1, hX⟩
 rintro z w3 ⟨rfl, hb1, hX⟩
 have oa := hb1.seg.obj hx
 refine c_if rfl (fun hc => ?_) (fun hc => ?_)
 ·have hno := styled_no hc
  refine zq5 (zq0 (wl_p I_ok rfl (zq3 (zq1 (zj0 (zx5 (zz2 rfl rfl ?_)))))))
  exact ⟨congrArg Value.bool (decide_eq_false hno).symm, hX⟩
 ·have h0 := hc
  refine zx7 (zq1 (zq5 (zq0 (wl_p I_ok rfl (wl (st_ld I_ok rfl oa.parents (wl_p I_ok rfl (zq3 (zq1 (zq5 (zq5 (zq0 (wl_p I_ok rfl (wl (st_ld I_ok rfl oa.style (zq3 (zq1 (zx4 (zq5 (zq0 ?_))))))))))))))))))))
  refine wl_p I_ok rfl (zq3 (zq1 (c_if rfl (fun hc => ?_) (fun hc => ?_))))
  ·have h1 : x.style = 1 := hc
   refine c_cutK (α := Bool) [] rfl (fun z => [(2, .bool z)]) (fun z u => (z = decide (Styled x)) ∧ Ext No w u) ?_ ?_
   ·refine zq0 ?_
    refine wl_p I_ok rfl (zj4 23 rfl (fun hg => ?_) (fun hg => ?_))
    ·refine zz5 I_ok 1 rfl ?_
     refine wl (st_ldN I_ok rfl oa.base (IdIn.len hx.base) (wl (st_bd I_ok rfl trivial (l' := zq6 idZ) idZ_c.symm (wl (st_eqK rfl gId 10 (by decide) kId (idForm hx.base) (idForm idZ_in) (idKey hx.base) (idKey idZ_in) idLits_inj ?_)))))
     simp only [if_true]
     refine wl_p I_ok rfl (zj4 29 rfl (fun hg => ?_) (fun hg => ?_))
     ·have hb := hg
      refine zz5 I_ok 2 rfl (wl (st_ld I_ok rfl oa.rows (zz5 I_ok 4 rfl (zj4 36 rfl (fun hg => ?_) (fun hg => ?_)))))
      ·refine zz5 I_ok 1 rfl ?_
       refine wl (st_ld I_ok rfl oa.number (zz5 I_ok 3 rfl (zq3 ?_)))
       exact zz7 (_) rfl ⟨by rw [decide_eq_decide, styled1 h0 h1]; exact ⟨fun h => ⟨by omega, hb, by omega, by omega⟩, fun h => by omega⟩, hX⟩
      ·refine zz5 I_ok 5 rfl ?_
       refine zq3 ?_
       exact zz7 (false) rfl ⟨by symm; rw [decide_eq_false_iff_not, styled1 h0 h1]; intro h; omega, hX⟩
     ·have hb := hg
      refine zz5 I_ok 12 rfl (zq3 ?_)
      exact zz7 (false) rfl ⟨by symm; rw [decide_eq_false_iff_not, styled1 h0 h1]; intro h; exact hb h.2.1, hX⟩
    ·refine zz5 I_ok 18 rfl ?_
     refine zq3 ?_
     exact zz7 (false) rfl ⟨by symm; rw [decide_eq_false_iff_not, styled1 h0 h1]; intro h; omega, hX⟩
   rintro z w4 ⟨rfl, hX⟩
   refine zj0 (zz3 (zx5 (zz2 rfl rfl ?_)))
   exact ⟨rfl, hX⟩
  ·have h1 : ¬ x.style = 1 := hc
   refine zq5 (zq0 (wl_p I_ok rfl (zq3 (zq1 (c_if rfl (fun hc => ?_) (fun hc => ?_))))))
   ·have h2 : x.style = 2 := hc
    refine c_cutK (α := Bool) [] rfl (fun z => [(2, .bool z)]) (fun z u => (z = decide (Styled x)) ∧ Ext No w u) ?_ ?_
    ·refine zq0 ?_
     refine wl_p I_ok rfl (zj4 45 rfl (fun hg => ?_) (fun hg => ?_))
     ·refine zz5 I_ok 1 rfl ?_
      refine wl (st_ldN I_ok rfl oa.base (IdIn.len hx.base) (wl (st_bd I_ok rfl trivial (l' := zq6 idZ) idZ_c.symm (wl (st_eqK rfl gId 10 (by decide) kId (idForm hx.base) (idForm idZ_in) (idKey hx.base) (idKey idZ_in) idLits_inj ?_)))))
      simp only [if_true]
      refine wl_p I_ok rfl (zj4 51 rfl (fun hg => ?_) (fun hg => ?_))
      ·have hb := hg
       refine zz5 I_ok 1 rfl (wl (st_ld I_ok rfl oa.number (zz5 I_ok 3 rfl (zq3 ?_))))
       exact zz7 (_) rfl ⟨by rw [decide_eq_decide, styled2 h0 h2]; exact ⟨fun h => ⟨by omega, hb, by omega⟩, fun h => by omega⟩, hX⟩
      ·have hb := hg
       refine zz5 I_ok 5 rfl (zq3 ?_)
       exact zz7 (false) rfl ⟨by symm; rw [decide_eq_false_iff_not, styled2 h0 h2]; intro h; exact hb h.2.1, hX⟩
     ·refine zz5 I_ok 11 rfl ?_
      refine zq3 ?_
      exact zz7 (false) rfl ⟨by symm; rw [decide_eq_false_iff_not, styled2 h0 h2]; intro h; omega, hX⟩
    rintro z w5 ⟨rfl, hX⟩
    refine zj0 (zz3 (zx5 (zz2 rfl rfl ?_)))
    exact ⟨rfl, hX⟩
   ·have h2 : ¬ x.style = 2 := hc
    refine zq5 (zq0 (wl_p I_ok rfl (zq3 (zq1 (c_if rfl (fun hc => ?_) (fun hc => ?_))))))
    ·have h3 : x.style = 3 := hc
     refine c_cutK (α := Bool) [] rfl (fun z => [(2, .bool z)]) (fun z u => (z = decide (Styled x)) ∧ Ext No w u) ?_ ?_
     ·refine c_draw rfl 19 [(0, true), (1, true), (2, true), (3, true), (4, true), (5, true), (6, true), (7, true), (8, true), (9, true), (10, true), (11, true), (12, true), (13, true), (14, true), (15, true), (16, true), (17, true), (18, true)] [] (No) (by kernel_rfl) fun w6 hE6 hs6 => ?_
      have oad := oa
      have hXd := hX
      have hX := hX.zq4 hE6
      refine wd_k I_ok 3 rfl (wd_caseD 60 rfl (fun hg => ?_) (fun hg => ?_))
      ·have hl2 : x.parents.length = 2 := by omega
       obtain ⟨b, off, hp, hsa⟩ := hxl.parents.rowAll (fun r hr => IdIn.len (hx.parents r hr)) (by omega)
       have ha0 := hx.parents _ (List.getElem_mem (show 0 < x.parents.length by omega))
       have ha1 := hx.parents _ (List.getElem_mem (show 1 < x.parents.length by omega))
       refine wd_k I_ok 1 rfl (wd_ld I_ok rfl rfl (fun w' hw' => (oad.zq2 hw').parents) ?_)
       rw [hp]
       refine wd_ix I_ok rfl rfl 32 rfl 0 rfl (by omega) (off + 0 * 32) rfl (wd_ldN I_ok rfl rfl (fun w' hw' => ((hsa 0 (by omega)).zq2 (hXd.zq4 hw'))) (IdIn.len ha0) ?_)
       refine wd_k I_ok 1 rfl (wd_ld I_ok rfl rfl (fun w' hw' => (oad.zq2 hw').parents) ?_)
       rw [hp]
       refine wd_ix I_ok rfl rfl 32 rfl 1 rfl (by omega) (off + 1 * 32) rfl (wd_ldN I_ok rfl rfl (fun w' hw' => ((hsa 1 (by omega)).zq2 (hXd.zq4 hw'))) (IdIn.len ha1) ?_)
       refine wd_eqK rfl rfl gId 10 (by decide) kId (idForm ha0) (idForm ha1) (idKey ha0) (idKey ha1) idLits_inj ?_
       simp only [Bool.false_eq_true, if_false]
       refine wd_k I_ok 2 rfl (wd_caseD 71 rfl (fun hg => ?_) (fun hg => ?_))
       ·have hne := hg
        refine wd_k I_ok 1 rfl (wd_ld I_ok rfl rfl (fun w' hw' => (oad.zq2 hw').number) ?_)
        refine wd_k I_ok 3 rfl (wd_sw (zv0 ?_))
        exact zz7 (_) rfl ⟨by rw [decide_eq_decide, styled3 h0 h3, getD_get (by omega), getD_get (by omega)]; exact ⟨fun h => ⟨hl2, hne, by omega⟩, fun h => by omega⟩, hX⟩
       ·have hne := hg
        refine wd_k I_ok 5 rfl (wd_sw (zv0 ?_))
        exact zz7 (false) rfl ⟨by symm; rw [decide_eq_false_iff_not, styled3 h0 h3, getD_get (by omega), getD_get (by omega)]; intro h; exact hne h.2.1, hX⟩
      ·refine wd_k I_ok 16 rfl ?_
       refine wd_sw (zv0 ?_)
       exact zz7 (false) rfl ⟨by symm; rw [decide_eq_false_iff_not, styled3 h0 h3]; intro h; omega, hX⟩
     rintro z w7 ⟨rfl, hX⟩
     refine zj0 (zz3 (zx5 (zz2 rfl rfl ?_)))
     exact ⟨rfl, hX⟩
    ·have h3 : ¬ x.style = 3 := hc
     refine zx7 (zx6 (zq1 (zq5 (zq0 (wl_p I_ok rfl (zq3 (zq1 (zj0 (zz2 rfl rfl ?_)))))))))
     exact ⟨congrArg Value.bool (decide_eq_false (styled0 h1 h2 h3)).symm, hX⟩
end Go.Proofs.YtpcdihkcenfgkaaGreatDoor
namespace Go.Vc
theorem Own.blkAt {w : World} {p : Option Addr} {n c T sz : Nat} {xs : List Value} (h : Own w p n c T sz xs) {x : Nat} (hx : OwnB p x) : ∃ l, Blk w x T l := by
 rcases h with ⟨hp, _⟩ | ⟨b, l, hp, hb, _⟩
 ·rw [hp] at hx; cases hx
 ·rw [hp] at hx
  obtain rfl : b = x := by simpa using hx
  exact ⟨l, hb⟩
theorem Own.neTy {w : World} {p : Option Addr} {n c T sz : Nat} {xs : List Value} (h : Own w p n c T sz xs) {x b U : Nat} {m : List Value} (hx : OwnB p x) (hb : Blk w b U m) (hT : T ≠ U) : x ≠ b := by
 obtain ⟨l, hl⟩ := h.blkAt hx
 exact hl.ne hb hT
theorem Own.zx9 {w w' : World} {p : Option Addr} {n c T sz : Nat} {xs : List Value} (h : Own w p n c T sz xs) {b U : Nat} {m : List Value} (hE : Ext (One b) w w') (hb : Blk w b U m) (hT : T ≠ U) : Own w' p n c T sz xs :=
 h.ext hE fun _ hx e => h.neTy hx hb hT e
theorem Blk.zq8 {w w' : World} {p : Option Addr} {n c T sz : Nat} {xs : List Value} {b U : Nat} {m : List Value} (hb : Blk w b U m) (h : Own w p n c T sz xs) (hE : Ext (OwnB p) w w') (hT : T ≠ U) : Blk w' b U m :=
 hb.ext hE fun hx => h.neTy hx hb hT rfl
theorem Sl.lt {w : World} {p : Option Addr} {n sz : Nat} {xs : List Value} (h : Sl w p n sz xs) {b off : Nat} (hp : p = some ⟨b, off, none⟩) (hx : xs ≠ []) : b < w.heap.size := by
 obtain ⟨hl, h0 | ⟨b', off', hp', hs⟩⟩ := h
 ·subst h0
  rw [Nat.zero_mul] at hl
  exact absurd (List.eq_nil_of_length_eq_zero hl) hx
 ·rw [hp] at hp'
  cases hp'
  exact hs.lt hx
theorem Sl.extLt {S : Nat → Prop} {w w' : World} {p : Option Addr} {n sz : Nat} {xs : List Value} (h : Sl w p n sz xs) (hE : Ext S w w') (hS : ∀ x, x < w.heap.size → ¬ S x) : Sl w' p n sz xs := by
 refine ⟨h.1, ?_⟩
 rcases h.2 with h0 | ⟨b, off, hp, hs⟩
 ·exact .inl h0
 ·refine .inr ⟨b, off, hp, fun i v hi => ?_⟩
  have hlt : b < w.heap.size := hs.lt fun e => by rw [e] at hi; cases hi
  exact hs.ext hE (hS b hlt) i v hi
theorem Seg.one {w : World} {b off : Nat} {v : Value} (h : w.cell? ⟨b, off, none⟩ = some v) : Seg w b off [v] := fun i u hi => by
 cases i with
 | zero => cases hi; exact h
 | succ i => cases hi
instance {α : Type} (l : List α) (f : α → List Value) [∀ x, OneC (f x)] : OneC (l.flatMap f) := ⟨fun u hu => by
  obtain ⟨r, _, hr⟩ := List.mem_flatMap.1 hu
  exact OneC.h u hr⟩
end Go.Vc
namespace Go.Proofs.YtpcdihkcenfgkaaGreatDoor
open Go.Vc
def leafRow (x : zj8) : RowD := ⟨x.path, []⟩
theorem leafRows_ok {l : List zj8} : RowsOk (l.map leafRow) ↔ Rises (l.map zj8.path) := by
 have e : (l.map leafRow).map RowD.path = l.map zj8.path := by rw [List.map_map]; rfl
 rw [RowsOk, e]
 refine ⟨fun h => h.2, fun h => ⟨fun ⟨r, hr, ht⟩ => ?_, h⟩⟩
 obtain ⟨x, _, rfl⟩ := List.mem_map.1 hr
 exact absurd ht (by simp [leafRow])
def leafRows (l : List zj8) : List Value := (l.map leafRow).flatMap RowD.cells
theorem leafRows_take (l : List zj8) {i : Nat} (h : i < l.length) : leafRows (l.take (i + 1)) = leafRows (l.take i) ++ (leafRow l[i]).cells := by
 rw [leafRows, List.take_succ_eq_append_getElem h, List.map_append, List.flatMap_append]
 simp [leafRows]
theorem maxLen_big : 1000000000 ≤ maxLen := by decide
theorem leaved1_calls (w : World) (r : zj8) (hr : r.cells.length = 33) :
  zz1 Tryz.prog 177 [.agg r.cells.toArray] w fun v w' => v = .bool (decide (r.id = idZ)) ∧ Ext No w w' := by
 have hi : IdIn r.id := by have := hr; simp only [zj8.cells, List.length_cons, zx0] at this; exact Nat.succ.inj this
 refine zq9 Tryz.func177 rfl rfl rfl rfl ?_
 have hX := Ext.refl No w
 refine zq5 (zq0 (wl (zz9 I_ok rfl fun b1 w1 hn1 hb1 hE1 => ?_)))
 have hX := hX.zq4 hE1
 have hb1 : Blk w1 b1 56 (r.cells) := hb1
 refine wl_p I_ok rfl (zq3 (zq1 (zq5 (zq0 (wl_p I_ok rfl (wl (st_ldN I_ok rfl (by have := hb1.seg.drop 1; exact this) hi.len (wl (st_bd I_ok rfl trivial (l' := zq6 idZ) idZ_c.symm ?_)))))))))
 refine wl (st_eqK rfl gId 10 (by decide) kId (idForm hi) (idForm idZ_in) (idKey hi) (idKey idZ_in) idLits_inj ?_)
 simp only [if_true]
 refine wl_p I_ok rfl (zq3 (zq1 (zj0 (zz2 rfl rfl ?_))))
 exact ⟨rfl, hX⟩
theorem leaved_calls (w : World) {p : Option Addr} {c : Nat} {l : List zj8} (h : Sl w p l.length 33 (l.flatMap zj8.cells)) (hl : l.length < 1000000000) (h1 : ∀ r ∈ l, LeafIn r) (h2 : ∀ r ∈ l, r.path.length < 1000000000) :
  zz1 Tryz.prog 151 [.slice p l.length c] w fun v w' => v = .bool (decide (Leaved l)) ∧ Ext No w w' := by
 refine zq9 Tryz.func151 rfl rfl rfl rfl ?_
 have hX := Ext.refl No w
 refine zq5 (zq0 (wl_p I_ok rfl (zq3 (zq1 (zq5 (zq0 (wl (zz9 I_ok rfl fun b3 w1 hn3 hb3 hE1 => ?_))))))))
 have fr3 := Nat.le_trans hX.size hn3
 have hX := hX.zq4 hE1
 have hb3 : Blk w1 b3 102 ([.slice none 0 0]) := hb3
 refine zq3 (zq1 (zq5 (zq5 (zq0 (wl_p I_ok rfl (zq3 (zq1 (zx4 ?_))))))))
 refine zv3 (α := Nat × Option Addr × Nat) [0, 3, 6, 7] rfl (fun z => [(8, .int .i64 (z.1 : Int))]) (fun z u => (z.1 ≤ l.length ∧ Own u z.2.1 z.1 z.2.2 99 2 (leafRows (l.take z.1)) ∧ (∀ x, OwnB z.2.1 x → w.heap.size ≤ x)) ∧ Blk u b3 102 ([.slice z.2.1 z.1 z.2.2]) ∧ Ext No w u) (fun z u => l.length - z.1) (0, none, 0) rfl ⟨⟨Nat.zero_le _, Own.nil _ _ _, fun x hx => by cases hx⟩, hb3, hX⟩ ?_
 rintro ⟨i, q, k⟩ w2 ⟨⟨hi, hq, hqn⟩, hb3, hX⟩
 try dsimp only
 dsimp only at hi hq hqn hb3
 refine zq5 (zq0 (wl_p I_ok rfl (zq3 (zq1 (zq5 (c_if rfl (fun hc => ?_) (fun hc => ?_)))))))
 ·have hi : i < l.length := by omega
  obtain ⟨b, off, rfl, hseg⟩ := h.rowAll (fun r hr => zj8.len (h1 r hr).2) (by omega)
  have ha1 := h1 _ (List.getElem_mem hi)
  refine zx7 (zq1 (zq5 (zx4 (zq5 (zq0 (wl (st_ix I_ok rfl 33 rfl i rfl (by omega) (off + i * 33) rfl (wl (st_ldN I_ok rfl ((hseg i hi).zq2 hX) (zj8.len ha1.2) (wl (zz9 I_ok rfl fun b5 w3 hn5 hb5 hE3 => ?_)))))))))))
  have ne3_5 : b3 ≠ b5 := Nat.ne_of_lt (Nat.lt_of_lt_of_le hb3.lt hn5)
  have fr5 := Nat.le_trans hX.size hn5
  have hb3 := hb3.zq2 hE3
  have hq := hq.ext hE3 fun _ _ => id
  have hX := hX.zq4 hE3
  have hb5o := hb5
  refine wl (zj1 (l' := (l[i]).cells) I_ok hb5 rfl rfl (zj8.len ha1.2) (zj8.len ha1.2) OneC.h fun w4 hb5 hE4 hs4 => ?_)
  have hb3 := hb3.ext1 hE4 ne3_5
  have hq := hq.zx9 hE4 hb5o (by decide)
  have hX := hX.zx1 hE4 fr5
  refine zq3 (zq1 (zq0 (wl_p I_ok rfl (wl (st_ldb I_ok hb3 rfl rfl (wl_p I_ok rfl (wl (st_ldb I_ok hb5 rfl rfl (wl (st_bd I_ok rfl ⟨⟨rfl, by decide⟩, trivial⟩ (l' := (leafRow l[i]).cells) rfl ?_))))))))))
  refine wl (st_bs I_ok rfl 2 rfl rfl rfl (by decide) (by decide) ⟨⟨rfl, by decide⟩, trivial⟩ (l' := (leafRow l[i]).cells) rfl fun b17 w5 hn17 hb17 hE5 hs5 => ?_)
  have hb3 := hb3.zq2 hE5
  have hq := hq.ext hE5 fun _ _ => id
  have hX := hX.zq4 hE5
  have hX1 := hX
  refine wl (zv2 I_ok rfl 2 32 rfl rfl rfl (by decide) hq (Src.slice (m := 1) ⟨rfl, .inr ⟨b17, 0, rfl, hb17.seg⟩⟩ OneC.h) (by dsimp only [maxLen]; omega) (by dsimp only; omega) fun p6 c6 w6 ho6 hE6 hB6 => ?_)
  have hX := hX1.trans hE6 fun y hy hF => by have := hqn y hF; omega
  have hb3 := hb3.zq8 hq hE6 (by decide)
  have hqn2 : ∀ x, OwnB p6 x → w.heap.size ≤ x := fun x hx => (hB6 x hx).elim (fun h => hqn x h) fun h => Nat.le_trans hX1.size h
  obtain ⟨q2, k2, hq2, hb2, hn2⟩ : ∃ q2 k2, q2 = p6 ∧ k2 = c6 ∧ Own w6 q2 (i + 1) k2 99 2 (leafRows (l.take (i + 1))) := ⟨_, _, rfl, rfl, by rw [leafRows_take _ hi]; exact ho6⟩
  rw [← hq2] at hqn2
  rw [← hq2, ← hb2]
  have hb3o := hb3
  refine wl_p I_ok rfl (wl (st_st I_ok hb3 rfl rfl rfl fun w7 hb3 hE7 hs7 => ?_))
  have hn2 := hn2.zx9 hE7 hb3o (by decide)
  have hX := hX.zx1 hE7 fr3
  refine zq3 (zx6 (zq1 (zq0 (wl_p I_ok rfl ?_))))
  rw [IntWalk.i64_in _ (by omega)]
  refine zq3 ?_
  exact zv1 (i + 1, q2, k2) rfl ⟨⟨hi, hn2, hqn2⟩, hb3, hX⟩ (by first | omega | (dsimp only; omega))
 ·have h0 : i = l.length := by omega
  subst h0
  rw [List.take_length] at hq
  refine c_exit (zx3 (zx3 (zz0 (zq1 (c_cutK (α := Bool) [] rfl (fun z => [(2, .bool z)]) (fun z u => (z = decide (Leaved l)) ∧ Ext No w u) ?_ ?_)))))
  ·refine zq0 ?_
   refine wl (zj2 I_ok hb3 rfl rfl ?_)
   rw [show Value.slice q l.length k = .slice q (l.map leafRow).length k from by rw [List.length_map]]
   refine wl (zx2 Tryz.call175 rfl rfl rfl rfl rfl rfl (check_calls w2 (c := k) (l := l.map leafRow) (by have := hq.sl; rw [List.length_map]; exact this) (by rw [List.length_map]; exact hl) (fun r hr => by obtain ⟨x, hx, rfl⟩ := List.mem_map.1 hr; exact h2 x hx)) fun v8 w8 hr8 => ?_)
   obtain ⟨rfl, hE8⟩ := hr8
   have hX := hX.zq4 hE8
   refine wl_p I_ok rfl (zj4 24 rfl (fun hg => ?_) (fun hg => ?_))
   ·have hr := leafRows_ok.1 (show RowsOk (l.map leafRow) from by by_cases h : RowsOk (l.map leafRow); exact h; rw [if_neg h] at hg; exact absurd hg (by decide))
    refine zz5 I_ok 1 rfl ?_
    refine wl (zx2 Tryz.call176 rfl rfl rfl rfl rfl rfl (containsFuncLeaf_calls w8 (fun r hr => zj8.len (h1 r hr).2) (h.zq2 hX) hl (fun r => r.id = idZ) Tryz.call177 fun w r hr => leaved1_calls w r hr) fun v9 w9 hr9 => ?_)
    obtain ⟨rfl, hE9⟩ := hr9
    have hX := hX.zq4 hE9
    refine zz5 I_ok 3 rfl (zq3 ?_)
    exact zz7 (_) rfl ⟨by rw [← decide_not, decide_eq_decide]; exact ⟨fun h => ⟨hr, fun x hx e => h ⟨x, hx, e⟩⟩, fun h ⟨x, hx, e⟩ => h.2 x hx e⟩, hX⟩
   ·have hr : ¬ Rises (l.map zj8.path) := fun h => hg (if_pos (leafRows_ok.2 h))
    refine zz5 I_ok 5 rfl (zq3 ?_)
    exact zz7 (false) rfl ⟨by symm; rw [decide_eq_false_iff_not]; exact fun h => hr h.1, hX⟩
  rintro z w10 ⟨rfl, hX⟩
  refine zj0 (zz2 rfl rfl ?_)
  exact ⟨rfl, hX⟩
theorem if_zero {p : Prop} [Decidable p] {n : Int} (hn : n ≠ 0) : (if p then 0 else n) = 0 ↔ p := by
 by_cases h : p
 ·simp [h]
 ·simp [h, hn]
theorem fields1 {o : ObjD} (h : o.kind = 1) : FieldsOk o ↔ BlobOk o := by
 constructor
 ·rintro (h1 | h1 | h1)
  ·exact h1.2
  ·exact absurd (h.symm.trans h1.1) (by decide)
  ·exact absurd (h.symm.trans h1.1) (by decide)
 ·exact fun h1 => .inl ⟨h, h1⟩
theorem fields2 {o : ObjD} (h : o.kind = 2) : FieldsOk o ↔ TreeOk o := by
 constructor
 ·rintro (h1 | h1 | h1)
  ·exact absurd (h.symm.trans h1.1) (by decide)
  ·exact h1.2
  ·exact absurd (h.symm.trans h1.1) (by decide)
 ·exact fun h1 => .inr (.inl ⟨h, h1⟩)
theorem fields3 {o : ObjD} (h : o.kind = 3) : FieldsOk o ↔ ComOk o := by
 constructor
 ·rintro (h1 | h1 | h1)
  ·exact absurd (h.symm.trans h1.1) (by decide)
  ·exact absurd (h.symm.trans h1.1) (by decide)
  ·exact h1.2
 ·exact fun h1 => .inr (.inr ⟨h, h1⟩)
theorem fields0 {o : ObjD} (h1 : ¬ o.kind = 1) (h2 : ¬ o.kind = 2) (h3 : ¬ o.kind = 3) : ¬ FieldsOk o := fun h => h.elim (fun h => h1 h.1) fun h => h.elim (fun h => h2 h.1) fun h => h3 h.1
theorem fielded_calls (w : World) {x : ObjD} {a : ObjP} (hx : ObjIn x) (hxl : ObjL w x a) (hsx : Short x) :
  zz1 Tryz.prog 117 [.agg (objC x a).toArray] w fun v w' => v = .bool (decide (FieldsOk x)) ∧ Ext No w w' := by
 have hs : (strU x.text).size = x.text.length := rfl
 have hsn : (strU x.note).size = x.note.length := rfl
 have hy1 : ObjIn { x with kind := 0, text := [] } := ⟨hx.tree, hx.base, hx.parents, hx.leaves, hx.rows, hx.number, hx.author⟩
 have hs1 : Short { x with kind := 0, text := [] } := ⟨hsx.leaves, hsx.parents, hsx.rows, hsx.leafP, hsx.rowP⟩
 have hl1 : ObjL w { x with kind := 0, text := [] } a := ⟨hxl.leaves, hxl.parents, hxl.rows⟩
 have hy2 : ObjIn { x with kind := 0, leaves := [] } := ⟨hx.tree, hx.base, hx.parents, fun _ h => absurd h List.not_mem_nil, hx.rows, hx.number, hx.author⟩
 have hs2 : Short { x with kind := 0, leaves := [] } := ⟨(by decide : (0 : Nat) < 1000000000), hsx.parents, hsx.rows, fun _ h => absurd h List.not_mem_nil, hsx.rowP⟩
 have hl2 : ObjL w { x with kind := 0, leaves := [] } ⟨none, 0, a.pp, a.pc, a.rp, a.rc⟩ := ⟨Sl.nil _ _ _, hxl.parents, hxl.rows⟩
 refine zq9 Tryz.func117 rfl rfl rfl rfl ?_
 have hX := Ext.refl No w
 refine zq5 (zq0 (wl (zz9 I_ok rfl fun b1 w1 hn1 hb1 hE1 => ?_)))
 have hX := hX.zq4 hE1
 have hb1 : Blk w1 b1 46 (objC x a) := hb1
 refine wl_p I_ok rfl (zq3 (zq1 (zq5 (zq0 (wl (zj2 I_ok hb1 rfl (zq7 hx) (wl (zz9 I_ok rfl fun b3 w2 hn3 hb3 hE2 => ?_))))))))
 have ne1_3 : b1 ≠ b3 := Nat.ne_of_lt (Nat.lt_of_lt_of_le hb1.lt hn3)
 have fr3 := Nat.le_trans hX.size hn3
 have hb1 := hb1.zq2 hE2
 have hX := hX.zq4 hE2
 refine wl (zj1 (l' := objC x a) I_ok hb3 rfl rfl (zq7 hx) (zq7 hx) OneC.h fun w3 hb3 hE3 hs3 => ?_)
 have hb1 := hb1.ext1 hE3 ne1_3
 have hX := hX.zx1 hE3 fr3
 refine zq3 (zq1 (zq5 (zq0 (wl_p I_ok rfl (wl (st_st I_ok hb3 rfl rfl rfl fun w4 hb3 hE4 hs4 => ?_))))))
 have hb1 := hb1.ext1 hE4 ne1_3
 have hX := hX.zx1 hE4 fr3
 have hb3 : Blk w4 b3 46 (objC { x with kind := 0 } a) := hb3
 have oa := hb1.seg.obj hx
 refine zq3 (zq1 (zq5 (zq0 (wl_p I_ok rfl (zq3 (zq1 (c_cutK (α := Bool) [] rfl (fun z => [(4, .bool z)]) (fun z u => (z = decide (FieldsOk x)) ∧ Ext No w u) ?_ ?_)))))))
 ·refine zq5 ?_
  refine zq0 (wl_p I_ok rfl (wl (st_ld I_ok rfl oa.kind (zq3 (zq1 (zx4 (zq5 (zq0 (wl_p I_ok rfl (zq3 (zq1 (c_if rfl (fun hc => ?_) (fun hc => ?_)))))))))))))
  ·have h1 : x.kind = 1 := hc
   refine zq5 (zq0 (wl_p I_ok rfl (wl (st_st I_ok hb3 rfl rfl rfl fun w5 hb3 hE5 hs5 => ?_))))
   have hb1 := hb1.ext1 hE5 ne1_3
   have oa := (hb1.seg.obj hx)
   have hX := hX.zx1 hE5 fr3
   have hb3 : Blk w5 b3 46 (objC { x with kind := 0, text := [] } a) := hb3
   refine zq3 (zq1 (zq0 (wl_p I_ok rfl (wl (st_ld I_ok rfl oa.text (wl_p I_ok rfl (zj4 16 rfl (fun hg => ?_) (fun hg => ?_))))))))
   ·refine wl (zj2 I_ok hb3 rfl (zq7 hy1) ?_)
    refine wl (zx2 Tryz.call150 rfl rfl rfl rfl rfl rfl (zeroObj_calls w5 hy1 (hl1.zq2 hX) hs1) fun v6 w6 hr6 => ?_)
    obtain ⟨rfl, hE6⟩ := hr6
    have hX := hX.zq4 hE6
    refine wl_p I_ok rfl (zq3 ?_)
    exact zx6 (zz7 (_) rfl ⟨by rw [decide_eq_decide, fields1 h1, blob_zero]; exact ⟨fun h => ⟨by omega, h⟩, fun h => h.2⟩, hX⟩)
   ·refine zz5 I_ok 4 rfl ?_
    refine zq3 ?_
    exact zx6 (zz7 (false) rfl ⟨by symm; rw [decide_eq_false_iff_not, fields1 h1]; exact fun h => absurd h.1 (by omega), hX⟩)
  ·have h1 : ¬ x.kind = 1 := hc
   refine zq5 (zq0 (wl_p I_ok rfl (zq3 (zq1 (c_if rfl (fun hc => ?_) (fun hc => ?_))))))
   ·have h2 : x.kind = 2 := hc
    refine zq5 (zq0 (wl_p I_ok rfl (wl (st_st I_ok hb3 rfl rfl rfl fun w7 hb3 hE7 hs7 => ?_))))
    have hb1 := hb1.ext1 hE7 ne1_3
    have oa := (hb1.seg.obj hx)
    have hX := hX.zx1 hE7 fr3
    have hb3 : Blk w7 b3 46 (objC { x with kind := 0, leaves := [] } ⟨none, 0, a.pp, a.pc, a.rp, a.rc⟩) := hb3
    refine zq3 (zq1 (zq0 (wl_p I_ok rfl (wl (st_ld I_ok rfl oa.leaves (wl (zx2 Tryz.call151 rfl rfl rfl rfl rfl rfl (leaved_calls w7 (hxl.leaves.zq2 hX) hsx.leaves hx.leaves hsx.leafP) fun v8 w8 hr8 => ?_)))))))
    obtain ⟨rfl, hE8⟩ := hr8
    have hb3 := hb3.zq2 hE8
    have hX := hX.zq4 hE8
    refine wl_p I_ok rfl (zj4 26 rfl (fun hg => ?_) (fun hg => ?_))
    ·have hlv := hg
     refine wl (zj2 I_ok hb3 rfl (zq7 hy2) (wl (zx2 Tryz.call150 rfl rfl rfl rfl rfl rfl (zeroObj_calls w8 hy2 (hl2.zq2 hX) hs2) fun v9 w9 hr9 => ?_)))
     obtain ⟨rfl, hE9⟩ := hr9
     have hX := hX.zq4 hE9
     refine wl_p I_ok rfl (zq3 ?_)
     exact zx6 (zz7 (_) rfl ⟨by rw [decide_eq_decide, fields2 h2, tree_zero]; exact ⟨fun h => ⟨hlv, h⟩, fun h => h.2⟩, hX⟩)
    ·have hlv := hg
     refine zz5 I_ok 4 rfl (zq3 ?_)
     exact zx6 (zz7 (false) rfl ⟨by symm; rw [decide_eq_false_iff_not, fields2 h2]; exact fun h => hlv h.1, hX⟩)
   ·have h2 : ¬ x.kind = 2 := hc
    refine zq5 (zq0 (wl_p I_ok rfl (zq3 (zq1 (c_if rfl (fun hc => ?_) (fun hc => ?_))))))
    ·have h3 : x.kind = 3 := hc
     refine zq0 (wl_p I_ok rfl (wl (st_ld I_ok rfl oa.text (wl_p I_ok rfl (zj4 35 rfl (fun hg => ?_) (fun hg => ?_))))))
     ·have e1 : x.text = [] := strU_inj (b := []) hg
      refine zz5 I_ok 1 rfl (wl (st_ld I_ok rfl oa.leaves (zz5 I_ok 4 rfl (zj4 41 rfl (fun hg => ?_) (fun hg => ?_)))))
      ·refine zz5 I_ok 1 rfl ?_
       refine wl (st_ld I_ok rfl oa.note (zz5 I_ok 4 rfl (zj4 47 rfl (fun hg => ?_) (fun hg => ?_))))
       ·refine zz5 I_ok 1 rfl ?_
        refine wl (st_ldN I_ok rfl (Seg.one oa.rows) rfl (wl (zx2 Tryz.call152 rfl rfl rfl rfl rfl rfl (checkEdit_calls w4 (hxl.rows.zq2 hX) hsx.rows hsx.rowP) fun v10 w10 hr10 => ?_)))
        obtain ⟨rfl, hE10⟩ := hr10
        have hb1 := hb1.zq2 hE10
        have hX := hX.zq4 hE10
        refine zz5 I_ok 3 rfl (zj4 53 rfl (fun hg => ?_) (fun hg => ?_))
        ·have e6 : EditOk x.rows := (if_zero (by decide)).1 hg
         refine wl (zj2 I_ok hb1 rfl (zq7 hx) (wl (zx2 Tryz.call153 rfl rfl rfl rfl rfl rfl (styledObj_calls w10 hx (hxl.zq2 hX) hsx) fun v11 w11 hr11 => ?_)))
         obtain ⟨rfl, hE11⟩ := hr11
         have hX := hX.zq4 hE11
         refine wl_p I_ok rfl (zq3 ?_)
         exact zx6 (zz7 (_) rfl ⟨by rw [decide_eq_decide, fields3 h3]; exact ⟨fun h => ⟨e1, by omega, by omega, e6, h⟩, fun h => h.2.2.2.2⟩, hX⟩)
        ·have e6 : ¬ EditOk x.rows := fun h => hg (if_pos h)
         refine zz5 I_ok 4 rfl (zq3 ?_)
         exact zx6 (zz7 (false) rfl ⟨by symm; rw [decide_eq_false_iff_not, fields3 h3]; exact fun h => e6 h.2.2.2.1, hX⟩)
       ·refine zz5 I_ok 10 rfl ?_
        refine zq3 ?_
        exact zx6 (zz7 (false) rfl ⟨by symm; rw [decide_eq_false_iff_not, fields3 h3]; exact fun h => absurd h.2.2.1 (by omega), hX⟩)
      ·refine zz5 I_ok 16 rfl ?_
       refine zq3 ?_
       exact zx6 (zz7 (false) rfl ⟨by symm; rw [decide_eq_false_iff_not, fields3 h3]; exact fun h => absurd h.2.1 (by omega), hX⟩)
     ·have e1 : ¬ x.text = [] := fun e => hg (by rw [e]; rfl)
      refine zz5 I_ok 22 rfl (zq3 ?_)
      exact zx6 (zz7 (false) rfl ⟨by symm; rw [decide_eq_false_iff_not, fields3 h3]; exact fun h => e1 h.1, hX⟩)
    ·have h3 : ¬ x.kind = 3 := hc
     refine zx7 ?_
     exact zx6 (zz7 (false) rfl ⟨(decide_eq_false (fields0 h1 h2 h3)).symm, hX⟩)
 rintro z w12 ⟨rfl, hX⟩
 refine zq5 (zq0 (wl_p I_ok rfl (zq3 (zq1 (zj0 (zz2 rfl rfl ?_))))))
 exact ⟨rfl, hX⟩
def Wr (w : World) (b : Nat) (p : Option Addr) (l : List UInt8) : Prop :=
  ∃ c, Blk w b 178 [.slice p l.length c] ∧ Own w p l.length c 5 1 (zq6 l)
abbrev WrF (b : Nat) (p : Option Addr) : Nat → Prop := fun x => x = b ∨ OwnB p x
theorem _root_.Go.Vc.Blk.keepW {w w' : World} {b : Nat} {p : Option Addr} {l : List UInt8} {x T : Nat} {L : List Value} (hb : Blk w x T L) (h : Wr w b p l) (hE : Ext (WrF b p) w w') (h1 : 178 ≠ T) (h2 : 5 ≠ T) : Blk w' x T L := by
 obtain ⟨c, hw, ho⟩ := h
 exact hb.ext hE fun hF => hF.elim (fun e => hw.ne hb h1 e.symm) fun hx => ho.neTy hx hb h2 rfl
theorem _root_.Go.Vc.Ext.thenW {w0 w w' : World} {b : Nat} {p : Option Addr} (hX : Ext No w0 w) (hE : Ext (WrF b p) w w') (h1 : w0.heap.size ≤ b) (h2 : ∀ x, OwnB p x → w0.heap.size ≤ x) : Ext No w0 w' :=
 hX.trans hE fun y hy hF => hF.elim (fun e => by omega) fun h => by have := h2 y h; omega
theorem newW {w0 w : World} {p p' : Option Addr} (hX : Ext No w0 w) (h2 : ∀ x, OwnB p x → w0.heap.size ≤ x) (h3 : ∀ x, OwnB p' x → OwnB p x ∨ w.heap.size ≤ x) : ∀ x, OwnB p' x → w0.heap.size ≤ x :=
 fun x hx => (h3 x hx).elim (fun h => h2 x h) fun h => Nat.le_trans hX.size h
theorem small_calls (w : World) {b : Nat} {p : Option Addr} {l : List UInt8} (h : Wr w b p l) (s : Str) (hl : l.length + s.length < 900000000) :
  zz1 Tryz.prog 119 [.pointer (some ⟨b, 0, none⟩), strV s] w fun v w' => v = .tuple #[] ∧ ∃ p', Wr w' b p' (l ++ strB 1 s) ∧ (∀ x, OwnB p' x → OwnB p x ∨ w.heap.size ≤ x) ∧ Ext (WrF b p) w w' := by
 obtain ⟨c, hwb, hwo⟩ := h
 have hsz : (strU s).size = s.length := rfl
 refine zq9 Tryz.func119 rfl rfl rfl rfl ?_
 have hX := Ext.refl (WrF b p) w
 refine zq0 (wl_p I_ok rfl (wl (st_ld I_ok rfl (hwb.cell rfl) (wl_p I_ok rfl ?_))))
 rw [wrap_byte]
 refine wl (st_bs I_ok rfl 1 rfl rfl rfl (by decide) (by decide) (by simp [partsOk]) (l' := zq6 [UInt8.ofNat s.length]) rfl fun b12 w1 hn12 hb12 hE1 hs1 => ?_)
 have hX := hX.zq4 hE1
 have hwb := hwb.zq2 hE1
 have hwo := hwo.ext hE1 fun _ _ => id
 have hX0 := hX
 refine wl (zv2 I_ok rfl 1 1 rfl rfl rfl (by decide) hwo (Src.slice (m := 1) ⟨rfl, .inr ⟨b12, 0, rfl, hb12.seg⟩⟩ OneC.h) (by dsimp only [maxLen]; omega) (by dsimp only; omega) fun p2 c2 w2 ho2 hE2 hB2 => ?_)
 dsimp only at ho2 hE2 hB2 ⊢
 have hX := hX.trans hE2 fun y hy hF => .inr hF
 have hwb := hwb.zq8 hwo hE2 (show (5 : Nat) ≠ 178 from by decide)
 obtain ⟨q1, k1, e1, e2⟩ : ∃ q1 k1, q1 = p2 ∧ k1 = c2 := ⟨_, _, rfl, rfl⟩
 rw [← e1, ← e2] at ho2
 rw [← e1] at hB2
 rw [← e1, ← e2]
 have ho1 := ho2
 have hn1 := hB2
 have hn1 : ∀ x, OwnB q1 x → OwnB p x ∨ w.heap.size ≤ x := fun x hx => (hn1 x hx).elim .inl fun h => .inr (Nat.le_trans hX0.size h)
 refine wl_p I_ok rfl ?_
 have hX2 := hX
 refine wl (zv2 I_ok rfl 1 1 rfl rfl rfl (by decide) ho1 Src.string (by dsimp only [maxLen]; omega) (by dsimp only; omega) fun p3 c3 w3 ho3 hE3 hB3 => ?_)
 dsimp only at ho3 hE3 hB3 ⊢
 have hX := hX.trans hE3 fun y hy hF => (hn1 y hF).elim .inr fun h => absurd hy (by omega)
 have hwb := hwb.zq8 ho1 hE3 (show (5 : Nat) ≠ 178 from by decide)
 have hn2 : ∀ x, OwnB p3 x → OwnB p x ∨ w.heap.size ≤ x := fun x hx => (hB3 x hx).elim (fun h => hn1 x h) fun h => .inr (Nat.le_trans hX2.size h)
 have e3 : l.length + 1 + (strU s).size = (l ++ strB 1 s).length := by simp [strB, be]; omega
 have ho2 : Own w3 p3 (l ++ strB 1 s).length c3 5 1 (zq6 (l ++ strB 1 s)) := by
  have e4 : l ++ strB 1 s = l ++ [UInt8.ofNat s.length] ++ s := by simp [strB, be]
  rw [← e3, e4, zz8, zz8]
  exact ho3
 rw [e3]
 refine wl_p I_ok rfl (wl (st_st I_ok hwb rfl rfl rfl fun w4 hwb2 hE4 hs4 => ?_))
 have ho3 := ho2.zx9 hE4 hwb (by decide)
 have hX := hX.trans hE4 fun y hy hF => .inl hF
 refine zq3 (f_end0 rfl ?_)
 exact ⟨rfl, _, ⟨_, hwb2, ho3⟩, hn2, hX⟩
theorem text_calls (w : World) {b : Nat} {p : Option Addr} {l : List UInt8} (h : Wr w b p l) (s : Str) (hl : l.length < 900000000) (hs : s.length < 65536) :
  zz1 Tryz.prog 118 [.pointer (some ⟨b, 0, none⟩), strV s] w fun v w' => v = .tuple #[] ∧ ∃ p', Wr w' b p' (l ++ strB 2 s) ∧ (∀ x, OwnB p' x → OwnB p x ∨ w.heap.size ≤ x) ∧ Ext (WrF b p) w w' := by
 obtain ⟨c, hwb, hwo⟩ := h
 have hsz : (strU s).size = s.length := rfl
 refine zq9 Tryz.func118 rfl rfl rfl rfl ?_
 have hX := Ext.refl (WrF b p) w
 refine zq0 (wl_p I_ok rfl (wl (st_ld I_ok rfl (hwb.cell rfl) (wl_p I_ok rfl ?_))))
 rw [IntWalk.u16_in _ (by omega)]
 refine wl (zx2 Tryz.call154 rfl rfl rfl rfl rfl rfl (put16_calls w hwo.sl (by omega) s.length hs) fun v1 w1 hr1 => ?_)
 obtain ⟨bp, rfl, hnp, hbp, hE1⟩ := hr1
 have hX := hX.zq4 hE1
 have hwb := hwb.zq2 hE1
 have hX0 := hX
 have hbl : (zq6 (l ++ be 2 s.length)).length = (l ++ be 2 s.length).length * 1 := by rw [zx0, Nat.mul_one]
 refine wl_p I_ok rfl ?_
 refine wl (zv2 I_ok rfl 1 1 rfl rfl rfl (by decide) (Own.blk (n := (l ++ be 2 s.length).length) (c := (l ++ be 2 s.length).length) hbp 1 hbl (Nat.le_refl _) (by rw [List.length_append, zj5]; dsimp only [maxLen]; omega)) Src.string (by rw [List.length_append, zj5]; dsimp only [maxLen]; omega) (by dsimp only; rw [List.length_append, zj5]; omega) fun p2 c2 w2 ho2 hE2 hB2 => ?_)
 dsimp only at ho2 hE2 hB2 ⊢
 have hX := hX.trans hE2 fun y hy hF => by have e : bp = y := congrArg Addr.block (Option.some.inj hF); omega
 have hwbo := hwb
 have hwb := hwb.zq8 (Own.blk (n := 0) (c := (l ++ be 2 s.length).length) hbp 1 hbl (Nat.zero_le _) (by rw [List.length_append, zj5]; dsimp only [maxLen]; omega)) hE2 (show (5 : Nat) ≠ 178 from by decide)
 have hn2 : ∀ x, OwnB p2 x → OwnB p x ∨ w.heap.size ≤ x := fun x hx => (hB2 x hx).elim (fun hF => by have e : bp = x := congrArg Addr.block (Option.some.inj hF); exact .inr (by omega)) fun h => .inr (Nat.le_trans hX0.size h)
 have e3 : (l ++ be 2 s.length).length + (strU s).size = (l ++ strB 2 s).length := by simp only [strB, List.length_append, hsz]; omega
 have ho2 : Own w2 p2 (l ++ strB 2 s).length c2 5 1 (zq6 (l ++ strB 2 s)) := by
  have e4 : zq6 (l ++ strB 2 s) = zq6 (l ++ be 2 s.length) ++ zq6 s := by rw [strB, ← List.append_assoc, zz8]
  have e5 : (zq6 (l ++ be 2 s.length)).take ((l ++ be 2 s.length).length * 1) = zq6 (l ++ be 2 s.length) := List.take_of_length_le (by rw [hbl]; exact Nat.le_refl _)
  rw [← e3, e4]
  rw [e5] at ho2
  exact ho2
 rw [e3]
 refine wl_p I_ok rfl (wl (st_st I_ok hwb rfl rfl rfl fun w3 hwb2 hE3 hs3 => ?_))
 have ho3 := ho2.zx9 hE3 hwb (by decide)
 have hX := hX.trans hE3 fun y hy hF => .inl hF
 refine zq3 (f_end0 rfl ?_)
 exact ⟨rfl, _, ⟨_, hwb2, ho3⟩, hn2, hX⟩
theorem flatten_take {l : List (List UInt8)} {i : Nat} (h : i < l.length) : (l.take (i + 1)).flatten = (l.take i).flatten ++ l[i] := by
 rw [List.take_succ_eq_append_getElem h, List.flatten_append]
 simp
theorem flatten_in {l : List (List UInt8)} (h : ∀ r ∈ l, IdIn r) (i : Nat) : (l.take i).flatten.length = (l.take i).length * 32 := flatten_len fun x hx => h x (List.mem_of_mem_take hx)
theorem ids_calls (w : World) {b : Nat} {p : Option Addr} {l : List UInt8} (h : Wr w b p l) {q : Option Addr} {d : Nat} {m : List (List UInt8)} (hq : Sl w q m.length 32 (m.flatMap zq6)) (hm : ∀ r ∈ m, IdIn r) (hl : l.length < 900000000) (hml : m.length < 1000000)
  (hsep : ∀ x off, q = some ⟨x, off, none⟩ → m ≠ [] → ¬ WrF b p x) :
  zz1 Tryz.prog 120 [.pointer (some ⟨b, 0, none⟩), .slice q m.length d] w fun v w' => v = .tuple #[] ∧ ∃ p', Wr w' b p' (l ++ m.flatten) ∧ (∀ x, OwnB p' x → OwnB p x ∨ w.heap.size ≤ x) ∧ Ext (WrF b p) w w' := by
 refine zq9 Tryz.func120 rfl rfl rfl rfl ?_
 have hX := Ext.refl (WrF b p) w
 refine zq5 (zq0 (wl_p I_ok rfl (zq3 (zq1 (zx4 ?_)))))
 refine zv3 (α := Nat × Option Addr) [0, 6, 7] rfl (fun z => [(8, .int .i64 (z.1 : Int))]) (fun z u => (z.1 ≤ m.length ∧ Wr u b z.2 (l ++ (m.take z.1).flatten) ∧ (∀ x, OwnB z.2 x → OwnB p x ∨ w.heap.size ≤ x)) ∧ Ext (WrF b p) w u) (fun z u => m.length - z.1) (0, p) rfl ⟨⟨Nat.zero_le _, by simpa using h, fun _ h => .inl h⟩, hX⟩ ?_
 rintro ⟨i, pp⟩ w1 ⟨⟨hi, hW, hpn⟩, hX⟩
 try dsimp only
 dsimp only at hi hW hpn
 obtain ⟨k, hwb, hwo⟩ := hW
 refine zq5 (zq0 (wl_p I_ok rfl (zq3 (zq1 (zq5 (c_if rfl (fun hc => ?_) (fun hc => ?_)))))))
 ·have hi : i < m.length := by omega
  have hne : m ≠ [] := fun e => by rw [e] at hi; exact absurd hi (Nat.not_lt_zero _)
  obtain ⟨qb, qoff, rfl, hsq⟩ := hq.rowAll (fun r hr => (hm r hr).len) (by omega)
  have hqs := hsep qb qoff rfl hne
  have ha1 := hm _ (List.getElem_mem hi)
  have hfl := flatten_in hm i
  rw [List.length_take, Nat.min_eq_left (by omega)] at hfl
  refine zx7 (zq1 (zq5 (zx4 (zq5 (zq0 (wl (st_ix I_ok rfl 32 rfl i rfl (by omega) (qoff + i * 32) rfl (wl (st_ldN I_ok rfl ((hsq i hi).ext hX hqs) ha1.len (wl (zz9 I_ok rfl fun b5 w2 hn5 hb5 hE2 => ?_)))))))))))
  have fr5 := Nat.le_trans hX.size hn5
  have hwb := hwb.zq2 hE2
  have hwo := hwo.ext hE2 fun _ _ => id
  have hX := hX.zq4 hE2
  have hb5o := hb5
  refine wl (zj1 (l' := zq6 m[i]) I_ok hb5 rfl rfl ha1.len (ha1.len) OneC.h fun w3 hb5 hE3 hs3 => ?_)
  have hwb := hwb.ext1 hE3 (hwb.ne hb5o (by decide))
  have hwo := hwo.zx9 hE3 hb5o (by decide)
  have hX := hX.zx1 hE3 fr5
  refine zq3 (zq1 (c_draw rfl 9 [(0, true), (1, true), (2, true), (3, true), (4, true), (5, true), (6, false), (7, true), (8, true)] [9] (OwnB pp) (by kernel_rfl) fun w4 hE4 hs4 => ?_))
  have hwbd := hwb
  have hwod := hwo
  have hb5 := hb5.zq2 hE4
  have hwb := hwb.zq2 hE4
  have hwo := hwo.ext hE4 fun _ _ => id
  have hX := hX.zq4 hE4
  have hC : Ext (OwnB pp) _ w4 := hE4.no
  refine wd_k I_ok 4 rfl (wd_ld I_ok rfl rfl (fun w' hw' => ((hwbd.ext (show Ext (OwnB pp) _ w' from hw') fun hx => hwod.neTy hx hwbd (by decide) rfl).cell rfl)) ?_)
  refine wd_sa I_ok rfl rfl 0 32 32 1 rfl ⟨.inr ⟨rfl, rfl⟩, .inr ⟨rfl, rfl⟩, .inr ⟨rfl, rfl⟩, by decide, by decide, by decide⟩ ?_
  rw [slBase_zero, Nat.sub_zero]
  have hX0 := hX
  refine wd_l rfl (zv2 I_ok rfl 1 1 rfl rfl rfl (by decide) hwo (Src.slice (m := 32) ⟨ha1.len, .inr ⟨b5, 0, rfl, hb5.seg⟩⟩ OneC.h) (by dsimp only [maxLen]; rw [List.length_append]; omega) (by dsimp only; rw [List.length_append]; omega) fun p5 c5 w5 ho5 hE5 hB5 => ⟨hC.then hE5, ?_⟩)
  dsimp only at ho5 hE5 hB5 ⊢
  have hX := hX.trans hE5 fun y hy hF => (hpn y hF).elim .inr fun h => absurd hy (by omega)
  have hwb := hwb.zq8 hwo hE5 (show (5 : Nat) ≠ 178 from by decide)
  have hn2 : ∀ x, OwnB p5 x → OwnB p x ∨ w.heap.size ≤ x := fun x hx => (hB5 x hx).elim (fun h => hpn x h) fun h => .inr (Nat.le_trans hX0.size h)
  have e3 : (l ++ (m.take i).flatten).length + 32 = (l ++ (m.take (i + 1)).flatten).length := by rw [flatten_take hi, List.length_append, List.length_append, List.length_append, ha1]; omega
  obtain ⟨q2, k2, e1, e2, ho2⟩ : ∃ q2 k2, q2 = p5 ∧ k2 = c5 ∧ Own w5 q2 (l ++ (m.take (i + 1)).flatten).length k2 5 1 (zq6 (l ++ (m.take (i + 1)).flatten)) := ⟨_, _, rfl, rfl, by
   rw [← e3, flatten_take hi, ← List.append_assoc, zz8]
   exact ho5⟩
  rw [← e1] at hn2
  rw [← e1, ← e2, e3]
  refine wd_k I_ok 2 rfl (wd_sw (wb rfl (st_st I_ok hwb rfl rfl rfl fun w6 hwb2 hE6 hs6 => ?_)))
  have ho3 := ho2.zx9 hE6 hwb (by decide)
  have hX := hX.trans hE6 fun y hy hF => .inl hF
  refine zv0 (zx6 (zq1 (zq0 (wl_p I_ok rfl ?_))))
  rw [IntWalk.i64_in _ (by omega)]
  refine zq3 ?_
  exact zv1 (i + 1, q2) rfl ⟨⟨hi, ⟨k2, hwb2, ho3⟩, hn2⟩, hX⟩ (by first | omega | (dsimp only; omega))
 ·have h0 : i = m.length := by omega
  subst h0
  rw [List.take_length] at hwb hwo
  refine c_exit (zx3 (zx3 (zz0 (f_end0 rfl ?_))))
  exact ⟨rfl, _, ⟨_, hwb, hwo⟩, hpn, hX⟩
theorem zx8 (n : Nat) (s : Str) : (strB n s).length = n + s.length := by simp [strB, zj5]
theorem wrap_byteI {x : Int} (h : 0 ≤ x) : IntKind.u8.wrap x = ((UInt8.ofNat x.toNat).toNat : Int) := by
 have := wrap_byte x.toNat
 rw [Int.toNat_of_nonneg h] at this
 exact this
theorem flat_take {α β : Type} {f : α → List β} {l : List α} {i : Nat} (h : i < l.length) : (l.take (i + 1)).flatMap f = (l.take i).flatMap f ++ f l[i] := by
 rw [List.take_succ_eq_append_getElem h, List.flatMap_append]
 simp
theorem rises_at {l : List Str} (h : Rises l) {s : Str} (hs : s ∈ l) : s.length ≤ 48 := by
 obtain ⟨i, hi, rfl⟩ := List.mem_iff_getElem.1 hs
 exact (h.2 i hi).1.2.2
theorem leaved_at {l : List zj8} (h : Leaved l) : l.length ≤ 32 ∧ ∀ r ∈ l, r.path.length ≤ 48 :=
 ⟨by have := h.1.1; rwa [List.length_map] at this, fun r hr => rises_at h.1 (List.mem_map.2 ⟨r, hr, rfl⟩)⟩
theorem edit_at {l : List ChgD} (h : EditOk l) : l.length ≤ 32 ∧ ∀ r ∈ l, r.path.length ≤ 48 ∧ r.text.length ≤ 256 :=
 ⟨by have := h.2.1; rwa [List.length_map] at this, fun r hr => ⟨rises_at h.2 (List.mem_map.2 ⟨r, hr, rfl⟩), Nat.not_lt.1 fun ht => h.1 ⟨r, hr, .inl ht⟩⟩⟩
theorem styled_at {o : ObjD} (h : Styled o) : o.parents.length ≤ 2 ∧ 0 ≤ o.style := by
 obtain ⟨_, _, h | h | h⟩ := h
 ·exact ⟨by omega, by omega⟩
 ·exact ⟨by omega, by omega⟩
 ·exact ⟨by omega, by omega⟩
theorem kind_at {o : ObjD} (h : FieldsOk o) : 0 ≤ o.kind := by
 rcases h with h | h | h <;> omega
theorem leafB_le {r : zj8} (h : r.path.length ≤ 48) (hi : r.id.length = 32) : (leafB r).length ≤ 100 := by
 rw [leafB, List.length_append, zx8]; omega
theorem chgB_le {r : ChgD} (h : r.path.length ≤ 48 ∧ r.text.length ≤ 256) : (chgB r).length ≤ 400 := by
 rw [chgB, List.length_append, List.length_append, zx8, zx8]; simp; omega
theorem flat_ne {m : List (List UInt8)} (h : ∀ r ∈ m, IdIn r) (hm : m ≠ []) : m.flatMap zq6 ≠ [] := fun e => by
 have h1 : (m.flatMap zq6).length = m.length * 32 := flat_len fun r hr => (h r hr).len
 rw [e] at h1
 have : 0 < m.length := List.length_pos_iff.2 hm
 simp at h1
 omega
theorem one_id {r : List UInt8} (h : IdIn r) : putAll (rep 1 (zq6 idZ)) [(0 * (0 + 32), 0 + 32, .agg (zq6 r).toArray)] = zq6 r := by
 simp only [putAll, zj9]
 rw [Nat.zero_mul, put_whole (by rw [rep_length, zx0, zx0, h]; rfl)]
theorem laid_calls (w : World) {x : ObjD} {a : ObjP} (hx : ObjIn x) (hxl : ObjL w x a) (hf : FieldsOk x) :
  zz1 Tryz.prog 63 [.agg (objC x a).toArray] w fun v w' => ∃ q k, v = .slice q (laidB x).length k ∧ Own w' q (laidB x).length k 5 1 (zq6 (laidB x)) ∧ (∀ b, OwnB q b → w.heap.size ≤ b) ∧ Ext No w w' := by
 have hk0 := kind_at hf
 refine zq9 Tryz.func63 rfl rfl rfl rfl ?_
 have hX := Ext.refl No w
 refine zq5 (zq0 (wl (zz9 I_ok rfl fun b1 w1 hn1 hb1 hE1 => ?_)))
 have fr1 := Nat.le_trans hX.size hn1
 have hX := hX.zq4 hE1
 have hb1 : Blk w1 b1 46 (objC x a) := hb1
 refine wl_p I_ok rfl (zq3 (zq1 (zq5 (zq0 (wl_p I_ok rfl (wl (st_ld I_ok rfl (hb1.seg.obj hx).kind (wl_p I_ok rfl ?_))))))))
 rw [wrap_byteI hk0]
 refine wl (st_bs I_ok rfl 1 rfl rfl rfl (by decide) (by decide) (by simp [partsOk]) (l' := zq6 [UInt8.ofNat x.kind.toNat]) rfl fun b12 w2 hn12 hb12 hE2 hs2 => ?_)
 have fr12 := Nat.le_trans hX.size hn12
 have hb1 := hb1.zq2 hE2
 have hX := hX.zq4 hE2
 have fr12 := hn12
 refine wl (st_bd I_ok rfl ⟨⟨rfl, by decide⟩, trivial⟩ (l' := [.slice (some ⟨b12, 0, none⟩) 1 1]) rfl (wl (zz9 I_ok rfl fun b14 w3 hn14 hb14 hE3 => ?_)))
 have fr14 := Nat.le_trans hX.size hn14
 have hb1 := hb1.zq2 hE3
 have hb12 := hb12.zq2 hE3
 have hX := hX.zq4 hE3
 have hb14 : Blk w3 b14 178 ([.slice (some ⟨b12, 0, none⟩) (be 1 x.kind.toNat).length 1]) := hb14
 have hwb := hb14
 have hX12 := hX.size
 have hwo : Own w3 (some ⟨b12, 0, none⟩) (be 1 x.kind.toNat).length 1 5 1 (zq6 (be 1 x.kind.toNat)) := Own.blk (n := 1) (c := 1) hb12 1 rfl (Nat.le_refl _) (by decide)
 have hpn : ∀ y, OwnB (some ⟨b12, 0, none⟩) y → w.heap.size ≤ y := fun y hy => by have e : b12 = y := congrArg Addr.block (Option.some.inj hy); omega
 obtain ⟨p, hp⟩ : ∃ p : Option Addr, p = some ⟨b12, 0, none⟩ := ⟨_, rfl⟩
 rw [← hp] at hwb hwo hpn
 refine wl_p I_ok rfl (zq3 (zq1 (c_cutK (α := Option Addr) [3] rfl (fun z => []) (fun z u => (Wr u b14 z (laidB x) ∧ ∀ y, OwnB z y → w.heap.size ≤ y) ∧ Ext No w u) ?_ ?_)))
 ·refine zq5 ?_
  refine zq0 (wl_p I_ok rfl (wl (st_ld I_ok rfl (hb1.seg.obj hx).kind (zq3 (zq1 (zx4 (zq5 (zq0 (wl_p I_ok rfl (zq3 (zq1 (c_if rfl (fun hc => ?_) (fun hc => ?_)))))))))))))
  ·have h1 : x.kind = 1 := hc
   have hB := (fields1 h1).1 hf
   have hBl := hB.1
   refine zq0 (wl_p I_ok rfl (wl (st_ld I_ok rfl (hb1.seg.obj hx).text ?_)))
   have hXo := hX
   refine wl (zx2 Tryz.call118 rfl rfl rfl rfl rfl rfl (text_calls w3 ⟨_, hwb, hwo⟩ x.text (by simp only [zj5]; omega) (by omega)) fun v4 w4 hr4 => ?_)
   obtain ⟨rfl, p, hW2, hn2, hE4⟩ := hr4
   have hX := Ext.thenW hX hE4 fr14 hpn
   have hpn := newW hXo hpn hn2
   obtain ⟨k4, hwb, hwo⟩ := hW2
   refine zq3 ?_
   exact zx6 (zz7 (p) rfl ⟨⟨by rw [laidB, if_pos h1]; exact ⟨_, hwb, hwo⟩, hpn⟩, hX⟩)
  ·have h1 : ¬ x.kind = 1 := hc
   refine zq5 (zq0 (wl_p I_ok rfl (zq3 (zq1 (c_if rfl (fun hc => ?_) (fun hc => ?_))))))
   ·have h2 : x.kind = 2 := hc
    have hB := (fields2 h2).1 hf
    obtain ⟨hl32, hp48⟩ := leaved_at hB.1
    refine zq5 (c_draw rfl 13 [(0, true), (1, true), (2, true), (3, true), (4, true), (5, true), (6, true), (7, true), (8, true), (9, false), (10, false), (11, true), (12, true)] [13] (OwnB p) (by kernel_rfl) fun w5 hE5 hs5 => ?_)
    have hd1 := hb1
    have hwbd := hwb
    have hwod := hwo
    have hb1 := hb1.zq2 hE5
    have hwb := hwb.zq2 hE5
    have hwo := hwo.ext hE5 fun _ _ => id
    have hX := hX.zq4 hE5
    have hC : Ext (OwnB p) _ w5 := hE5.no
    refine wd_k I_ok 4 rfl (wd_ld I_ok rfl rfl (fun w' hw' => ((hwbd.ext (show Ext (OwnB p) _ w' from hw') fun hx' => hwod.neTy hx' hwbd (by decide) rfl).cell rfl)) ?_)
    refine wd_k I_ok 1 rfl (wd_ld I_ok rfl rfl (fun w' hw' => ((hd1.ext (show Ext (OwnB p) _ w' from hw') fun hx' => hwod.neTy hx' hd1 (by decide) rfl).seg.obj hx).leaves) ?_)
    refine wd_k I_ok 2 rfl ?_
    rw [wrap_byte]
    refine wd_l rfl (st_bs I_ok rfl 1 rfl rfl rfl (by decide) (by decide) (by simp [partsOk]) (l' := zq6 [UInt8.ofNat x.leaves.length]) rfl fun b34 w6 hn34 hb34 hE6 hs6 => ⟨hC.zq4 hE6, ?_⟩)
    have fr34 := Nat.le_trans hX.size hn34
    have hb1 := hb1.zq2 hE6
    have hwb := hwb.zq2 hE6
    have hwo := hwo.ext hE6 fun _ _ => id
    have hX := hX.zq4 hE6
    have hC := hC.zq4 hE6
    have hX0 := hX
    refine wd_l rfl (zv2 I_ok rfl 1 1 rfl rfl rfl (by decide) hwo (Src.slice (m := 1) ⟨rfl, .inr ⟨b34, 0, rfl, hb34.seg⟩⟩ OneC.h) (by dsimp only [maxLen]; simp only [zj5]; omega) (by dsimp only; simp only [zj5]; omega) fun p7 c7 w7 ho7 hE7 hB7 => ⟨hC.then hE7, ?_⟩)
    dsimp only at ho7 hE7 hB7 ⊢
    have hb1 := hb1.zq8 hwo hE7 (show (5 : Nat) ≠ 46 from by decide)
    have hX := hX.trans hE7 fun y hy hF => by have := hpn y hF; omega
    have hwb := hwb.zq8 hwo hE7 (show (5 : Nat) ≠ 178 from by decide)
    have hn2 := newW hX0 hpn hB7
    have e3 : (be 1 x.kind.toNat).length + 1 = (be 1 x.kind.toNat ++ be 1 x.leaves.length).length := by simp only [List.length_append, zj5]
    obtain ⟨p, k, e1, e2, hwo2⟩ : ∃ p k, p = p7 ∧ k = c7 ∧ Own w7 p (be 1 x.kind.toNat ++ be 1 x.leaves.length).length k 5 1 (zq6 (be 1 x.kind.toNat ++ be 1 x.leaves.length)) := ⟨_, _, rfl, rfl, by
     rw [← e3, zz8 (be 1 x.kind.toNat)]
     exact ho7⟩
    rw [← e1] at hn2
    have hpn := hn2
    rw [← e1, ← e2, e3]
    refine wd_k I_ok 2 rfl (wd_sw (wb rfl (st_st I_ok hwb rfl rfl rfl fun w8 hwb2 hE8 hs8 => ?_)))
    have hwo := hwo2.zx9 hE8 hwb (by decide)
    have hb1 := hb1.ext1 hE8 (hb1.ne hwb (by decide))
    have hX := hX.trans hE8 fun y hy hF => by have hF : y = b14 := hF; omega
    have hwb := hwb2
    refine zv0 (zq1 (zq5 (zq0 (wl_p I_ok rfl (wl (st_ld I_ok rfl (hb1.seg.obj hx).leaves (wl_p I_ok rfl (zq3 (zq1 (zx4 ?_))))))))))
    refine zv3 (α := Nat × Option Addr) [3, 39, 40] rfl (fun z => [(41, .int .i64 (z.1 : Int))]) (fun z u => (z.1 ≤ x.leaves.length ∧ Wr u b14 z.2 (be 1 x.kind.toNat ++ be 1 x.leaves.length ++ (x.leaves.take z.1).flatMap leafB) ∧ ∀ y, OwnB z.2 y → w.heap.size ≤ y) ∧ Ext No w u) (fun z u => x.leaves.length - z.1) (0, p) rfl ⟨⟨Nat.zero_le _, ⟨_, by simpa using hwb, by simpa using hwo⟩, hpn⟩, hX⟩ ?_
    rintro ⟨i, p⟩ w9 ⟨⟨hi, ⟨k, hwb, hwo⟩, hpn⟩, hX⟩
    try dsimp only
    dsimp only at hi hwb hwo hpn
    refine zq5 (zq0 (wl_p I_ok rfl (zq3 (zq1 (zq5 (c_if rfl (fun hc => ?_) (fun hc => ?_)))))))
    ·have hi : i < x.leaves.length := by omega
     obtain ⟨qb, qoff, hp, hsq⟩ := hxl.leaves.rowAll (fun r hr => zj8.len (hx.leaves r hr).2) (by omega)
     rw [hp]
     have ha1 := hx.leaves _ (List.getElem_mem hi)
     have ha2 := hp48 _ (List.getElem_mem hi)
     have hfl : ((x.leaves.take i).flatMap leafB).length ≤ (x.leaves.take i).length * 100 := flat_le fun r hr => leafB_le (hp48 r (List.mem_of_mem_take hr)) (hx.leaves r (List.mem_of_mem_take hr)).2
     rw [List.length_take, Nat.min_eq_left (by omega)] at hfl
     refine zx7 (zq1 (zq5 (zx4 (zq5 (zq0 (wl (st_ix I_ok rfl 33 rfl i rfl (by omega) (qoff + i * 33) rfl (wl (st_ldN I_ok rfl ((hsq i hi).zq2 hX) (zj8.len ha1.2) (wl (zz9 I_ok rfl fun b5 w10 hn5 hb5 hE10 => ?_)))))))))))
     have fr5 := Nat.le_trans hX.size hn5
     have hwb := hwb.zq2 hE10
     have hwo := hwo.ext hE10 fun _ _ => id
     have hX := hX.zq4 hE10
     have hb5o := hb5
     refine wl (zj1 (l' := (x.leaves[i]).cells) I_ok hb5 rfl rfl (zj8.len ha1.2) (zj8.len ha1.2) OneC.h fun w11 hb5 hE11 hs11 => ?_)
     have hwb := hwb.ext1 hE11 (hwb.ne hb5o (by decide))
     have hwo := hwo.zx9 hE11 hb5o (by decide)
     have hX := hX.zx1 hE11 fr5
     refine zq3 (zq1 (zq5 (zq0 (wl_p I_ok rfl (wl (st_ldb I_ok hb5 rfl rfl ?_))))))
     have hXo := hX
     refine wl (zx2 Tryz.call119 rfl rfl rfl rfl rfl rfl (small_calls w11 ⟨_, hwb, hwo⟩ (x.leaves[i]).path (by simp only [List.length_append, zj5]; omega)) fun v12 w12 hr12 => ?_)
     obtain ⟨rfl, p, hW2, hn2, hE12⟩ := hr12
     have hb5 := hb5.keepW ⟨_, hwb, hwo⟩ hE12 (by decide) (by decide)
     have hX := Ext.thenW hX hE12 fr14 hpn
     have hpn := newW hXo hpn hn2
     obtain ⟨k12, hwb, hwo⟩ := hW2
     refine zq3 (zq1 (zq0 (wl_p I_ok rfl (wl (st_ldN I_ok rfl (by have := hb5.seg.drop 1; exact this) (IdIn.len ha1.2) ?_)))))
     have ha5 : IdIn (x.leaves[i]).id := ha1.2
     refine wl (st_bs I_ok rfl 32 rfl idZ_c.symm (by rw [zx0]; rfl) (by decide) (by decide) ⟨⟨by rw [zj9]; exact (IdIn.len ha1.2), by decide⟩, trivial⟩ (l' := zq6 (x.leaves[i]).id) (one_id ha1.2) fun b52 w13 hn52 hb52 hE13 hs13 => ?_)
     have fr52 := Nat.le_trans hX.size hn52
     have hwb := hwb.zq2 hE13
     have hwo := hwo.ext hE13 fun _ _ => id
     have hX := hX.zq4 hE13
     have hXo := hX
     refine wl (zx2 Tryz.call120 rfl rfl rfl rfl rfl rfl (ids_calls w13 ⟨_, hwb, hwo⟩ (q := some ⟨b52, 0, none⟩) (m := [(x.leaves[i]).id]) ⟨by simp only [List.flatMap_cons, List.flatMap_nil, List.append_nil]; exact ha5.len, .inr ⟨b52, 0, rfl, by simpa using hb52.seg⟩⟩ (fun r hr => by rw [List.mem_singleton.1 hr]; exact ha5) (by simp only [List.length_append, zj5, zx8]; omega) (by simp only [List.length_cons, List.length_nil]; omega) (fun y off e _ hF => by cases e; exact hF.elim (fun e => hwb.ne hb52 (by decide) e.symm) fun h => hwo.neTy h hb52 (by decide) rfl)) fun v14 w14 hr14 => ?_)
     obtain ⟨rfl, p, hW2, hn2, hE14⟩ := hr14
     have hX := Ext.thenW hX hE14 fr14 hpn
     have hpn := newW hXo hpn hn2
     obtain ⟨k14, hwb, hwo⟩ := hW2
     refine zq3 (zx6 (zq1 (zq0 (wl_p I_ok rfl ?_))))
     rw [IntWalk.i64_in _ (by omega)]
     refine zq3 ?_
     exact zv1 (i + 1, p) rfl ⟨⟨hi, by have e : be 1 x.kind.toNat ++ be 1 x.leaves.length ++ (x.leaves.take (i + 1)).flatMap leafB = be 1 x.kind.toNat ++ be 1 x.leaves.length ++ (x.leaves.take i).flatMap leafB ++ strB 1 (x.leaves[i]).path ++ [(x.leaves[i]).id].flatten := (by rw [flat_take hi, leafB]; simp); rw [e]; exact ⟨_, hwb, hwo⟩, hpn⟩, hX⟩ (by first | omega | (dsimp only; omega))
    ·have h0 : i = x.leaves.length := by omega
     subst h0
     rw [List.take_length] at hwb hwo
     refine c_exit ?_
     exact zx3 (zx3 (zz0 (zx6 (zz7 (p) rfl ⟨⟨by have e : laidB x = be 1 x.kind.toNat ++ be 1 x.leaves.length ++ x.leaves.flatMap leafB := (by rw [laidB, if_neg h1, if_pos h2, treeB, List.append_assoc]); rw [e]; exact ⟨_, hwb, hwo⟩, hpn⟩, hX⟩))))
   ·have h2 : ¬ x.kind = 2 := hc
    refine zq5 (zq0 (wl_p I_ok rfl (zq3 (zq1 (c_if rfl (fun hc => ?_) (fun hc => ?_))))))
    ·have h3 : x.kind = 3 := hc
     have hB := (fields3 h3).1 hf
     obtain ⟨hl32, hp48⟩ := edit_at hB.2.2.2.1
     obtain ⟨hpl, hst⟩ := styled_at hB.2.2.2.2
     have hnl := hB.2.2.1
     have htr := hx.tree
     have hba := hx.base
     have hpf := flatten_len (n := 32) hx.parents
     refine zq5 (c_draw rfl 12 [(0, true), (1, true), (2, true), (3, true), (4, true), (5, true), (6, true), (7, true), (8, false), (9, false), (10, true), (11, true)] [12] (OwnB p) (by kernel_rfl) fun w15 hE15 hs15 => ?_)
     have hd1 := hb1
     have hwbd := hwb
     have hwod := hwo
     have hb1 := hb1.zq2 hE15
     have hwb := hwb.zq2 hE15
     have hwo := hwo.ext hE15 fun _ _ => id
     have hX := hX.zq4 hE15
     have hC : Ext (OwnB p) _ w15 := hE15.no
     refine wd_k I_ok 4 rfl (wd_ld I_ok rfl rfl (fun w' hw' => ((hwbd.ext (show Ext (OwnB p) _ w' from hw') fun hx' => hwod.neTy hx' hwbd (by decide) rfl).cell rfl)) ?_)
     refine wd_k I_ok 1 rfl (wd_ld I_ok rfl rfl (fun w' hw' => ((hd1.ext (show Ext (OwnB p) _ w' from hw') fun hx' => hwod.neTy hx' hd1 (by decide) rfl).seg.obj hx).style) ?_)
     refine wd_k I_ok 1 rfl ?_
     rw [wrap_byteI hst]
     refine wd_l rfl (st_bs I_ok rfl 1 rfl rfl rfl (by decide) (by decide) (by simp [partsOk]) (l' := zq6 [UInt8.ofNat x.style.toNat]) rfl fun b65 w16 hn65 hb65 hE16 hs16 => ⟨hC.zq4 hE16, ?_⟩)
     have fr65 := Nat.le_trans hX.size hn65
     have hb1 := hb1.zq2 hE16
     have hwb := hwb.zq2 hE16
     have hwo := hwo.ext hE16 fun _ _ => id
     have hX := hX.zq4 hE16
     have hC := hC.zq4 hE16
     have hX0 := hX
     refine wd_l rfl (zv2 I_ok rfl 1 1 rfl rfl rfl (by decide) hwo (Src.slice (m := 1) ⟨rfl, .inr ⟨b65, 0, rfl, hb65.seg⟩⟩ OneC.h) (by dsimp only [maxLen]; simp only [zj5]; omega) (by dsimp only; simp only [zj5]; omega) fun p17 c17 w17 ho17 hE17 hB17 => ⟨hC.then hE17, ?_⟩)
     dsimp only at ho17 hE17 hB17 ⊢
     have hb1 := hb1.zq8 hwo hE17 (show (5 : Nat) ≠ 46 from by decide)
     have hX := hX.trans hE17 fun y hy hF => by have := hpn y hF; omega
     have hwb := hwb.zq8 hwo hE17 (show (5 : Nat) ≠ 178 from by decide)
     have hn2 := newW hX0 hpn hB17
     have e3 : (be 1 x.kind.toNat).length + 1 = (be 1 x.kind.toNat ++ be 1 x.style.toNat).length := by simp only [List.length_append, zj5]
     obtain ⟨p, k, e1, e2, hwo2⟩ : ∃ p k, p = p17 ∧ k = c17 ∧ Own w17 p (be 1 x.kind.toNat ++ be 1 x.style.toNat).length k 5 1 (zq6 (be 1 x.kind.toNat ++ be 1 x.style.toNat)) := ⟨_, _, rfl, rfl, by
      rw [← e3, zz8 (be 1 x.kind.toNat)]
      exact ho17⟩
     rw [← e1] at hn2
     have hpn := hn2
     rw [← e1, ← e2, e3]
     refine wd_k I_ok 2 rfl (wd_sw (wb rfl (st_st I_ok hwb rfl rfl rfl fun w18 hwb2 hE18 hs18 => ?_)))
     have hwo := hwo2.zx9 hE18 hwb (by decide)
     have hb1 := hb1.ext1 hE18 (hb1.ne hwb (by decide))
     have hX := hX.trans hE18 fun y hy hF => by have hF : y = b14 := hF; omega
     have hwb := hwb2
     refine zv0 (zq1 (zq5 (zq0 (wl_p I_ok rfl (wl (st_ldN I_ok rfl (hb1.seg.obj hx).tree (IdIn.len hx.tree) ?_))))))
     have ha5 : IdIn x.tree := hx.tree
     refine wl (st_bs I_ok rfl 32 rfl idZ_c.symm (by rw [zx0]; rfl) (by decide) (by decide) ⟨⟨by rw [zj9]; exact (IdIn.len hx.tree), by decide⟩, trivial⟩ (l' := zq6 x.tree) (one_id hx.tree) fun b72 w19 hn72 hb72 hE19 hs19 => ?_)
     have fr72 := Nat.le_trans hX.size hn72
     have hb1 := hb1.zq2 hE19
     have hwb := hwb.zq2 hE19
     have hwo := hwo.ext hE19 fun _ _ => id
     have hX := hX.zq4 hE19
     have hXo := hX
     refine wl (zx2 Tryz.call120 rfl rfl rfl rfl rfl rfl (ids_calls w19 ⟨_, hwb, hwo⟩ (q := some ⟨b72, 0, none⟩) (m := [x.tree]) ⟨by simp only [List.flatMap_cons, List.flatMap_nil, List.append_nil]; exact ha5.len, .inr ⟨b72, 0, rfl, by simpa using hb72.seg⟩⟩ (fun r hr => by rw [List.mem_singleton.1 hr]; exact ha5) (by simp only [List.length_append, zj5]; omega) (by simp only [List.length_cons, List.length_nil]; omega) (fun y off e _ hF => by cases e; exact hF.elim (fun e => hwb.ne hb72 (by decide) e.symm) fun h => hwo.neTy h hb72 (by decide) rfl)) fun v20 w20 hr20 => ?_)
     obtain ⟨rfl, p, hW2, hn2, hE20⟩ := hr20
     have hb1 := hb1.keepW ⟨_, hwb, hwo⟩ hE20 (by decide) (by decide)
     have hX := Ext.thenW hX hE20 fr14 hpn
     have hpn := newW hXo hpn hn2
     obtain ⟨k20, hwb, hwo⟩ := hW2
     refine zq3 (zq1 (zq5 ?_))
     refine c_draw rfl 13 [(0, true), (1, true), (2, true), (3, true), (4, true), (5, true), (6, true), (7, true), (8, true), (9, false), (10, false), (11, true), (12, true)] [13] (OwnB p) (by kernel_rfl) fun w21 hE21 hs21 => ?_
     have hd1 := hb1
     have hwbd := hwb
     have hwod := hwo
     have hb1 := hb1.zq2 hE21
     have hwb := hwb.zq2 hE21
     have hwo := hwo.ext hE21 fun _ _ => id
     have hX := hX.zq4 hE21
     have hC : Ext (OwnB p) _ w21 := hE21.no
     refine wd_k I_ok 4 rfl (wd_ld I_ok rfl rfl (fun w' hw' => ((hwbd.ext (show Ext (OwnB p) _ w' from hw') fun hx' => hwod.neTy hx' hwbd (by decide) rfl).cell rfl)) ?_)
     refine wd_k I_ok 1 rfl (wd_ld I_ok rfl rfl (fun w' hw' => ((hd1.ext (show Ext (OwnB p) _ w' from hw') fun hx' => hwod.neTy hx' hd1 (by decide) rfl).seg.obj hx).parents) ?_)
     refine wd_k I_ok 2 rfl ?_
     rw [wrap_byte]
     refine wd_l rfl (st_bs I_ok rfl 1 rfl rfl rfl (by decide) (by decide) (by simp [partsOk]) (l' := zq6 [UInt8.ofNat x.parents.length]) rfl fun b83 w22 hn83 hb83 hE22 hs22 => ⟨hC.zq4 hE22, ?_⟩)
     have fr83 := Nat.le_trans hX.size hn83
     have hb1 := hb1.zq2 hE22
     have hwb := hwb.zq2 hE22
     have hwo := hwo.ext hE22 fun _ _ => id
     have hX := hX.zq4 hE22
     have hC := hC.zq4 hE22
     have hX0 := hX
     refine wd_l rfl (zv2 I_ok rfl 1 1 rfl rfl rfl (by decide) hwo (Src.slice (m := 1) ⟨rfl, .inr ⟨b83, 0, rfl, hb83.seg⟩⟩ OneC.h) (by dsimp only [maxLen]; simp only [List.length_append, zj5, List.length_nil, List.flatten_cons, List.flatten_nil]; omega) (by dsimp only; simp only [List.length_append, zj5, List.length_nil, List.flatten_cons, List.flatten_nil]; omega) fun p23 c23 w23 ho23 hE23 hB23 => ⟨hC.then hE23, ?_⟩)
     dsimp only at ho23 hE23 hB23 ⊢
     have hb1 := hb1.zq8 hwo hE23 (show (5 : Nat) ≠ 46 from by decide)
     have hX := hX.trans hE23 fun y hy hF => by have := hpn y hF; omega
     have hwb := hwb.zq8 hwo hE23 (show (5 : Nat) ≠ 178 from by decide)
     have hn2 := newW hX0 hpn hB23
     have e3 : (be 1 x.kind.toNat ++ be 1 x.style.toNat ++ [x.tree].flatten).length + 1 = (be 1 x.kind.toNat ++ be 1 x.style.toNat ++ [x.tree].flatten ++ be 1 x.parents.length).length := by simp only [List.length_append, zj5]
     obtain ⟨p, k, e1, e2, hwo2⟩ : ∃ p k, p = p23 ∧ k = c23 ∧ Own w23 p (be 1 x.kind.toNat ++ be 1 x.style.toNat ++ [x.tree].flatten ++ be 1 x.parents.length).length k 5 1 (zq6 (be 1 x.kind.toNat ++ be 1 x.style.toNat ++ [x.tree].flatten ++ be 1 x.parents.length)) := ⟨_, _, rfl, rfl, by
      rw [← e3, zz8 (be 1 x.kind.toNat ++ be 1 x.style.toNat ++ [x.tree].flatten)]
      exact ho23⟩
     rw [← e1] at hn2
     have hpn := hn2
     rw [← e1, ← e2, e3]
     refine wd_k I_ok 2 rfl (wd_sw (wb rfl (st_st I_ok hwb rfl rfl rfl fun w24 hwb2 hE24 hs24 => ?_)))
     have hwo := hwo2.zx9 hE24 hwb (by decide)
     have hb1 := hb1.ext1 hE24 (hb1.ne hwb (by decide))
     have hX := hX.trans hE24 fun y hy hF => by have hF : y = b14 := hF; omega
     have hwb := hwb2
     refine zv0 (zq1 (zq5 (zq0 (wl_p I_ok rfl (wl (st_ld I_ok rfl (hb1.seg.obj hx).parents ?_))))))
     have hXo := hX
     refine wl (zx2 Tryz.call120 rfl rfl rfl rfl rfl rfl (ids_calls w24 ⟨_, hwb, hwo⟩ (hxl.parents.zq2 hX) hx.parents (by simp only [List.length_append, zj5, List.length_nil, List.flatten_cons, List.flatten_nil]; omega) (by omega) (fun y off e hne hF => by have hlt := hxl.parents.lt e (flat_ne hx.parents hne); exact hF.elim (fun e => by omega) fun h => by have := hpn y h; omega)) fun v25 w25 hr25 => ?_)
     obtain ⟨rfl, p, hW2, hn2, hE25⟩ := hr25
     have hb1 := hb1.keepW ⟨_, hwb, hwo⟩ hE25 (by decide) (by decide)
     have hX := Ext.thenW hX hE25 fr14 hpn
     have hpn := newW hXo hpn hn2
     obtain ⟨k25, hwb, hwo⟩ := hW2
     refine zq3 (zq1 (zq5 (zq0 (wl_p I_ok rfl (wl (st_ldN I_ok rfl (hb1.seg.obj hx).base (IdIn.len hx.base) ?_))))))
     have ha5 : IdIn x.base := hx.base
     refine wl (st_bs I_ok rfl 32 rfl idZ_c.symm (by rw [zx0]; rfl) (by decide) (by decide) ⟨⟨by rw [zj9]; exact (IdIn.len hx.base), by decide⟩, trivial⟩ (l' := zq6 x.base) (one_id hx.base) fun b94 w26 hn94 hb94 hE26 hs26 => ?_)
     have fr94 := Nat.le_trans hX.size hn94
     have hb1 := hb1.zq2 hE26
     have hwb := hwb.zq2 hE26
     have hwo := hwo.ext hE26 fun _ _ => id
     have hX := hX.zq4 hE26
     have hXo := hX
     refine wl (zx2 Tryz.call120 rfl rfl rfl rfl rfl rfl (ids_calls w26 ⟨_, hwb, hwo⟩ (q := some ⟨b94, 0, none⟩) (m := [x.base]) ⟨by simp only [List.flatMap_cons, List.flatMap_nil, List.append_nil]; exact ha5.len, .inr ⟨b94, 0, rfl, by simpa using hb94.seg⟩⟩ (fun r hr => by rw [List.mem_singleton.1 hr]; exact ha5) (by simp only [List.length_append, zj5, List.length_nil, List.flatten_cons, List.flatten_nil]; omega) (by simp only [List.length_cons, List.length_nil]; omega) (fun y off e _ hF => by cases e; exact hF.elim (fun e => hwb.ne hb94 (by decide) e.symm) fun h => hwo.neTy h hb94 (by decide) rfl)) fun v27 w27 hr27 => ?_)
     obtain ⟨rfl, p, hW2, hn2, hE27⟩ := hr27
     have hb1 := hb1.keepW ⟨_, hwb, hwo⟩ hE27 (by decide) (by decide)
     have hX := Ext.thenW hX hE27 fr14 hpn
     have hpn := newW hXo hpn hn2
     obtain ⟨k27, hwb, hwo⟩ := hW2
     refine zq3 (zq1 (zq5 ?_))
     refine c_draw rfl 14 [(0, true), (1, true), (2, true), (3, true), (4, true), (5, true), (6, true), (7, true), (8, true), (9, true), (10, false), (11, false), (12, true), (13, true)] [14] (OwnB p) (by kernel_rfl) fun w28 hE28 hs28 => ?_
     have hd1 := hb1
     have hwbd := hwb
     have hwod := hwo
     have hb1 := hb1.zq2 hE28
     have hwb := hwb.zq2 hE28
     have hwo := hwo.ext hE28 fun _ _ => id
     have hX := hX.zq4 hE28
     have hC : Ext (OwnB p) _ w28 := hE28.no
     refine wd_k I_ok 4 rfl (wd_ld I_ok rfl rfl (fun w' hw' => ((hwbd.ext (show Ext (OwnB p) _ w' from hw') fun hx' => hwod.neTy hx' hwbd (by decide) rfl).cell rfl)) ?_)
     refine wd_k I_ok 2 rfl (wd_ld I_ok rfl rfl (fun w' hw' => ((hd1.ext (show Ext (OwnB p) _ w' from hw') fun hx' => hwod.neTy hx' hd1 (by decide) rfl).seg.obj hx).rows) ?_)
     refine wd_k I_ok 2 rfl ?_
     rw [wrap_byte]
     refine wd_l rfl (st_bs I_ok rfl 1 rfl rfl rfl (by decide) (by decide) (by simp [partsOk]) (l' := zq6 [UInt8.ofNat x.rows.length]) rfl fun b106 w29 hn106 hb106 hE29 hs29 => ⟨hC.zq4 hE29, ?_⟩)
     have fr106 := Nat.le_trans hX.size hn106
     have hb1 := hb1.zq2 hE29
     have hwb := hwb.zq2 hE29
     have hwo := hwo.ext hE29 fun _ _ => id
     have hX := hX.zq4 hE29
     have hC := hC.zq4 hE29
     have hX0 := hX
     refine wd_l rfl (zv2 I_ok rfl 1 1 rfl rfl rfl (by decide) hwo (Src.slice (m := 1) ⟨rfl, .inr ⟨b106, 0, rfl, hb106.seg⟩⟩ OneC.h) (by dsimp only [maxLen]; simp only [List.length_append, zj5, List.length_nil, List.flatten_cons, List.flatten_nil]; omega) (by dsimp only; simp only [List.length_append, zj5, List.length_nil, List.flatten_cons, List.flatten_nil]; omega) fun p30 c30 w30 ho30 hE30 hB30 => ⟨hC.then hE30, ?_⟩)
     have hC := hC.then hE30
     dsimp only at ho30 hE30 hB30 ⊢
     have hb1 := hb1.zq8 hwo hE30 (show (5 : Nat) ≠ 46 from by decide)
     have hX := hX.trans hE30 fun y hy hF => by have := hpn y hF; omega
     have hwb := hwb.zq8 hwo hE30 (show (5 : Nat) ≠ 178 from by decide)
     have hn2 := newW hX0 hpn hB30
     have e3 : (be 1 x.kind.toNat ++ be 1 x.style.toNat ++ [x.tree].flatten ++ be 1 x.parents.length ++ x.parents.flatten ++ [x.base].flatten).length + 1 = (be 1 x.kind.toNat ++ be 1 x.style.toNat ++ [x.tree].flatten ++ be 1 x.parents.length ++ x.parents.flatten ++ [x.base].flatten ++ be 1 x.rows.length).length := by simp only [List.length_append, zj5]
     obtain ⟨p, k, e1, e2, hwo2⟩ : ∃ p k, p = p30 ∧ k = c30 ∧ Own w30 p (be 1 x.kind.toNat ++ be 1 x.style.toNat ++ [x.tree].flatten ++ be 1 x.parents.length ++ x.parents.flatten ++ [x.base].flatten ++ be 1 x.rows.length).length k 5 1 (zq6 (be 1 x.kind.toNat ++ be 1 x.style.toNat ++ [x.tree].flatten ++ be 1 x.parents.length ++ x.parents.flatten ++ [x.base].flatten ++ be 1 x.rows.length)) := ⟨_, _, rfl, rfl, by
      rw [← e3, zz8 (be 1 x.kind.toNat ++ be 1 x.style.toNat ++ [x.tree].flatten ++ be 1 x.parents.length ++ x.parents.flatten ++ [x.base].flatten)]
      exact ho30⟩
     rw [← e1] at hn2
     have hpn := hn2
     rw [← e1, ← e2, e3]
     refine wd_k I_ok 2 rfl (wd_sw (wb rfl (st_st I_ok hwb rfl rfl rfl fun w31 hwb2 hE31 hs31 => ?_)))
     have hwo := hwo2.zx9 hE31 hwb (by decide)
     have hb1 := hb1.ext1 hE31 (hb1.ne hwb (by decide))
     have hX := hX.trans hE31 fun y hy hF => by have hF : y = b14 := hF; omega
     have hwb := hwb2
     refine zv0 (zq1 (zq5 (zq5 (zq0 (wl_p I_ok rfl (wl (st_ld I_ok rfl (hb1.seg.obj hx).rows (wl_p I_ok rfl (zq3 (zq1 (zx4 ?_)))))))))))
     refine zv3 (α := Nat × Option Addr) [1, 3, 112, 113] rfl (fun z => [(114, .int .i64 (z.1 : Int))]) (fun z u => (z.1 ≤ x.rows.length ∧ Wr u b14 z.2 (be 1 x.kind.toNat ++ be 1 x.style.toNat ++ [x.tree].flatten ++ be 1 x.parents.length ++ x.parents.flatten ++ [x.base].flatten ++ be 1 x.rows.length ++ (x.rows.take z.1).flatMap chgB) ∧ ∀ y, OwnB z.2 y → w.heap.size ≤ y) ∧ Blk u b1 46 (objC x a) ∧ Ext No w u) (fun z u => x.rows.length - z.1) (0, p) rfl ⟨⟨Nat.zero_le _, ⟨_, by simpa using hwb, by simpa using hwo⟩, hpn⟩, hb1, hX⟩ ?_
     rintro ⟨i, p⟩ w32 ⟨⟨hi, ⟨k, hwb, hwo⟩, hpn⟩, hb1, hX⟩
     try dsimp only
     dsimp only at hi hwb hwo hpn
     refine zq5 (zq0 (wl_p I_ok rfl (zq3 (zq1 (zq5 (c_if rfl (fun hc => ?_) (fun hc => ?_)))))))
     ·have hi : i < x.rows.length := by omega
      obtain ⟨qb, qoff, hp, hsq⟩ := hxl.rows.rowAll (fun r _ => r.len) (by omega)
      rw [hp]
      have ha2 := hp48 _ (List.getElem_mem hi)
      have hfl : ((x.rows.take i).flatMap chgB).length ≤ (x.rows.take i).length * 400 := flat_le fun r hr => chgB_le (hp48 r (List.mem_of_mem_take hr))
      rw [List.length_take, Nat.min_eq_left (by omega)] at hfl
      refine zx7 (zq1 (zq5 (zx4 (zq5 (zq0 (wl (st_ix I_ok rfl 3 rfl i rfl (by omega) (qoff + i * 3) rfl (wl (st_ldN I_ok rfl ((hsq i hi).zq2 hX) rfl (wl (zz9 I_ok rfl fun b7 w33 hn7 hb7 hE33 => ?_)))))))))))
      have ne1_7 : b1 ≠ b7 := Nat.ne_of_lt (Nat.lt_of_lt_of_le hb1.lt hn7)
      have fr7 := Nat.le_trans hX.size hn7
      have hb1 := hb1.zq2 hE33
      have hwb := hwb.zq2 hE33
      have hwo := hwo.ext hE33 fun _ _ => id
      have hX := hX.zq4 hE33
      have hb7o := hb7
      refine wl (zj1 (l' := (x.rows[i]).cells) I_ok hb7 rfl rfl rfl rfl OneC.h fun w34 hb7 hE34 hs34 => ?_)
      have hb1 := hb1.ext1 hE34 ne1_7
      have hwb := hwb.ext1 hE34 (hwb.ne hb7o (by decide))
      have hwo := hwo.zx9 hE34 hb7o (by decide)
      have hX := hX.zx1 hE34 fr7
      refine zq3 (zq1 (zq5 (zq0 (wl_p I_ok rfl (wl (st_ldb I_ok hb7 rfl rfl ?_))))))
      have hXo := hX
      refine wl (zx2 Tryz.call119 rfl rfl rfl rfl rfl rfl (small_calls w34 ⟨_, hwb, hwo⟩ (x.rows[i]).path (by simp only [List.length_append, zj5, List.length_nil, List.flatten_cons, List.flatten_nil]; omega)) fun v35 w35 hr35 => ?_)
      obtain ⟨rfl, p, hW2, hn2, hE35⟩ := hr35
      have hb1 := hb1.keepW ⟨_, hwb, hwo⟩ hE35 (by decide) (by decide)
      have hb7 := hb7.keepW ⟨_, hwb, hwo⟩ hE35 (by decide) (by decide)
      have hX := Ext.thenW hX hE35 fr14 hpn
      have hpn := newW hXo hpn hn2
      obtain ⟨k35, hwb, hwo⟩ := hW2
      refine zq3 (zq1 (zq5 (zq0 (wl_p I_ok rfl (zq3 (zq1 ?_))))))
      refine c_cutK (α := UInt8) [1, 3, 7, 112, 113, 114] rfl (fun z => [(8, .int .u8 (z.toNat : Int))]) (fun z u => (z = isB (x.rows[i]).is ∧ Wr u b14 p (be 1 x.kind.toNat ++ be 1 x.style.toNat ++ [x.tree].flatten ++ be 1 x.parents.length ++ x.parents.flatten ++ [x.base].flatten ++ be 1 x.rows.length ++ (x.rows.take i).flatMap chgB ++ strB 1 (x.rows[i]).path)) ∧ Blk u b1 46 (objC x a) ∧ Blk u b7 114 ((x.rows[i]).cells) ∧ Ext No w u) ?_ ?_
      ·refine zq5 ?_
       refine zq0 (wl_p I_ok rfl (wl (st_ldb I_ok hb7 rfl rfl (zq3 (zq1 (c_cond rfl (fun hc => ?_) (fun hc => ?_)))))))
       ·have his : isB (x.rows[i]).is = 1 := by rw [isB, hc]; rfl
        refine zq0 (wl_p I_ok rfl (zq3 ?_))
        exact zz7 (1) rfl ⟨⟨his.symm, ⟨_, hwb, hwo⟩⟩, hb1, hb7, hX⟩
       ·have his : isB (x.rows[i]).is = 0 := by rw [isB, hc]; rfl
        refine zx7 ?_
        exact zz7 (0) rfl ⟨⟨his.symm, ⟨_, hwb, hwo⟩⟩, hb1, hb7, hX⟩
      rintro z w36 ⟨⟨rfl, ⟨k, hwb, hwo⟩⟩, hb1, hb7, hX⟩
      refine zq5 (zq0 (wl_p I_ok rfl (wl (st_ld I_ok rfl (hwb.cell rfl) (wl_p I_ok rfl ?_)))))
      refine wl (st_bs I_ok rfl 1 rfl rfl rfl (by decide) (by decide) (by simp [partsOk]) (l' := zq6 [isB (x.rows[i]).is]) rfl fun b130 w37 hn130 hb130 hE37 hs37 => ?_)
      have fr130 := Nat.le_trans hX.size hn130
      have hb1 := hb1.zq2 hE37
      have hb7 := hb7.zq2 hE37
      have hwb := hwb.zq2 hE37
      have hwo := hwo.ext hE37 fun _ _ => id
      have hX := hX.zq4 hE37
      have hX0 := hX
      refine wl (zv2 I_ok rfl 1 1 rfl rfl rfl (by decide) hwo (Src.slice (m := 1) ⟨rfl, .inr ⟨b130, 0, rfl, hb130.seg⟩⟩ OneC.h) (by dsimp only [maxLen]; simp only [List.length_append, zj5, zx8, List.length_nil, List.flatten_cons, List.flatten_nil]; omega) (by dsimp only; simp only [List.length_append, zj5, zx8, List.length_nil, List.flatten_cons, List.flatten_nil]; omega) fun p38 c38 w38 ho38 hE38 hB38 => ?_)
      dsimp only at ho38 hE38 hB38 ⊢
      have hb1 := hb1.zq8 hwo hE38 (show (5 : Nat) ≠ 46 from by decide)
      have hb7 := hb7.zq8 hwo hE38 (show (5 : Nat) ≠ 114 from by decide)
      have hX := hX.trans hE38 fun y hy hF => by have := hpn y hF; omega
      have hwb := hwb.zq8 hwo hE38 (show (5 : Nat) ≠ 178 from by decide)
      have hn2 := newW hX0 hpn hB38
      have e3 : (be 1 x.kind.toNat ++ be 1 x.style.toNat ++ [x.tree].flatten ++ be 1 x.parents.length ++ x.parents.flatten ++ [x.base].flatten ++ be 1 x.rows.length ++ (x.rows.take i).flatMap chgB ++ strB 1 (x.rows[i]).path).length + 1 = (be 1 x.kind.toNat ++ be 1 x.style.toNat ++ [x.tree].flatten ++ be 1 x.parents.length ++ x.parents.flatten ++ [x.base].flatten ++ be 1 x.rows.length ++ (x.rows.take i).flatMap chgB ++ strB 1 (x.rows[i]).path ++ [isB (x.rows[i]).is]).length := by simp only [List.length_append, zj5, List.length_cons, List.length_nil]
      obtain ⟨p, k, e1, e2, hwo2⟩ : ∃ p k, p = p38 ∧ k = c38 ∧ Own w38 p (be 1 x.kind.toNat ++ be 1 x.style.toNat ++ [x.tree].flatten ++ be 1 x.parents.length ++ x.parents.flatten ++ [x.base].flatten ++ be 1 x.rows.length ++ (x.rows.take i).flatMap chgB ++ strB 1 (x.rows[i]).path ++ [isB (x.rows[i]).is]).length k 5 1 (zq6 (be 1 x.kind.toNat ++ be 1 x.style.toNat ++ [x.tree].flatten ++ be 1 x.parents.length ++ x.parents.flatten ++ [x.base].flatten ++ be 1 x.rows.length ++ (x.rows.take i).flatMap chgB ++ strB 1 (x.rows[i]).path ++ [isB (x.rows[i]).is])) := ⟨_, _, rfl, rfl, by
       rw [← e3, zz8 (be 1 x.kind.toNat ++ be 1 x.style.toNat ++ [x.tree].flatten ++ be 1 x.parents.length ++ x.parents.flatten ++ [x.base].flatten ++ be 1 x.rows.length ++ (x.rows.take i).flatMap chgB ++ strB 1 (x.rows[i]).path)]
       exact ho38⟩
      rw [← e1] at hn2
      have hpn := hn2
      rw [← e1, ← e2, e3]
      refine wl_p I_ok rfl (wl (st_st I_ok hwb rfl rfl rfl fun w39 hwb2 hE39 hs39 => ?_))
      have hwo := hwo2.zx9 hE39 hwb (by decide)
      have hb1 := hb1.ext1 hE39 (hb1.ne hwb (by decide))
      have hb7 := hb7.ext1 hE39 (hb7.ne hwb (by decide))
      have hX := hX.trans hE39 fun y hy hF => by have hF : y = b14 := hF; omega
      have hwb := hwb2
      refine zq3 (zq1 (zq0 (wl_p I_ok rfl (wl (st_ldb I_ok hb7 rfl rfl ?_)))))
      have hXo := hX
      refine wl (zx2 Tryz.call118 rfl rfl rfl rfl rfl rfl (text_calls w39 ⟨_, hwb, hwo⟩ (x.rows[i]).text (by simp only [List.length_append, zj5, zx8, List.length_cons, List.length_nil, List.flatten_cons, List.flatten_nil]; omega) (by omega)) fun v40 w40 hr40 => ?_)
      obtain ⟨rfl, p, hW2, hn2, hE40⟩ := hr40
      have hb1 := hb1.keepW ⟨_, hwb, hwo⟩ hE40 (by decide) (by decide)
      have hX := Ext.thenW hX hE40 fr14 hpn
      have hpn := newW hXo hpn hn2
      obtain ⟨k40, hwb, hwo⟩ := hW2
      refine zq3 (zx6 (zq1 (zq0 (wl_p I_ok rfl ?_))))
      rw [IntWalk.i64_in _ (by omega)]
      refine zq3 ?_
      exact zv1 (i + 1, p) rfl ⟨⟨hi, by have e : be 1 x.kind.toNat ++ be 1 x.style.toNat ++ [x.tree].flatten ++ be 1 x.parents.length ++ x.parents.flatten ++ [x.base].flatten ++ be 1 x.rows.length ++ (x.rows.take (i + 1)).flatMap chgB = be 1 x.kind.toNat ++ be 1 x.style.toNat ++ [x.tree].flatten ++ be 1 x.parents.length ++ x.parents.flatten ++ [x.base].flatten ++ be 1 x.rows.length ++ (x.rows.take i).flatMap chgB ++ strB 1 (x.rows[i]).path ++ [isB (x.rows[i]).is] ++ strB 2 (x.rows[i]).text := (by rw [flat_take hi, chgB]; simp); rw [e]; exact ⟨_, hwb, hwo⟩, hpn⟩, hb1, hX⟩ (by first | omega | (dsimp only; omega))
     ·have h0 : i = x.rows.length := by omega
      subst h0
      rw [List.take_length] at hwb hwo
      have hfl : (x.rows.flatMap chgB).length ≤ x.rows.length * 400 := flat_le fun r hr => chgB_le (hp48 r hr)
      refine c_exit (zx3 (zx3 (zz0 (zq1 (zq5 ?_)))))
      refine c_draw rfl 13 [(0, true), (1, true), (2, true), (3, true), (4, true), (5, true), (6, true), (8, true), (9, true), (7, false), (10, false), (11, true), (12, true)] [13] (No) (by kernel_rfl) fun w41 hE41 hs41 => ?_
      have hd1 := hb1
      have hwbd := hwb
      have hb1 := hb1.zq2 hE41
      have hwb := hwb.zq2 hE41
      have hwo := hwo.ext hE41 fun _ _ => id
      have hX := hX.zq4 hE41
      have hC : Ext (No) _ w41 := hE41.no
      refine wd_k I_ok 4 rfl (wd_ld I_ok rfl rfl (fun w' hw' => ((hwbd.zq2 hw').cell rfl)) ?_)
      refine wd_k I_ok 1 rfl (wd_ld I_ok rfl rfl (fun w' hw' => ((hd1.zq2 hw').seg.obj hx).number) ?_)
      refine wd_k I_ok 1 rfl (wd_ld I_ok rfl rfl (fun w' hw' => ((hd1.zq2 hw').seg.obj hx).author) ?_)
      refine wd_l rfl (zx2 Tryz.call121 rfl rfl rfl rfl rfl rfl (put32_calls w41 hwo.sl (by simp only [List.length_append, zj5, List.length_nil, List.flatten_cons, List.flatten_nil]; omega) x.number hx.number) fun v42 w42 hr42 => ⟨(by obtain ⟨bp, rfl, hnp, hbp, hE42⟩ := hr42; exact hC.zq4 hE42), ?_⟩)
      obtain ⟨bp, rfl, hnp, hbp, hE42⟩ := hr42
      have hb1 := hb1.zq2 hE42
      have hwb := hwb.zq2 hE42
      have hX := hX.zq4 hE42
      have hC := hC.zq4 hE42
      have hX0 := hX
      refine wd_l rfl (zx2 Tryz.call121 rfl rfl rfl rfl rfl rfl (put32_calls w42 (l := be 1 x.kind.toNat ++ be 1 x.style.toNat ++ [x.tree].flatten ++ be 1 x.parents.length ++ x.parents.flatten ++ [x.base].flatten ++ be 1 x.rows.length ++ x.rows.flatMap chgB ++ be 4 x.number) (p := some ⟨bp, 0, none⟩) ⟨by rw [zx0, Nat.mul_one], .inr ⟨bp, 0, rfl, hbp.seg⟩⟩ (by simp only [List.length_append, zj5, List.length_nil, List.flatten_cons, List.flatten_nil]; omega) x.author hx.author) fun v43 w43 hr43 => ⟨(by obtain ⟨bp, rfl, hnp, hbp, hE43⟩ := hr43; exact hC.zq4 hE43), ?_⟩)
      obtain ⟨bp, rfl, hnp, hbp, hE43⟩ := hr43
      have hb1 := hb1.zq2 hE43
      have hwb := hwb.zq2 hE43
      have hX := hX.zq4 hE43
      obtain ⟨p, k, hp, hk, hwo2⟩ : ∃ p k, p = some ⟨bp, 0, none⟩ ∧ k = (be 1 x.kind.toNat ++ be 1 x.style.toNat ++ [x.tree].flatten ++ be 1 x.parents.length ++ x.parents.flatten ++ [x.base].flatten ++ be 1 x.rows.length ++ x.rows.flatMap chgB ++ be 4 x.number ++ be 4 x.author).length ∧ Own w43 p (be 1 x.kind.toNat ++ be 1 x.style.toNat ++ [x.tree].flatten ++ be 1 x.parents.length ++ x.parents.flatten ++ [x.base].flatten ++ be 1 x.rows.length ++ x.rows.flatMap chgB ++ be 4 x.number ++ be 4 x.author).length k 5 1 (zq6 (be 1 x.kind.toNat ++ be 1 x.style.toNat ++ [x.tree].flatten ++ be 1 x.parents.length ++ x.parents.flatten ++ [x.base].flatten ++ be 1 x.rows.length ++ x.rows.flatMap chgB ++ be 4 x.number ++ be 4 x.author)) := ⟨_, _, rfl, rfl, by
       have := Own.blk (n := (be 1 x.kind.toNat ++ be 1 x.style.toNat ++ [x.tree].flatten ++ be 1 x.parents.length ++ x.parents.flatten ++ [x.base].flatten ++ be 1 x.rows.length ++ x.rows.flatMap chgB ++ be 4 x.number ++ be 4 x.author).length) (c := (be 1 x.kind.toNat ++ be 1 x.style.toNat ++ [x.tree].flatten ++ be 1 x.parents.length ++ x.parents.flatten ++ [x.base].flatten ++ be 1 x.rows.length ++ x.rows.flatMap chgB ++ be 4 x.number ++ be 4 x.author).length) hbp 1 (by rw [zx0, Nat.mul_one]) (Nat.le_refl _) (by dsimp only [maxLen]; simp only [List.length_append, zj5, List.length_nil, List.flatten_cons, List.flatten_nil]; omega)
       rw [List.take_of_length_le (by rw [zx0, Nat.mul_one]; exact Nat.le_refl _)] at this
       exact this⟩
      have hpn : ∀ y, OwnB p y → w.heap.size ≤ y := fun y hy => by rw [hp] at hy; have e : bp = y := congrArg Addr.block (Option.some.inj hy); have := hX0.size; omega
      rw [← hp]
      rw [show Value.slice p (be 1 x.kind.toNat ++ be 1 x.style.toNat ++ [x.tree].flatten ++ be 1 x.parents.length ++ x.parents.flatten ++ [x.base].flatten ++ be 1 x.rows.length ++ x.rows.flatMap chgB ++ be 4 x.number ++ be 4 x.author).length (be 1 x.kind.toNat ++ be 1 x.style.toNat ++ [x.tree].flatten ++ be 1 x.parents.length ++ x.parents.flatten ++ [x.base].flatten ++ be 1 x.rows.length ++ x.rows.flatMap chgB ++ be 4 x.number ++ be 4 x.author).length = .slice p (be 1 x.kind.toNat ++ be 1 x.style.toNat ++ [x.tree].flatten ++ be 1 x.parents.length ++ x.parents.flatten ++ [x.base].flatten ++ be 1 x.rows.length ++ x.rows.flatMap chgB ++ be 4 x.number ++ be 4 x.author).length k from by rw [hk]]
      refine wd_k I_ok 2 rfl (wd_sw (wb rfl (st_st I_ok hwb rfl rfl rfl fun w44 hwb2 hE44 hs44 => ?_)))
      have hwo := hwo2.zx9 hE44 hwb (by decide)
      have hb1 := hb1.ext1 hE44 (hb1.ne hwb (by decide))
      have hX := hX.trans hE44 fun y hy hF => by have hF : y = b14 := hF; omega
      have hwb := hwb2
      refine zv0 (zq1 (zq0 (wl_p I_ok rfl (wl (st_ld I_ok rfl (hb1.seg.obj hx).note ?_)))))
      have hXo := hX
      refine wl (zx2 Tryz.call119 rfl rfl rfl rfl rfl rfl (small_calls w44 ⟨_, hwb, hwo⟩ x.note (by simp only [List.length_append, zj5, List.length_nil, List.flatten_cons, List.flatten_nil]; omega)) fun v45 w45 hr45 => ?_)
      obtain ⟨rfl, p, hW2, hn2, hE45⟩ := hr45
      have hX := Ext.thenW hX hE45 fr14 hpn
      have hpn := newW hXo hpn hn2
      obtain ⟨k45, hwb, hwo⟩ := hW2
      refine zq3 ?_
      exact zx6 (zz7 (p) rfl ⟨⟨by have e : laidB x = be 1 x.kind.toNat ++ be 1 x.style.toNat ++ [x.tree].flatten ++ be 1 x.parents.length ++ x.parents.flatten ++ [x.base].flatten ++ be 1 x.rows.length ++ x.rows.flatMap chgB ++ be 4 x.number ++ be 4 x.author ++ strB 1 x.note := (by rw [laidB, if_neg h1, if_neg h2, comB]; simp only [List.append_assoc, List.flatten_cons, List.flatten_nil, List.append_nil]); rw [e]; exact ⟨_, hwb, hwo⟩, hpn⟩, hX⟩)
    ·exact absurd hf (fields0 h1 h2 hc)
 rintro p w46 ⟨⟨⟨k, hwb, hwo⟩, hpn⟩, hX⟩
 refine zq5 (zq0 (wl_p I_ok rfl (wl (st_ld I_ok rfl (hwb.cell rfl) (wl_p I_ok rfl (zq3 (zq1 (zj0 (zz2 rfl rfl ?_)))))))))
 exact ⟨p, k, rfl, hwo, hpn, hX⟩
abbrev objE (x : ObjD) : Int := if ObjOk x then 0 else 160
def encB (x : ObjD) : List UInt8 := if ObjOk x then laidB x else []
def idB (x : ObjD) : List UInt8 := if ObjOk x then idOf x else idZ
theorem noOwn {n : Nat} : ∀ b, OwnB none b → n ≤ b := fun _ h => by cases h
def linksB (x : ObjD) : List (List UInt8) := if ObjOk x then zj3 x else []
theorem checkObj_calls (w : World) {x : ObjD} {a : ObjP} (hx : ObjIn x) (hxl : ObjL w x a) (hsx : Short x) :
  zz1 Tryz.prog 62 [.agg (objC x a).toArray] w fun v w' => v = .int .i64 (objE x) ∧ Ext No w w' := by
 refine zq9 Tryz.func62 rfl rfl rfl rfl ?_
 have hX := Ext.refl No w
 refine zq5 (zq0 (wl (zz9 I_ok rfl fun b1 w1 hn1 hb1 hE1 => ?_)))
 have hX := hX.zq4 hE1
 have hb1 : Blk w1 b1 46 (objC x a) := hb1
 refine wl_p I_ok rfl (zq3 (zq1 (zq5 (c_cutK (α := Bool) [] rfl (fun z => [(11, .bool z)]) (fun z u => (z = decide (¬ ObjOk x)) ∧ Ext No w u) ?_ ?_))))
 ·refine zq0 ?_
  refine wl (zj2 I_ok hb1 rfl (zq7 hx) (wl (zx2 Tryz.call117 rfl rfl rfl rfl rfl rfl (fielded_calls w1 hx (hxl.zq2 hX) hsx) fun v2 w2 hr2 => ?_)))
  obtain ⟨rfl, hE2⟩ := hr2
  have hb1 := hb1.zq2 hE2
  have hX := hX.zq4 hE2
  refine wl_p I_ok rfl (wl_case 6 rfl (fun hg => ?_) (fun hg => ?_))
  ·have hf : ¬ FieldsOk x := by simpa using hg
   refine zz5 I_ok 5 rfl (zq3 ?_)
   exact zz7 (true) rfl ⟨by symm; rw [decide_eq_true_eq]; exact fun h => hf h.1, hX⟩
  ·have hf : FieldsOk x := by simpa using hg
   refine wl (zj2 I_ok hb1 rfl (zq7 hx) (wl (zx2 Tryz.call63 rfl rfl rfl rfl rfl rfl (laid_calls w2 hx (hxl.zq2 hX) hf) fun v3 w3 hr3 => ?_)))
   obtain ⟨q, k, rfl, hq, hqn, hE3⟩ := hr3
   have hX := hX.zq4 hE3
   refine zz5 I_ok 3 rfl (zq3 ?_)
   exact zz7 (_) rfl ⟨by rw [decide_eq_decide]; exact ⟨fun h hk => by have := hk.2; omega, fun h => by have : ¬ (laidB x).length ≤ 800 := fun h2 => h ⟨hf, h2⟩; omega⟩, hX⟩
 rintro z w4 ⟨rfl, hX⟩
 refine c_if rfl (fun hc => ?_) (fun hc => ?_)
 ·refine zq5 ?_
  refine zq0 (wl_p I_ok rfl (zq3 (zq1 (zj0 (zx5 (zz2 rfl rfl ?_))))))
  exact ⟨by rw [objE, if_neg hc], hX⟩
 ·refine zx7 ?_
  refine zq1 (zq5 (zq0 (wl_p I_ok rfl (zq3 (zq1 (zj0 (zz2 rfl rfl ?_)))))))
  exact ⟨by rw [objE, if_pos (Decidable.not_not.1 hc)], hX⟩
theorem encode_calls (w : World) {x : ObjD} {a : ObjP} (hx : ObjIn x) (hxl : ObjL w x a) (hsx : Short x) :
  zz1 Tryz.prog 27 [.agg (objC x a).toArray] w fun v w' => ∃ q k, v = .tuple #[.slice q (encB x).length k, .int .i64 (objE x)] ∧ Own w' q (encB x).length k 5 1 (zq6 (encB x)) ∧ (∀ b, OwnB q b → w.heap.size ≤ b) ∧ Ext No w w' := by
 refine zq9 Tryz.func27 rfl rfl rfl rfl ?_
 have hX := Ext.refl No w
 refine zq5 (zq0 (wl (zz9 I_ok rfl fun b1 w1 hn1 hb1 hE1 => ?_)))
 have hX := hX.zq4 hE1
 have hb1 : Blk w1 b1 46 (objC x a) := hb1
 refine wl_p I_ok rfl (zq3 (zq1 (zq5 (zq5 (zq0 (wl (zj2 I_ok hb1 rfl (zq7 hx) (wl (zx2 Tryz.call62 rfl rfl rfl rfl rfl rfl (checkObj_calls w1 hx (hxl.zq2 hX) hsx) fun v2 w2 hr2 => ?_)))))))))
 obtain ⟨rfl, hE2⟩ := hr2
 have hb1 := hb1.zq2 hE2
 have hX := hX.zq4 hE2
 refine wl_p I_ok rfl (zq3 (zq1 (zq5 (zq0 (wl_p I_ok rfl (zq3 (zq1 (c_if rfl (fun hc => ?_) (fun hc => ?_)))))))))
 ·have hk : ¬ ObjOk x := fun h => hc (if_pos h)
  refine zq5 (zq0 (wl_p I_ok rfl (zq3 (zq1 (zj0 (zx5 (f_ret [_, _] ⟨rfl, rfl, trivial⟩ ?_)))))))
  exact ⟨none, 0, by rw [encB, if_neg hk]; rfl, by rw [encB, if_neg hk]; exact Own.nil _ _ _, noOwn, hX⟩
 ·have hk : ObjOk x := (if_zero (by decide)).1 (Decidable.not_not.1 hc)
  refine zx7 (zq1 (zq5 (zq0 (wl (zj2 I_ok hb1 rfl (zq7 hx) ?_)))))
  have hX0 := hX
  refine wl (zx2 Tryz.call63 rfl rfl rfl rfl rfl rfl (laid_calls w2 hx (hxl.zq2 hX) hk.1) fun v3 w3 hr3 => ?_)
  obtain ⟨q, k, rfl, hq, hqn, hE3⟩ := hr3
  have hX := hX.zq4 hE3
  refine wl_p I_ok rfl (zq3 (zq1 (zj0 (f_ret [_, _] ⟨rfl, rfl, trivial⟩ ?_))))
  exact ⟨q, k, by rw [encB, if_pos hk, objE, if_pos hk]; rfl, by rw [encB, if_pos hk]; exact hq, fun b h => Nat.le_trans hX0.size (hqn b h), hX⟩
theorem idObj_calls (w : World) {x : ObjD} {a : ObjP} (hx : ObjIn x) (hxl : ObjL w x a) (hsx : Short x) (hr : Seg w 0 0 (wordsV rootsW)) :
  zz1 Tryz.prog 28 [.agg (objC x a).toArray] w fun v w' => v = .tuple #[.agg (zq6 (idB x)).toArray, .int .i64 (objE x)] ∧ Ext No w w' := by
 refine zq9 Tryz.func28 rfl rfl rfl rfl ?_
 have hX := Ext.refl No w
 refine zq5 (zq0 (wl (zz9 I_ok rfl fun b1 w1 hn1 hb1 hE1 => ?_)))
 have hX := hX.zq4 hE1
 have hb1 : Blk w1 b1 46 (objC x a) := hb1
 refine wl (zz9 I_ok rfl fun b2 w2 hn2 hb2 hE2 => ?_)
 have fr2 := Nat.le_trans hX.size hn2
 have hb1 := hb1.zq2 hE2
 have hX := hX.zq4 hE2
 refine wl_p I_ok rfl (zq3 (zq1 (zq5 (zq0 (wl (zj2 I_ok hb1 rfl (zq7 hx) (wl (zx2 Tryz.call27 rfl rfl rfl rfl rfl rfl (encode_calls w2 hx (hxl.zq2 hX) hsx) fun v3 w3 hr3 => ?_))))))))
 obtain ⟨q, k, rfl, hq, hqn, hE3⟩ := hr3
 have hb2 := hb2.zq2 hE3
 have hX := hX.zq4 hE3
 refine wl_p I_ok rfl (zq3 (zq1 (zq5 (zq5 (zq0 (wl_p I_ok rfl (zq3 (zq1 (c_if rfl (fun hc => ?_) (fun hc => ?_))))))))))
 ·have hk : ¬ ObjOk x := fun h => hc (if_pos h)
  refine zq5 (zq0 (wl (st_bd I_ok rfl trivial (l' := zq6 idZ) idZ_c.symm (wl_p I_ok rfl (wl (zj1 (l' := zq6 idZ) I_ok hb2 rfl rfl rfl rfl OneC.h fun w4 hb2 hE4 hs4 => ?_))))))
  have hX := hX.zx1 hE4 fr2
  refine wl_p I_ok rfl (zq3 (zq1 (zj0 (zx5 (f_ret [_, _] ⟨⟨b2, 0, rfl, ld_all I_ok rfl rfl hb2.seg rfl⟩, rfl, trivial⟩ ?_)))))
  exact ⟨by rw [idB, if_neg hk]; rfl, hX⟩
 ·have hk : ObjOk x := (if_zero (by decide)).1 (Decidable.not_not.1 hc)
  have hkl := hk.2
  have he : encB x = laidB x := if_pos hk
  rw [he] at hq ⊢
  refine zx7 (zq1 (zq5 (zq0 (wl_p I_ok rfl (wl (zx2 Tryz.call64 rfl rfl rfl rfl rfl rfl (sum_calls w3 hq.sl (by omega) (hr.zq2 hX)) fun v5 w5 hr5 => ?_))))))
  obtain ⟨rfl, hE5⟩ := hr5
  have hb2 := hb2.zq2 hE5
  have hX := hX.zq4 hE5
  refine wl (zj1 (l' := zq6 (sumW (laidB x))) I_ok hb2 rfl rfl (by rw [zx0, sumW_len]) (by rw [zx0, sumW_len]; rfl) OneC.h fun w6 hb2 hE6 hs6 => ?_)
  have hX := hX.zx1 hE6 fr2
  refine wl_p I_ok rfl (zq3 (zq1 (zj0 (f_ret [_, _] ⟨⟨b2, 0, rfl, ld_all I_ok rfl rfl hb2.seg (by rw [zx0, sumW_len]; rfl)⟩, rfl, trivial⟩ ?_))))
  exact ⟨by rw [idB, if_pos hk, objE, if_pos hk]; rfl, hX⟩
theorem one_idS {w : World} {b : Nat} {r : List UInt8} (h : IdIn r) (hb : Blk w b 31 (zq6 r)) : Sl w (some ⟨b, 0, none⟩) 1 32 (zq6 r) := ⟨h.len, .inr ⟨b, 0, rfl, hb.seg⟩⟩
theorem links_calls (w : World) {x : ObjD} {a : ObjP} (hx : ObjIn x) (hxl : ObjL w x a) (hsx : Short x) :
  zz1 Tryz.prog 133 [.agg (objC x a).toArray] w fun v w' => ∃ q k, v = .slice q (linksB x).length k ∧ Own w' q (linksB x).length k 31 32 ((linksB x).flatMap zq6) ∧ (∀ b, OwnB q b → w.heap.size ≤ b) ∧ Ext No w w' := by
 refine zq9 Tryz.func133 rfl rfl rfl rfl ?_
 have hX := Ext.refl No w
 refine zq5 (zq0 (wl (zz9 I_ok rfl fun b1 w1 hn1 hb1 hE1 => ?_)))
 have hX := hX.zq4 hE1
 have hb1 : Blk w1 b1 46 (objC x a) := hb1
 refine wl_p I_ok rfl (zq3 (zq1 (zq5 (zq5 (zq0 (wl (zj2 I_ok hb1 rfl (zq7 hx) (wl (zx2 Tryz.call62 rfl rfl rfl rfl rfl rfl (checkObj_calls w1 hx (hxl.zq2 hX) hsx) fun v2 w2 hr2 => ?_)))))))))
 obtain ⟨rfl, hE2⟩ := hr2
 have hb1 := hb1.zq2 hE2
 have hX := hX.zq4 hE2
 refine wl_p I_ok rfl (zq3 (zq1 (c_if rfl (fun hc => ?_) (fun hc => ?_))))
 ·have hk : ¬ ObjOk x := fun h => hc (if_pos h)
  refine zq5 (zq0 (wl_p I_ok rfl (zq3 (zq1 (zj0 (zx5 (zz2 rfl rfl ?_)))))))
  exact ⟨none, 0, by rw [linksB, if_neg hk]; rfl, by rw [linksB, if_neg hk]; exact Own.nil _ _ _, noOwn, hX⟩
 ·have hk : ObjOk x := (if_zero (by decide)).1 (Decidable.not_not.1 hc)
  have he : linksB x = zj3 x := if_pos hk
  refine zx7 (zq1 (zq5 (zq0 (wl_p I_ok rfl (zq3 (zq1 ?_))))))
  refine c_cutK (α := Option Addr × Nat) [] rfl (fun z => [(3, .slice z.1 (zj3 x).length z.2)]) (fun z u => (Own u z.1 (zj3 x).length z.2 31 32 ((zj3 x).flatMap zq6) ∧ ∀ b, OwnB z.1 b → w.heap.size ≤ b) ∧ Ext No w u) ?_ ?_
  ·refine zq5 ?_
   refine zq0 (wl_p I_ok rfl (wl (st_ld I_ok rfl (hb1.seg.obj hx).kind (zq3 (zq1 (zx4 (zq5 (zq0 (wl_p I_ok rfl (zq3 (zq1 (c_if rfl (fun hc => ?_) (fun hc => ?_)))))))))))))
   ·have h2 : x.kind = 2 := hc
    refine zq5 (zq0 (wl_p I_ok rfl (wl (st_ld I_ok rfl (hb1.seg.obj hx).leaves (wl_p I_ok rfl (zq3 (zq1 (zx4 ?_))))))))
    refine zv3 (α := Nat × Option Addr × Nat) [14, 15] rfl (fun z => [(3, .slice z.2.1 z.1 z.2.2), (16, .int .i64 (z.1 : Int))]) (fun z u => (z.1 ≤ x.leaves.length ∧ Own u z.2.1 z.1 z.2.2 31 32 (((x.leaves.take z.1).map zj8.id).flatMap zq6) ∧ (∀ y, OwnB z.2.1 y → w.heap.size ≤ y)) ∧ Ext No w u) (fun z u => x.leaves.length - z.1) (0, none, 0) rfl ⟨⟨Nat.zero_le _, Own.nil _ _ _, noOwn⟩, hX⟩ ?_
    rintro ⟨i, q, k⟩ w3 ⟨⟨hi, hq, hqn⟩, hX⟩
    try dsimp only
    dsimp only at hi hq hqn
    refine zq5 (zq0 (wl_p I_ok rfl (zq3 (zq1 (zq5 (c_if rfl (fun hc => ?_) (fun hc => ?_)))))))
    ·have hi : i < x.leaves.length := by omega
     obtain ⟨qb, qoff, hp, hsq⟩ := hxl.leaves.rowAll (fun r hr => zj8.len (hx.leaves r hr).2) (by omega)
     rw [hp]
     have hll := hsx.leaves
     have ha1 := hx.leaves _ (List.getElem_mem hi)
     refine zx7 (zq1 (zq5 (zx4 (zq5 (zq0 (wl (st_ix I_ok rfl 33 rfl i rfl (by omega) (qoff + i * 33) rfl (wl (st_ldN I_ok rfl ((hsq i hi).zq2 hX) (zj8.len ha1.2) (wl (zz9 I_ok rfl fun b5 w4 hn5 hb5 hE4 => ?_)))))))))))
     have fr5 := Nat.le_trans hX.size hn5
     have hq := hq.ext hE4 fun _ _ => id
     have hX := hX.zq4 hE4
     have hb5o := hb5
     refine wl (zj1 (l' := (x.leaves[i]).cells) I_ok hb5 rfl rfl (zj8.len ha1.2) (zj8.len ha1.2) OneC.h fun w5 hb5 hE5 hs5 => ?_)
     have hq := hq.zx9 hE5 hb5o (by decide)
     have hX := hX.zx1 hE5 fr5
     refine zq3 (zq1 (zq0 (wl_p I_ok rfl (wl (st_ldN I_ok rfl (by have := hb5.seg.drop 1; exact this) (IdIn.len ha1.2) ?_)))))
     have ha5 : IdIn (x.leaves[i]).id := ha1.2
     refine wl (st_bs I_ok rfl 32 rfl idZ_c.symm (by rw [zx0]; rfl) (by decide) (by decide) ⟨⟨by rw [zj9]; exact (IdIn.len ha1.2), by decide⟩, trivial⟩ (l' := zq6 (x.leaves[i]).id) (one_id ha1.2) fun b23 w6 hn23 hb23 hE6 hs6 => ?_)
     have hq := hq.ext hE6 fun _ _ => id
     have hX := hX.zq4 hE6
     have hX0 := hX
     refine wl (zv2 I_ok rfl 32 32 rfl rfl rfl (by decide) hq (Src.slice (m := 1) (one_idS ha5 hb23) OneC.h) (by dsimp only [maxLen]; omega) (by dsimp only; omega) fun p7 c7 w7 ho7 hE7 hB7 => ?_)
     dsimp only at ho7 hE7 hB7 ⊢
     have hX := hX0.trans hE7 fun y hy hF => by have := hqn y hF; omega
     have hqn2 := newW hX0 hqn hB7
     have hq2 : Own w7 p7 (i + 1) c7 31 32 (((x.leaves.take (i + 1)).map zj8.id).flatMap zq6) := by
      have e1 : ((x.leaves.take (i + 1)).map zj8.id).flatMap zq6 = ((x.leaves.take i).map zj8.id).flatMap zq6 ++ zq6 (x.leaves[i]).id := by
       rw [List.take_succ_eq_append_getElem hi, List.map_append, List.flatMap_append]
       simp
      rw [e1]
      exact ho7
     refine wl_p I_ok rfl (zq3 (zx6 (zq1 (zq0 (wl_p I_ok rfl ?_)))))
     rw [IntWalk.i64_in _ (by omega)]
     refine zq3 ?_
     exact zv1 (i + 1, p7, c7) rfl ⟨⟨hi, hq2, hqn2⟩, hX⟩ (by first | omega | (dsimp only; omega))
    ·have h0 : i = x.leaves.length := by omega
     subst h0
     rw [List.take_length] at hq
     have e2 : zj3 x = x.leaves.map zj8.id := by rw [zj3, if_pos h2]
     have e3 : (zj3 x).length = x.leaves.length := by rw [e2, List.length_map]
     refine c_exit ?_
     exact zx3 (zx3 (zz0 (zx6 (zz7 (q, k) (by rw [e3]; rfl) ⟨⟨by rw [e3, e2]; exact hq, hqn⟩, hX⟩))))
   ·have h2 : ¬ x.kind = 2 := hc
    refine zq5 (zq0 (wl_p I_ok rfl (zq3 (zq1 (c_if rfl (fun hc => ?_) (fun hc => ?_))))))
    ·have h3 : x.kind = 3 := hc
     have hpl := hsx.parents
     have e2 : zj3 x = x.tree :: x.parents := by rw [zj3, if_neg h2, if_pos h3]
     have e3 : 1 + x.parents.length = (zj3 x).length := by rw [e2, List.length_cons]; omega
     refine c_draw rfl 9 [(0, true), (1, true), (2, true), (5, true), (6, true), (3, false), (4, false), (7, false), (8, true)] [] (No) (by kernel_rfl) fun w8 hE8 hs8 => ?_
     have hd1 := hb1
     have hX := hX.zq4 hE8
     have hC : Ext (No) _ w8 := hE8.no
     refine wd_k I_ok 2 rfl (wd_ldN I_ok rfl rfl (fun w' hw' => ((hd1.zq2 hw').seg.obj hx).tree) (IdIn.len hx.tree) ?_)
     refine wd_k I_ok 1 rfl (wd_ld I_ok rfl rfl (fun w' hw' => ((hd1.zq2 hw').seg.obj hx).parents) ?_)
     have ha5 : IdIn x.tree := hx.tree
     refine wd_l rfl (st_bs I_ok rfl 32 rfl idZ_c.symm (by rw [zx0]; rfl) (by decide) (by decide) ⟨⟨by rw [zj9]; exact (IdIn.len hx.tree), by decide⟩, trivial⟩ (l' := zq6 x.tree) (one_id hx.tree) fun b31 w9 hn31 hb31 hE9 hs9 => ⟨hC.zq4 hE9, ?_⟩)
     have hX := hX.zq4 hE9
     have hC := hC.zq4 hE9
     have hX0 := hX
     have hC0 := hC
     refine wd_l rfl (zv2 I_ok rfl 32 32 rfl rfl rfl (by decide) (Own.nil _ _ _) (Src.slice (m := 1) (one_idS ha5 hb31) OneC.h) (by dsimp only [maxLen]; omega) (by dsimp only; omega) fun p10 c10 w10 ho10 hE10 hB10 => ⟨hC.trans hE10 (fun y hy hF => (by cases hF)), ?_⟩)
     have hC := hC.trans hE10 (fun y hy hF => (by cases hF))
     dsimp only at ho10 hE10 hB10 ⊢
     have hX := hX0.trans hE10 fun y hy hF => by cases hF
     have hn1 : ∀ y, OwnB p10 y → w.heap.size ≤ y := fun y hy => (hB10 y hy).elim (fun h => by cases h) fun h => Nat.le_trans hX0.size h
     have hnc : ∀ y, OwnB p10 y → _ := fun y hy => (hB10 y hy).elim (fun h => by cases h) fun h => Nat.le_trans hC0.size h
     have ho1 : Own w10 p10 1 c10 31 32 (zq6 x.tree) := by have := ho10; rw [List.nil_append] at this; exact this
     have hX0 := hX
     refine wd_l rfl (zv2 I_ok rfl 32 32 rfl rfl rfl (by decide) ho1 (Src.slice (hxl.parents.zq2 hX) OneC.h) (by dsimp only [maxLen]; omega) (by dsimp only; omega) fun p11 c11 w11 ho11 hE11 hB11 => ⟨hC.trans hE11 (fun y hy hF => (by have := hnc y hF; omega)), ?_⟩)
     dsimp only at ho11 hE11 hB11 ⊢
     have hX := hX0.trans hE11 fun y hy hF => by have := hn1 y hF; omega
     have hqn2 := newW hX0 hn1 hB11
     rw [e3] at ho11 ⊢
     refine wd_k I_ok 1 rfl (wd_sw (zv0 ?_))
     exact zx6 (zz7 (p11, c11) rfl ⟨⟨by rw [show (zj3 x).flatMap zq6 = zq6 x.tree ++ x.parents.flatMap zq6 from by rw [e2]; rfl]; exact ho11, hqn2⟩, hX⟩)
    ·have h3 : ¬ x.kind = 3 := hc
     have e2 : zj3 x = [] := by rw [zj3, if_neg h2, if_neg h3]
     refine zx7 ?_
     exact zx6 (zz7 (none, 0) (by rw [e2]; rfl) ⟨⟨by rw [e2]; exact Own.nil _ _ _, noOwn⟩, hX⟩)
  rintro ⟨q, k⟩ w12 ⟨⟨hq, hqn⟩, hX⟩
  try dsimp only
  dsimp only at hq hqn
  refine zq5 (zq0 (wl_p I_ok rfl (zq3 (zq1 (zj0 (zz2 rfl rfl ?_))))))
  exact ⟨q, k, by rw [he], by rw [he]; exact hq, hqn, hX⟩
end Go.Proofs.YtpcdihkcenfgkaaGreatDoor
namespace Go.Vc
abbrev idV (x : List UInt8) : Value := .agg (zq6 x).toArray
theorem idV_inj {x y : List UInt8} (h : idV x = idV y) : x = y := by
 injection h with h
 exact bytesU_inj (by simpa using h)
def MapB {β : Type} (w : World) (r : Nat) (enc : β → Value) (f : List UInt8 → Option β) : Prop :=
  ∃ es clock, w.heap[r]? = some (.map es clock) ∧ (∀ e ∈ es.toList, ∃ x b, x.length = 32 ∧ e.key = idV x ∧ e.val = enc b ∧ f x = some b) ∧
    (∀ x b, f x = some b → ∃ e ∈ es.toList, e.key = idV x) ∧ (es.toList.map (·.key)).Nodup ∧ (∀ e ∈ es.toList, e.born < clock) ∧ (es.toList.map (·.born)).Nodup
structure IdKey (P : Program) (k : TypeId) : Prop where
  law : WideMaps.KeyLaw P k
  key : ∀ x : List UInt8, x.length = 32 → ∃ l, keyOf P k (idV x) = some l
theorem MapB.lt {β : Type} {w : World} {r : Nat} {enc : β → Value} {f : List UInt8 → Option β} (h : MapB w r enc f) : r < w.heap.size := by
 obtain ⟨es, c, h, _⟩ := h
 rcases Nat.lt_or_ge r w.heap.size with h' | h'
 ·exact h'
 ·rw [Array.getElem?_eq_none h'] at h; cases h
theorem MapB.ext {β : Type} {S : Nat → Prop} {w w' : World} {r : Nat} {enc : β → Value} {f : List UInt8 → Option β} (h : MapB w r enc f) (hE : Ext S w w') (hS : ¬ S r) : MapB w' r enc f := by
 have hlt := h.lt
 obtain ⟨es, c, h, r1⟩ := h
 exact ⟨es, c, (hE.same r hlt hS).trans h, r1⟩
theorem MapB.zq2 {β : Type} {w w' : World} {r : Nat} {enc : β → Value} {f : List UInt8 → Option β} (h : MapB w r enc f) (hE : Ext No w w') : MapB w' r enc f := h.ext hE id
theorem MapB.ne {β : Type} {w : World} {r b T : Nat} {L : List Value} {enc : β → Value} {f : List UInt8 → Option β} (h : MapB w r enc f) (hb : Blk w b T L) : r ≠ b := fun e => by
 obtain ⟨es, c, h, _⟩ := h
 rw [e] at h
 rw [Blk, h] at hb
 cases hb
theorem MapB.ext1 {β : Type} {w w' : World} {r b T : Nat} {L : List Value} {enc : β → Value} {f : List UInt8 → Option β} (h : MapB w r enc f) (hE : Ext (One b) w w') (hb : Blk w b T L) : MapB w' r enc f := h.ext hE (h.ne hb)
theorem MapB.zq8 {β : Type} {w w' : World} {r : Nat} {enc : β → Value} {f : List UInt8 → Option β} (h : MapB w r enc f) {p : Option Addr} {n c T sz : Nat} {xs : List Value} (ho : Own w p n c T sz xs) (hE : Ext (OwnB p) w w') : MapB w' r enc f :=
 h.ext hE fun hx => by
  rcases ho with ⟨hp, _⟩ | ⟨b, l, hp, hb, _⟩
  ·rw [hp] at hx; cases hx
  ·rw [hp] at hx
   obtain rfl : b = r := by simpa using hx
   exact h.ne hb rfl
section
variable {P : Program} {I : Info} {f : Fs} {ops : Array Oper} {o : Oper} {env : Env} {w : World} {K : Env → World → Prop}
theorem ext_setMap {w : World} {r : Nat} {es : Array MapEntry} {c : Nat} (h : w.heap[r]? = some (.map es c)) (es' : Array MapEntry) (c' : Nat) :
  Ext (One r) w { w with heap := w.heap.setIfInBounds r (.map es' c') } ∧ ({ w with heap := w.heap.setIfInBounds r (.map es' c') } : World).heap.size = w.heap.size ∧ ({ w with heap := w.heap.setIfInBounds r (.map es' c') } : World).heap[r]? = some (.map es' c') := by
 have hlt : r < w.heap.size := by
  rcases Nat.lt_or_ge r w.heap.size with h' | h'
  ·exact h'
  ·rw [Array.getElem?_eq_none h'] at h; cases h
 refine ⟨⟨rfl, rfl, rfl, by simp, fun b hb hS => ?_, Nat.le_refl _⟩, by simp, by simp [hlt]⟩
 exact Array.getElem?_setIfInBounds_ne (fun e' => hS e'.symm)
def mmE (n : Nat) (ops : Array Oper) (env : Env) (o : Oper) : Option Nat :=
  match pre n ops env o with
  | false => none
  | true => match o.dst with
    | some d => match o.op with
      | .makeMap _ none => some d
      | _ => none
    | none => none
theorem st_mm {β : Type} (enc : β → Value) {d : Nat} (h : mmE f.n ops env o = some d)
  (k : ∀ (r : Nat) w', w.heap.size ≤ r → MapB w' r enc (fun _ => none) → Ext No w w' → w'.heap.size = w.heap.size + 1 → K ((d, .map (some r)) :: env) w') : St P f ops o env w K := by
 unfold mmE at h
 split at h
 ·cases h
 ·rename_i hp
  obtain ⟨h1, h2⟩ := pre_eq hp
  split at h
  ·rename_i d' hd
   split at h
   ·rename_i t ho
    cases h
    refine st_v h1 h2 (v := .map (some w.heap.size)) (w' := w.alloc (.map #[] 0)) (fun ρ hρ => ?_) ?_
    ·simp only [execOp, ho, Option.map_none, Sem.run_bind]
     rfl
    ·rw [hd]
     refine k _ _ (Nat.le_refl _) ⟨#[], 0, ?_, ?_, ?_, ?_, ?_, ?_⟩ ⟨rfl, rfl, rfl, by simp, fun b hb _ => ?_, Nat.le_refl _⟩ (by simp)
     ·show (w.heap.push _)[w.heap.size]? = _
      simp
     ·intro e he; simp at he
     ·intro x b hb; cases hb
     ·simp
     ·intro e he; simp at he
     ·simp
     ·show (w.heap.push _)[b]? = _
      rw [Array.getElem?_push, if_neg (by omega)]
   ·cases h
  ·cases h
def luE (I : Info) (n : Nat) (ops : Array Oper) (env : Env) (o : Oper) : Option (Nat × Value × Nat × Value × Bool × Nat) :=
  match pre n ops env o with
  | false => none
  | true => match o.dst with
    | some d => match o.op with
      | .lookup t x j ok => match lkT I t with
        | some y => match y.desc with
          | .map k e => match lkT I e with
            | some g => match evO env x with
              | some (.map (some r)) => match evO env j with
                | some v => some (k, g.zero, r, v, ok, d)
                | none => none
              | _ => none
            | none => none
          | _ => none
        | none => none
      | _ => none
    | none => none
theorem MapB.keys {β : Type} {k : TypeId} (hK : IdKey P k) {es : List MapEntry} {enc : β → Value} {g : List UInt8 → Option β} (h : ∀ e ∈ es, ∃ x b, x.length = 32 ∧ e.key = idV x ∧ e.val = enc b ∧ g x = some b) : ∀ e ∈ es, ∃ l, keyOf P k e.key = some l := fun e he => by
 obtain ⟨x, b, hx, h1, _⟩ := h e he
 rw [h1]
 exact hK.key x hx
def tell {β : Type} (enc : β → Value) (z : Value) (o : Option β) : Value := match o with | some b => enc b | none => z
theorem st_lu {β : Type} (hI : I.Ok P) {k r d : Nat} {z v : Value} {ok : Bool} (h : luE I f.n ops env o = some (k, z, r, v, ok, d)) (hK : IdKey P k) {x : List UInt8} (hx : x.length = 32) (hv : v = idV x) {enc : β → Value} {g : List UInt8 → Option β} (hm : MapB w r enc g)
  (kk : K ((d, if ok then .tuple #[tell enc z (g x), .bool (g x).isSome] else tell enc z (g x)) :: env) w) : St P f ops o env w K := by
 subst hv
 unfold luE at h
 split at h
 ·cases h
 ·rename_i hp
  obtain ⟨h1, h2⟩ := pre_eq hp
  split at h
  ·rename_i d' hd
   split at h
   ·rename_i t xx j ok' ho
    split at h
    ·rename_i y hy
     split at h
     ·rename_i k' e he
      split at h
      ·rename_i gg hgg
       split at h
       ·rename_i r' hxx
        split at h
        ·rename_i v' hj
         simp only [Option.some.injEq, Prod.mk.injEq] at h
         obtain ⟨rfl, rfl, rfl, rfl, rfl, rfl⟩ := h
         have hu := (hI.get hy).under w
         rw [he] at hu
         have hz := (hI.get hgg).zeroValue w
         obtain ⟨es, c, hh, a1, a2, a3, _⟩ := hm
         obtain ⟨l, hl⟩ := hK.key x hx
         have hfind := hK.law.find w hl es.toList (MapB.keys hK a1)
         have hchk := hK.law.check w es.isEmpty hl
         refine st_v h1 h2 (w' := w) (v := if ok' then .tuple #[tell enc gg.zero (g x), .bool (g x).isSome] else tell enc gg.zero (g x)) (fun ρ hρ => ?_) (by rw [hd]; exact kk)
         have hlook : (Instr.lookup t (.map (some r')) (idV x) ok').run P w = .ok (if ok' then .tuple #[tell enc gg.zero (g x), .bool (g x).isSome] else tell enc gg.zero (g x)) w := by
          unfold Instr.lookup
          rw [run_under_bind hu]
          rcases hfind with ⟨f1, f2⟩ | ⟨j', e0, f1, f2, f3⟩
          ·have hg : g x = none := by
            cases hgx : g x with
            | none => rfl
            | some b =>
             obtain ⟨e, he, hk⟩ := a2 x b hgx
             exact absurd hk (f2 e he)
           simp only [Sem.run_bind, MapKept.run_getObj_map hh, Sem.run_pure, Result.andThen_ok, hchk, f1, hz, hg, tell, Option.isSome]
          ·have hmem : e0 ∈ es.toList := List.mem_of_getElem? f2
           obtain ⟨x', b, _, k1, k2, k3⟩ := a1 e0 hmem
           have : x' = x := idV_inj (k1.symm.trans f3)
           subst this
           simp only [Sem.run_bind, MapKept.run_getObj_map hh, Sem.run_pure, Result.andThen_ok, hchk, f1, k2, k3, tell, Option.isSome]
         simp only [execOp, ho, hρ _ _ hxx, hρ _ _ hj, Sem.run_bind, hlook, Result.andThen_ok, Sem.run_pure]
        ·cases h
       ·cases h
      ·cases h
     ·cases h
    ·cases h
   ·cases h
  ·cases h
def muE (I : Info) (n : Nat) (ops : Array Oper) (env : Env) (o : Oper) : Option (Nat × Nat × Value × Value) :=
  match pre n ops env o with
  | false => none
  | true => match o.dst with
    | none => match o.op with
      | .mapUpdate t x j u => match lkT I t with
        | some y => match y.desc with
          | .map k _ => match evO env x with
            | some (.map (some r)) => match evO env j with
              | some v => match evO env u with
                | some b => some (k, r, v, b)
                | none => none
              | none => none
            | _ => none
          | _ => none
        | none => none
      | _ => none
    | some _ => none
def setM {β : Type} (g : List UInt8 → Option β) (x : List UInt8) (b : β) : List UInt8 → Option β := fun y => if y = x then some b else g y
theorem st_mu {β : Type} (hI : I.Ok P) {k r : Nat} {v u : Value} (h : muE I f.n ops env o = some (k, r, v, u)) (hK : IdKey P k) {x : List UInt8} (hx : x.length = 32) (hv : v = idV x) {enc : β → Value} {g : List UInt8 → Option β} (hm : MapB w r enc g) {b : β} (hb : u = enc b)
  (kk : ∀ w', MapB w' r enc (setM g x b) → Ext (One r) w w' → w'.heap.size = w.heap.size → K env w') : St P f ops o env w K := by
 subst hv
 subst hb
 unfold muE at h
 split at h
 ·cases h
 ·rename_i hp
  obtain ⟨h1, h2⟩ := pre_eq hp
  split at h
  ·rename_i hd
   split at h
   ·rename_i t xx j uu ho
    split at h
    ·rename_i y hy
     split at h
     ·rename_i k' e he
      split at h
      ·rename_i r' hxx
       split at h
       ·rename_i v' hj
        split at h
        ·rename_i u' huu
         simp only [Option.some.injEq, Prod.mk.injEq] at h
         obtain ⟨rfl, rfl, rfl, rfl⟩ := h
         have hu := (hI.get hy).under w
         rw [he] at hu
         obtain ⟨es, c, hh, a1, a2, a3, a4, a5⟩ := hm
         obtain ⟨l, hl⟩ := hK.key x hx
         have hfind := hK.law.find w hl es.toList (MapB.keys hK a1)
         have hchk := hK.law.check w false hl
         obtain ⟨es', c', hr, hM⟩ : ∃ es' c', (Instr.mapUpdate t (.map (some r')) (idV x) (enc b)).run P w = .ok () { w with heap := w.heap.setIfInBounds r' (.map es' c') } ∧
           ((∀ e ∈ es'.toList, ∃ y b', y.length = 32 ∧ e.key = idV y ∧ e.val = enc b' ∧ setM g x b y = some b') ∧ (∀ y b', setM g x b y = some b' → ∃ e ∈ es'.toList, e.key = idV y) ∧ (es'.toList.map (·.key)).Nodup ∧ (∀ e ∈ es'.toList, e.born < c') ∧ (es'.toList.map (·.born)).Nodup) := by
          rcases hfind with ⟨f1, f2⟩ | ⟨j', e0, f1, f2, f3⟩
          ·refine ⟨es.push ⟨idV x, enc b, c⟩, c + 1, ?_, ?_, ?_, ?_, ?_, ?_⟩
           ·unfold Instr.mapUpdate
            rw [run_under_bind hu]
            simp [MapKept.run_getObj_map hh, hchk, f1, MapKept.run_setObj_map _ hh, Result.andThen]
           ·intro e he
            simp only [Array.toList_push, List.mem_append, List.mem_singleton] at he
            rcases he with he | rfl
            ·obtain ⟨y, b', q1, q2, q3, q4⟩ := a1 e he
             refine ⟨y, b', q1, q2, q3, ?_⟩
             rw [setM, if_neg fun e1 => f2 e he (by rw [q2, e1])]
             exact q4
            ·exact ⟨x, b, hx, rfl, rfl, if_pos rfl⟩
           ·intro y b' hy'
            by_cases e1 : y = x
            ·exact ⟨⟨idV x, enc b, c⟩, by simp, by rw [e1]⟩
            ·rw [setM, if_neg e1] at hy'
             obtain ⟨e, he, hk⟩ := a2 y b' hy'
             exact ⟨e, by simp [Array.mem_toList_iff.1 he], hk⟩
           ·rw [Array.toList_push, List.map_append, List.nodup_append]
            refine ⟨a3, by simp, fun q hq q' hq' e1 => ?_⟩
            simp only [List.map_cons, List.map_nil, List.mem_singleton] at hq'
            obtain ⟨e, he, rfl⟩ := List.mem_map.1 hq
            exact f2 e he (e1.trans hq')
           ·intro e he
            simp only [Array.toList_push, List.mem_append, List.mem_singleton] at he
            rcases he with he | rfl
            ·exact Nat.lt_succ_of_lt (a4 e he)
            ·exact Nat.lt_succ_self c
           ·rw [Array.toList_push, List.map_append, List.nodup_append]
            refine ⟨a5, by simp, fun q hq q' hq' e1 => ?_⟩
            simp only [List.map_cons, List.map_nil, List.mem_singleton] at hq'
            obtain ⟨e, he, rfl⟩ := List.mem_map.1 hq
            have := a4 e he
            omega
          ·have hj' : es[j']? = some e0 := by simpa using f2
           have hjl : j' < es.toList.length := (List.getElem?_eq_some_iff.1 f2).1
           have hlist : (es.modify j' (fun e' => { e' with key := idV x, val := enc b })).toList = es.toList.set j' { e0 with key := idV x, val := enc b } := by rw [Array.toList_modify, ChangeMaps.modify_eq_set _ _ _ _ f2]
           have hkeys : (es.toList.set j' { e0 with key := idV x, val := enc b }).map (·.key) = es.toList.map (·.key) := by
            rw [List.map_set]
            refine List.ext_getElem? fun i => ?_
            rw [List.getElem?_set]
            split
            ·rename_i hij
             subst hij
             rw [List.getElem?_map, f2]
             have hjs : j' < es.size := by simpa using hjl
             simp [hjs, f3]
            ·rfl
           have hmem : e0 ∈ es.toList := List.mem_of_getElem? f2
           have hborn : (es.toList.set j' { e0 with key := idV x, val := enc b }).map (·.born) = es.toList.map (·.born) := by
            rw [List.map_set]
            refine List.ext_getElem? fun i => ?_
            rw [List.getElem?_set]
            split
            ·rename_i hij
             subst hij
             rw [List.getElem?_map, f2]
             have hjs : j' < es.size := by simpa using hjl
             simp [hjs]
            ·rfl
           refine ⟨es.modify j' (fun e' => { e' with key := idV x, val := enc b }), c, ?_, ?_, ?_, ?_, ?_, ?_⟩
           ·unfold Instr.mapUpdate
            rw [run_under_bind hu]
            simp [MapKept.run_getObj_map hh, hchk, f1, hj', f3, hK.law.stays w hl, MapKept.run_setObj_map _ hh, Result.andThen]
           ·rw [hlist]
            intro e he
            obtain ⟨i, hi, rfl⟩ := List.mem_iff_getElem.1 he
            rw [List.length_set] at hi
            by_cases hij : j' = i
            ·subst hij
             rw [List.getElem_set_self]
             exact ⟨x, b, hx, rfl, rfl, if_pos rfl⟩
            ·rw [List.getElem_set_ne hij]
             obtain ⟨y, b', q1, q2, q3, q4⟩ := a1 _ (List.getElem_mem hi)
             refine ⟨y, b', q1, q2, q3, ?_⟩
             rw [setM, if_neg fun e1 => ?_]
             ·exact q4
             ·rw [e1, ← f3] at q2
              have h6 := List.pairwise_iff_getElem.1 a3
              have h7 := (List.getElem?_eq_some_iff.1 f2).2
              rcases Nat.lt_or_gt_of_ne hij with hlt | hlt
              ·refine h6 j' i (by simpa using hjl) (by simpa using hi) hlt ?_
               simp only [List.getElem_map]
               rw [h7, q2]
              ·refine h6 i j' (by simpa using hi) (by simpa using hjl) hlt ?_
               simp only [List.getElem_map]
               rw [h7, q2]
           ·rw [hlist]
            intro y b' hy'
            by_cases e1 : y = x
            ·exact ⟨{ e0 with key := idV x, val := enc b }, List.mem_iff_getElem.2 ⟨j', by rw [List.length_set]; exact hjl, List.getElem_set_self _⟩, by rw [e1]⟩
            ·rw [setM, if_neg e1] at hy'
             obtain ⟨e, he, hk⟩ := a2 y b' hy'
             have : e.key ∈ (es.toList.set j' { e0 with key := idV x, val := enc b }).map (·.key) := by rw [hkeys]; exact List.mem_map.2 ⟨e, he, rfl⟩
             obtain ⟨e', he', hk'⟩ := List.mem_map.1 this
             exact ⟨e', he', hk'.trans hk⟩
           ·rw [hlist, hkeys]
            exact a3
           ·rw [hlist]
            intro e he
            have : e.born ∈ (es.toList.set j' { e0 with key := idV x, val := enc b }).map (·.born) := List.mem_map.2 ⟨e, he, rfl⟩
            rw [hborn] at this
            obtain ⟨e', he', hk'⟩ := List.mem_map.1 this
            rw [← hk']
            exact a4 e' he'
           ·rw [hlist, hborn]
            exact a5
         obtain ⟨m1, m2, m3⟩ := ext_setMap hh es' c'
         refine st_s h1 h2 (fun ρ hρ => ?_) (by rw [hd]; exact kk _ ⟨es', c', m3, hM⟩ m1 m2)
         simp only [execOp, ho, hρ _ _ hxx, hρ _ _ hj, hρ _ _ huu, Sem.run_bind, hr, Result.andThen_ok, Sem.run_pure]
        ·cases h
       ·cases h
      ·cases h
     ·cases h
    ·cases h
   ·cases h
  ·cases h
end
inductive WideF : Fence → Prop where
  | none : WideF Fence.wide
  | round (l : Nat) : WideF (Fence.wide.inRound l)
section
variable {F : Fence} {n : Nat} {P : Program}
theorem WideF.fn (h : WideF F) (g : FuncId) : F.fn g := by cases h <;> trivial
theorem WideF.depth (h : WideF F) : F.depth.isSome = true → 1 ≤ n := by cases h <;> (intro h; cases h)
theorem WideF.calls (h : WideF F) {f : FuncId} {args : Array Value} {w : World} {R : Ending → World → Prop} (hc : Calls P f args w R) : CallsIn F n P f args w R := by
 cases h with
 | none => exact callsIn_wide.2 hc
 | round l => exact (callsIn_wide (n := n)).2 hc
theorem WideF.rows (h : WideF F) {row : String} {args : Array Value} {w : World} {R : Value → World → Prop} (hc : Rows P row args w R) : RowsIn F n P row args w R := by
 have key : RowsIn Fence.wide n P row args w R := fun c cs _ => by
  obtain ⟨v, w', r, s⟩ := hc c cs
  exact ⟨v, w', r, stepsIn_wide.2 s⟩
 cases h with
 | none => exact key
 | round l => exact key
def nd : Op → Bool
  | .defer _ => false
  | _ => true
theorem upon_in (hF : WideF F) {o : Oper} {a : Act} {next : Act → World → Prop} {Q : Exit → Act → World → Prop} {r : Result Next} (h : o.upon P a next (fun _ _ _ => False) r) : o.uponIn F n P a next Q r := by
 cases r with
 | ok x w' =>
  cases x <;> simp only [Oper.upon, Oper.uponIn] at h ⊢
  all_goals first
   | exact h
   | exact h.elim
   | exact ⟨hF.depth, (hF.calls h).mono fun e w' he => by
     cases e
     ·exact he
     ·exact he.elim
     ·obtain ⟨_, _, hf⟩ := he
      exact hf.elim⟩
   | exact ⟨hF.depth, hF.rows h⟩
 | halt x w' =>
  cases x <;> simp only [Oper.upon] at h ⊢
  all_goals first
   | exact h
   | exact h.elim
end
def WLI (F : Fence) (n : Nat) (P : Program) (f : Fs) (ops : Array Oper) (Q : XPost) (l : List Oper) (env : Env) (w : World) : Prop := ∀ a, Ag f env a → wpListIn F n P ops Q l a w
section
variable {F : Fence} {n : Nat} {P : Program} {I : Info} {f : Fs} {ops : Array Oper} {Q : XPost} {o : Oper} {rest l : List Oper} {env : Env} {w : World}
theorem wli (hF : WideF F) (hnd : nd o.op = true) (h : St P f ops o env w (WLI F n P f ops Q rest)) : WLI F n P f ops Q (o :: rest) env w := by
 intro a ha
 have h1 := h a (fun _ _ _ => False) (wpListIn F n P ops Q rest) ha fun _ a' _ ha' k => k a' ha'
 unfold wpListIn
 split at h1
 ·rename_i hw
  rw [if_pos hw]
  rcases h1 with h1 | ⟨_, _, _, hf⟩
  ·refine ⟨fun g _ => hF.fn g, ?_⟩
   rw [Oper.semAt_eq _ _ _ (fun c e => by rw [e] at hnd; cases hnd)]
   exact upon_in hF h1
  ·exact hf.elim
 ·rename_i hw
  rw [if_neg hw]
  exact ⟨fun g _ => hF.fn g, h1⟩
theorem wli_nil (h : Fin f Q .normal env w) : WLI F n P f ops Q [] env w := fun a ha => h a ha
def nds (l : List Oper) : Bool := l.all fun o => nd o.op
theorem nds_cons (h : nds (o :: l) = true) : nd o.op = true ∧ nds l = true := by simpa [nds] using h
theorem wli_p (hF : WideF F) (hI : I.Ok P) {l' : List Oper} {env' : Env} (hn : nds l = true) (h : pevs I f.n l env = some (l', env')) (k : WLI F n P f ops Q l' env' w) : WLI F n P f ops Q l env w := by
 induction l generalizing env with
 | nil => simp [pevs] at h; obtain ⟨rfl, rfl⟩ := h; exact k
 | cons o r ih =>
  simp only [pevs] at h
  split at h
  ·simp at h; obtain ⟨rfl, rfl⟩ := h; exact k
  ·rename_i hg
   split at h
   ·simp at h; obtain ⟨rfl, rfl⟩ := h; exact k
   ·rename_i v hv
    split at h
    ·rename_i e he
     obtain ⟨hd, rfl⟩ := pushO_eq he
     exact wli hF (nds_cons hn).1 (st_v (by simp [takes, hg]) hd (pev_sound hI hv w) (ih (nds_cons hn).2 h))
    ·cases h
theorem wli_pk (hF : WideF F) (hI : I.Ok P) (m : Nat) {l' : List Oper} {env' : Env} (hn : nds l = true) (h : pevsN I f.n ops m l env = some (l', env')) (k : WLI F n P f ops Q l' env' w) : WLI F n P f ops Q l env w := by
 induction m generalizing env l with
 | zero => simp [pevsN] at h; obtain ⟨rfl, rfl⟩ := h; exact k
 | succ m ih =>
  cases l with
  | nil => simp [pevsN] at h; obtain ⟨rfl, rfl⟩ := h; exact k
  | cons o r =>
   simp only [pevsN] at h
   split at h
   ·rename_i hp
    split at h
    ·rename_i e he
     obtain ⟨hd, rfl⟩ := pushO_eq he
     exact wli hF (nds_cons hn).1 (st_pass hp hd (ih (nds_cons hn).2 h))
    ·cases h
   ·split at h
    ·cases h
    ·rename_i ht
     split at h
     ·cases h
     ·rename_i v hv
      split at h
      ·rename_i e he
       obtain ⟨hd, rfl⟩ := pushO_eq he
       exact wli hF (nds_cons hn).1 (st_v ht hd (pev_sound hI hv w) (ih (nds_cons hn).2 h))
      ·cases h
theorem wli_case (d : Nat) {b : Bool} (hd : lk env d = some (.bool b)) (ht : b = true → WLI F n P f ops Q l ((d, .bool true) :: env) w) (hf : b = false → WLI F n P f ops Q l ((d, .bool false) :: env) w) : WLI F n P f ops Q l env w := by
 cases b
 ·exact fun a ha => hf rfl a ⟨ha.defers, ha.size, fun i u hi => by
   rw [lk_cons] at hi
   split at hi
   ·rename_i e; subst e; simp at hi; subst hi; exact ha.get _ _ hd
   ·exact ha.get _ _ hi⟩
 ·exact fun a ha => ht rfl a ⟨ha.defers, ha.size, fun i u hi => by
   rw [lk_cons] at hi
   split at hi
   ·rename_i e; subst e; simp at hi; subst hi; exact ha.get _ _ hd
   ·exact ha.get _ _ hi⟩
theorem c_regionI {id : Nat} {l : List Oper} (h : WLI Fence.wide 9 P f l.toArray Q l env w) : WC P f (.region id l.toArray false) Q env w := fun a ha => wpIn_wide.1 (wpIn_region_lit (h a ha))
theorem wli_yield {g : Nat} {x : Operand} {xs : Array Operand} {ts : Array TypeId} {d : Nat} {vs : List Value} {R : Bool → World → Prop} (ho : o.op = .call { callee := .value x, args := xs, argTypes := ts })
  (hg : takes ops env o = true) (hd : o.dst = some d) (hdn : Nat.blt d f.n = true) (hx : evO env x = some (.func (.yield g) #[] #[])) (hvs : evs env xs.toList = some vs)
  (hY : YieldAt Fence.wide (n - 1) P g vs.toArray w fun e w' => ∃ b, e = .returned (.bool b) ∧ R b w') (k : ∀ b w', R b w' → WLI Fence.wide n P f ops Q rest ((d, .bool b) :: env) w') : WLI Fence.wide n P f ops Q (o :: rest) env w := by
 intro a ha
 unfold wpListIn
 rw [if_pos (takes_wanted ha hg)]
 have hevs : ∀ (l : List Operand) vs, evs env l = some vs → l.map a.eval = vs := by
  intro l
  induction l with
  | nil => intro vs h; simp [evs] at h; subst h; rfl
  | cons y r ih =>
   intro vs h
   simp only [evs] at h
   split at h
   ·rename_i u hu
    split at h
    ·rename_i l' hl'
     simp at h; subst h
     simp [ha.eval hu, ih _ hl']
    ·simp at h
   ·simp at h
 have h1 : xs.map a.eval = vs.toArray := by
  apply Array.ext'
  rw [Array.toList_map, hevs _ _ hvs]
 obtain ⟨fn, tmps, assign, body, hr, hR⟩ := hY
 have hrun : (execOp a.eval o).run P w = .ok (.round g fn tmps assign body) w := by
  simp only [execOp, ho, resolve, h1, ha.eval hx, Deferred.ofValue, Sem.run_bind, Sem.run_pure, Result.andThen_ok, invoke]
  simpa using hr
 refine ⟨fun _ _ => trivial, ?_⟩
 rw [Oper.semAt_eq _ _ _ (fun c e => by rw [ho] at e; cases e), hrun, Oper.uponIn_round]
 refine ⟨fun h => (by cases h), hR.mono ?_⟩
 rintro e w' ⟨b, rfl, hb⟩
 refine k b w' hb _ ?_
 have := ha.put (dst := some d) (v := .bool b) (by rw [dOk]; exact hdn)
 rw [hd]
 exact this
end
/-! ### The loop's record, and worlds -/
def notCells : Obj → Bool
  | .cells .. => false
  | _ => true
theorem Ext.putObj {w : World} {r : Nat} {o : Obj} (_ : w.heap[r]? = some o) (_ : notCells o = true) {o' : Obj} (_ : notCells o' = true) : Ext (One r) w (w.putObj r o') :=
 ⟨rfl, rfl, rfl, by simp, fun b _ hS => World.putObj_heap_other hS, Nat.le_refl _⟩
theorem Ext.allocObj (w : World) {o : Obj} (_ : notCells o = true) : Ext No w (w.alloc o) := by
 refine ⟨rfl, rfl, rfl, by simp, fun b hb _ => ?_, Nat.le_refl _⟩
 show (w.heap.push _)[b]? = _
 rw [Array.getElem?_push, if_neg (by omega)]
theorem calls_enterM {P : Program} {g : FuncId} {fn : Func} {c : Code} {args : List Value} {w : World} {R : Value → World → Prop} {n : Nat} {env : Env}
  (hf : P.funcs[g]? = some fn) (hb : fn.body = some c) (hn : fn.ntmps = n) (hl : Nat.ble args.length n = true) (he : envO 0 args = some env) (h : WC P ⟨n, []⟩ c (bodyPostM Fence.wide 9 P fn (Rv R)) env w) : zz1 P g args w R := by
 refine callsIn_wide.1 (callsIn_of_wp_marks (n := 9) hf hb trivial (wpIn_wide.2 (h _ ⟨rfl, ?_, fun i v hi => ?_⟩)))
 ·have : args.length ≤ n := Nat.le_of_ble_eq_true hl
  simp only [hn, Array.size_append, List.size_toArray, Array.size_replicate]
  omega
 ·have := (envO_lk he i v hi).2
  simp only [Nat.sub_zero] at this
  have hlt : i < args.length := by
   rcases Nat.lt_or_ge i args.length with h' | h'
   ·exact h'
   ·simp [List.getElem?_eq_none h'] at this
  simp only [hn]
  rw [Array.getElem?_append_left (by simpa using hlt)]
  simpa using this
def WCI (F : Fence) (n : Nat) (P : Program) (f : Fs) (c : Code) (Q : XPost) (env : Env) (w : World) : Prop := ∀ a, Ag f env a → c.wpIn F n P Q a w
section
variable {F : Fence} {n : Nat} {P : Program} {f : Fs} {Q : XPost} {env : Env} {w : World}
theorem ci_region {id : Nat} {l : List Oper} (h : WLI F n P f l.toArray Q l env w) : WCI F n P f (.region id l.toArray false) Q env w := fun a ha => wpIn_region_lit (h a ha)
theorem ci_block {id : Nat} {c : Code} (h : WCI F n P f c (Exit.inBlock id Q) env w) : WCI F n P f (.block id c) Q env w := fun a ha => wpIn_block (h a ha)
end
section
variable {P : Program} {I : Info} {f : Fs} {ops : Array Oper} {Q : XPost} {o : Oper} {rest l : List Oper} {env : Env} {w : World}
theorem wlw (hnd : nd o.op = true) (h : St P f ops o env w (WLI Fence.wide 9 P f ops Q rest)) : WLI Fence.wide 9 P f ops Q (o :: rest) env w := wli .none hnd h
theorem wlw_p (hn : nds l = true) (hI : I.Ok P) {l' : List Oper} {env' : Env} (h : pevs I f.n l env = some (l', env')) (k : WLI Fence.wide 9 P f ops Q l' env' w) : WLI Fence.wide 9 P f ops Q l env w := wli_p .none hI hn h k
theorem wlw_pk (hn : nds l = true) (hI : I.Ok P) (m : Nat) {l' : List Oper} {env' : Env} (h : pevsN I f.n ops m l env = some (l', env')) (k : WLI Fence.wide 9 P f ops Q l' env' w) : WLI Fence.wide 9 P f ops Q l env w := wli_pk .none hI m hn h k
theorem wlw_case (d : Nat) {b : Bool} (hd : lk env d = some (.bool b)) (ht : b = true → WLI Fence.wide 9 P f ops Q l ((d, .bool true) :: env) w) (hf : b = false → WLI Fence.wide 9 P f ops Q l ((d, .bool false) :: env) w) : WLI Fence.wide 9 P f ops Q l env w := wli_case d hd ht hf
end
section
variable {P : Program} {l : Nat} {r : Loop} {w : World}
theorem begin_round (h : w.heap[l]? = some (.loop r)) (hr : r.state = .ready) {Q : World → Prop} (k : ∀ w', Ext (One l) w w' → w'.heap[l]? = some (.loop { r with state := .busy }) → Q w') : ∃ w2, (Instr.beginRound l).run P w = .ok () w2 ∧ Q w2 :=
 ⟨_, run_beginRound h hr, k _ (Ext.putObj h rfl rfl) (World.putObj_heap_same (Array.getElem?_eq_some_iff.1 h).1)⟩
end
theorem objC_set {o : ObjD} {a : ObjP} (h : ObjIn o) (i : Nat) (v : Value) : (objC o a).set (68 + i) v =
  [.int .i64 o.kind, strV o.text, .slice a.lp o.leaves.length a.lc, .int .i64 o.style] ++ (zq6 o.tree ++ (zq6 o.base ++
   ([.slice a.pp o.parents.length a.pc, .slice a.rp o.rows.length a.rc, .int .u32 (o.number : Int), .int .u32 (o.author : Int), strV o.note] : List Value).set i v)) := by
 have e1 : 68 + i - 4 - 32 - 32 = i := by omega
 rw [objC, List.set_append_right _ _ (by simp; omega), List.set_append_right _ _ (by rw [zx0, h.tree]; simp; omega), List.set_append_right _ _ (by rw [zx0, zx0, h.tree, h.base]; simp; omega), zx0, zx0, h.tree, h.base]
 rw [show 68 + i - ([.int .i64 o.kind, strV o.text, .slice a.lp o.leaves.length a.lc, .int .i64 o.style] : List Value).length - 32 - 32 = i from e1]
abbrev noP : ObjP := ⟨none, 0, none, 0, none, 0⟩
structure zz4 where
  id : List UInt8
  o : ObjD
  a : ObjP
def heldC (h : zz4) : List Value := zq6 h.id ++ objC h.o h.a
instance (h : zz4) : OneC (heldC h) := by unfold heldC; infer_instance
theorem heldC_len {h : zz4} (hi : h.id.length = 32) (ho : ObjIn h.o) : (heldC h).length = 105 := by
 rw [heldC, List.length_append, zx0, hi, zq7 ho]
abbrev blobO (t : Str) : ObjD := { objZ with kind := 1, text := t }
abbrev treeO (l : List zj8) : ObjD := { objZ with kind := 2, leaves := l }
theorem blobO_in (t : Str) : ObjIn (blobO t) := ⟨objZ_in.tree, objZ_in.base, objZ_in.parents, objZ_in.leaves, objZ_in.rows, objZ_in.number, objZ_in.author⟩
theorem blob_ok {t : Str} (h : t.length ≤ 256) : ObjOk (blobO t) := by
 refine ⟨.inl ⟨rfl, h, rfl, rfl, rfl, rfl, rfl, rfl, rfl, rfl, rfl⟩, ?_⟩
 have e : laidB (blobO t) = be 1 1 ++ strB 2 t := rfl
 rw [e, List.length_append, zj5, strB, List.length_append, zj5]
 omega
def leafOf (r : RowD) : zj8 := ⟨r.path, idOf (blobO r.text)⟩
def leavesOf (l : List RowD) : List zj8 := l.map leafOf
def addB (acc : List zz4) (r : RowD) : List zz4 := if idOf (blobO r.text) ∈ acc.map zz4.id then acc else acc ++ [⟨idOf (blobO r.text), blobO r.text, noP⟩]
theorem leavesOf_take {l : List RowD} {i : Nat} (h : i < l.length) : (leavesOf l).take (i + 1) = (leavesOf l).take i ++ [leafOf l[i]] := by
 rw [List.take_succ_eq_append_getElem (by rw [leavesOf, List.length_map]; exact h)]
 simp [leavesOf]
def metF (l : List zz4) : List UInt8 → Option Bool := fun x => if x ∈ l.map zz4.id then some true else none
theorem zj6 (o : ObjD) : (idOf o).length = 32 := sumW_len _
theorem leavesOf_in {l : List RowD} (h : ∀ r ∈ l, r.path.length ≤ maxLen) : ∀ x ∈ leavesOf l, x.path.length ≤ maxLen ∧ x.id.length = 32 := fun x hx => by
 obtain ⟨r, hr, rfl⟩ := List.mem_map.1 hx
 exact ⟨h r hr, zj6 _⟩
theorem treeO_in {l : List zj8} (h : ∀ x ∈ l, x.path.length ≤ maxLen ∧ x.id.length = 32) : ObjIn (treeO l) := ⟨objZ_in.tree, objZ_in.base, objZ_in.parents, h, objZ_in.rows, objZ_in.number, objZ_in.author⟩
theorem Own.extMap {β : Type} {w w' : World} {p : Option Addr} {n c T sz : Nat} {xs : List Value} (ho : Own w p n c T sz xs) {r : Nat} {enc : β → Value} {g : List UInt8 → Option β} (hm : MapB w r enc g) (hE : Ext (One r) w w') : Own w' p n c T sz xs :=
 ho.ext hE fun x hx e => by
  have e : x = r := e
  subst e
  obtain ⟨l, hl⟩ := ho.blkAt hx
  exact hm.ne hl rfl
theorem Blk.extMap {β : Type} {w w' : World} {b T : Nat} {L : List Value} (hb : Blk w b T L) {r : Nat} {enc : β → Value} {g : List UInt8 → Option β} (hm : MapB w r enc g) (hE : Ext (One r) w w') : Blk w' b T L := hb.ext1 hE (hm.ne hb).symm
section
variable {T1 T2 N : Nat} {w w' : World}
end
theorem Own.opened {w : World} {p : Option Addr} {n c T sz : Nat} {xs : List Value} (h : Own w p n c T sz xs) (hn : 0 < n) : ∃ b l, p = some ⟨b, 0, none⟩ ∧ Blk w b T l ∧ l.length = c * sz ∧ n ≤ c ∧ c ≤ maxLen ∧ l.take (n * sz) = xs := by
 rcases h with ⟨_, h, _, _⟩ | ⟨b, l, hp, hb, hl, hn', hc, hx⟩
 ·omega
 ·exact ⟨b, l, hp, hb, hl, hn', hc, hx⟩
theorem Own.setB {w : World} {b n c T sz : Nat} {l xs : List Value} {k : Nat} {v : Value} (hl : l.length = c * sz) (hn : n ≤ c) (hc : c ≤ maxLen) (hx : l.take (n * sz) = xs) (hb : Blk w b T (l.set k v)) : Own w (some ⟨b, 0, none⟩) n c T sz (xs.set k v) :=
 .inr ⟨b, _, rfl, hb, by rw [List.length_set, hl], hn, hc, by rw [List.take_set, hx]⟩
theorem flat_set {α : Type} {f : α → List Value} {n : Nat} {l : List α} (hn : ∀ x ∈ l, (f x).length = n) {i j : Nat} (hi : i < l.length) (hj : j < n) {v : Value} {y : α} (hy : f y = (f l[i]).set j v) : (l.flatMap f).set (i * n + j) v = (l.set i y).flatMap f := by
 have h := rows_put (Uni.map hn) (i := i) (j := j) (r := f l[i]) (by rw [List.getElem?_map, List.getElem?_eq_getElem hi]; rfl) [v] (by simp; omega)
 rw [List.flatMap_def, List.flatMap_def, List.map_set, hy]
 exact h
def upto {α : Type} (g : α → α) (i : Nat) (l : List α) : List α := (l.take i).map g ++ l.drop i
theorem upto_zero {α : Type} (g : α → α) (l : List α) : upto g 0 l = l := by simp [upto]
theorem upto_len {α : Type} (g : α → α) (i : Nat) (l : List α) : (upto g i l).length = l.length := by simp [upto]; omega
theorem upto_all {α : Type} {g : α → α} {i : Nat} {l : List α} (h : l.length ≤ i) : upto g i l = l.map g := by
 simp [upto, List.take_of_length_le h, List.drop_eq_nil_of_le h]
theorem upto_get {α : Type} {g : α → α} {i : Nat} {l : List α} (h : i < l.length) : (upto g i l)[i]'(by rw [upto_len]; exact h) = l[i] := by
 have e : ((l.take i).map g).length = i := by simp; omega
 simp only [upto]
 rw [List.getElem_append_right (by rw [e]; exact Nat.le_refl _)]
 rw [List.getElem_drop]
 congr 1
 omega
theorem upto_step {α : Type} {g : α → α} {i : Nat} {l : List α} (h : i < l.length) : (upto g i l).set i (g l[i]) = upto g (i + 1) l := by
 have e : ((l.take i).map g).length = i := by simp; omega
 simp only [upto]
 rw [List.set_append, if_neg (by omega), e, Nat.sub_self, List.drop_eq_getElem_cons h, List.set_cons_zero, List.take_succ_eq_append_getElem h, List.map_append, List.append_assoc]
 rfl
theorem upto_mem {α : Type} {g : α → α} {i : Nat} {l : List α} {p : α → Prop} (h : ∀ x ∈ l, p x) (hg : ∀ x, p x → p (g x)) : ∀ x ∈ upto g i l, p x := fun x hx => by
 simp only [upto, List.mem_append, List.mem_map] at hx
 rcases hx with ⟨y, hy, rfl⟩ | hx
 ·exact hg y (h y (List.mem_of_mem_take hy))
 ·exact h x (List.mem_of_mem_drop hx)
theorem strU_cut (l : Str) (n : Nat) : (strU l).extract 0 (min (strU l).size n) = strU (l.take n) := by
 apply ByteArray.ext
 show ((strU l).extract 0 (min (strU l).size n)).data = (l.take n).toArray
 rw [ByteArray.data_extract, strU_size]
 show l.toArray.extract 0 (min l.length n) = _
 rw [List.extract_toArray]
 congr 1
 simp only [List.extract, Nat.sub_zero, List.drop_zero]
 rw [List.take_eq_take_iff]
 omega
theorem minI (n k : Nat) : (if (k : Int) < (n : Int) then (k : Int) else (n : Int)) = ((min n k : Nat) : Int) := by split <;> omega
theorem cutBds (n k : Nat) : Bds.Is ⟨none, some (if (k : Int) < (n : Int) then (k : Int) else (n : Int)), none⟩ n n 0 (min n k) n :=
 ⟨.inr ⟨rfl, rfl⟩, .inl (congrArg some (minI n k)), .inr ⟨rfl, rfl⟩, Nat.zero_le _, by omega, Nat.le_refl _⟩
theorem min_take {α : Type} (l : List α) (k : Nat) : min l.length k = (l.take k).length := by simp [Nat.min_comm]
theorem Sl.cut {α : Type} {w : World} {p : Option Addr} {f : α → List Value} {n : Nat} {l : List α} (h : Sl w p l.length n (l.flatMap f)) (hn : ∀ x ∈ l, (f x).length = n) (k : Nat) : Sl w p (l.take k).length n ((l.take k).flatMap f) := by
 have h1 := h.slice 0 (min l.length k) (min l.length k) (Nat.zero_le _) (Nat.le_refl _) (by omega)
 have e : ((l.flatMap f).drop (0 * n)).take ((min l.length k - 0) * n) = (l.take k).flatMap f := by
  rw [Nat.zero_mul, List.drop_zero, Nat.sub_zero, List.flatMap_def, List.flatMap_def, rows_take (Uni.map hn), ← List.map_take]
  congr 2
  rw [List.take_eq_take_iff]
  omega
 rw [e, slBase_zero, Nat.sub_zero, min_take] at h1
 exact h1
def cutT (o : ObjD) : ObjD := { o with text := o.text.take 257 }
def cutN (o : ObjD) : ObjD := { cutT o with note := o.note.take 201 }
theorem cutT_in {o : ObjD} (h : ObjIn o) : ObjIn (cutT o) := ⟨h.tree, h.base, h.parents, h.leaves, h.rows, h.number, h.author⟩
theorem cutN_in {o : ObjD} (h : ObjIn o) : ObjIn (cutN o) := ⟨h.tree, h.base, h.parents, h.leaves, h.rows, h.number, h.author⟩
end Go.Vc
namespace Go.Proofs.YtpcdihkcenfgkaaGreatDoor
open Go.Vc
theorem _root_.Go.Vc.Own.zq8 {w w' : World} {p q : Option Addr} {n c T sz m d U sy : Nat} {xs ys : List Value} (h : Own w p n c T sz xs) (ho : Own w q m d U sy ys) (hE : Ext (OwnB q) w w') (hT : U ≠ T) : Own w' p n c T sz xs :=
 h.ext hE fun x hx hy => by
  obtain ⟨l, hl⟩ := h.blkAt hx
  exact ho.neTy hy hl hT rfl
structure ObjNew (W0 w : World) (o : ObjD) (a : ObjP) : Prop where
  ol : Own w a.lp o.leaves.length a.lc 56 33 (o.leaves.flatMap zj8.cells)
  op : Own w a.pp o.parents.length a.pc 31 32 (o.parents.flatMap zq6)
  or : Own w a.rp o.rows.length a.rc 114 3 (o.rows.flatMap ChgD.cells)
  nl : ∀ x, OwnB a.lp x → W0.heap.size ≤ x
  np : ∀ x, OwnB a.pp x → W0.heap.size ≤ x
  nr : ∀ x, OwnB a.rp x → W0.heap.size ≤ x
theorem ObjNew.zq2 {W0 w w' : World} {o : ObjD} {a : ObjP} (h : ObjNew W0 w o a) (hE : Ext No w w') : ObjNew W0 w' o a := ⟨h.ol.ext hE fun _ _ => id, h.op.ext hE fun _ _ => id, h.or.ext hE fun _ _ => id, h.nl, h.np, h.nr⟩
theorem ObjNew.ext1 {W0 w w' : World} {o : ObjD} {a : ObjP} (h : ObjNew W0 w o a) {b T : Nat} {L : List Value} (hE : Ext (One b) w w') (hb : Blk w b T L) (h1 : 56 ≠ T) (h2 : 31 ≠ T) (h3 : 114 ≠ T) : ObjNew W0 w' o a := ⟨h.ol.zx9 hE hb h1, h.op.zx9 hE hb h2, h.or.zx9 hE hb h3, h.nl, h.np, h.nr⟩
theorem ObjNew.l {W0 w : World} {o : ObjD} {a : ObjP} (h : ObjNew W0 w o a) : ObjL w o a := ⟨h.ol.sl, h.op.sl, h.or.sl⟩
theorem ObjNew.older {W0 W1 w : World} {o : ObjD} {a : ObjP} (h : ObjNew W1 w o a) (hX : W0.heap.size ≤ W1.heap.size) : ObjNew W0 w o a := ⟨h.ol, h.op, h.or, fun x hx => Nat.le_trans hX (h.nl x hx), fun x hx => Nat.le_trans hX (h.np x hx), fun x hx => Nat.le_trans hX (h.nr x hx)⟩
theorem leafZ_c : cellsOf ti56.zero = zj8.cells ⟨[], idZ⟩ := by kernel_rfl
theorem chgZ_c : cellsOf ti114.zero = ChgD.cells ⟨[], false, []⟩ := by kernel_rfl
theorem leaf_put {p : Str} {i j : List UInt8} (hi : i.length = 32) (hj : j.length = 32) : put (zj8.cells ⟨p, i⟩) 1 (zq6 j) = zj8.cells ⟨p, j⟩ := by
 rw [put_eq _ _ _ (by simp [zj8.cells, zx0, hi, hj])]
 simp [zj8.cells, zx0, hi, hj]
theorem one_leaf {r : zj8} (h : r.id.length = 32) : putAll (rep 1 (zj8.cells ⟨[], idZ⟩)) [(0 * (0 + 33), 0 + 33, .agg r.cells.toArray)] = r.cells := by
 simp only [putAll, zj9]
 rw [Nat.zero_mul, put_whole (by rw [rep_length, zj8.len h]; rfl)]
theorem idK : IdKey Tryz.prog 31 := by
 refine ⟨deep_law (m := 10) (by omega) kId (by kernel_rfl) (by simp only [uId]), fun x hx => ?_⟩
 have h0 : Nat.blt 0 Tryz.prog.types.size = true := by kernel_rfl
 obtain ⟨d, hd⟩ : ∃ d, Tryz.prog.types.size + 1 = d + 2 := by
  generalize Tryz.prog.types.size = n at h0 ⊢
  cases n with
  | zero => cases h0
  | succ n => exact ⟨n, rfl⟩
 have h1 : Tryz.prog.keyType 31 = true := by kernel_rfl
 have h2 : Tryz.prog.keyLits (Tryz.prog.types.size + 1) 31 (zq6 x) = some (idLits x) := by rw [hd]; exact lits_bytes uId cId uByte cByte hx
 refine ⟨.string (keyBytes (idLits x)), ?_⟩
 unfold keyOf
 rw [uId]
 have h3 : (Tryz.prog.keyType 31 && (idV x).formed Tryz.prog 31) = true := by rw [h1, idForm hx]; rfl
 simp only [h3, if_true]
 show (Tryz.prog.keyLits (Tryz.prog.types.size + 1) 31 (zq6 x)).map _ = _
 rw [h2]
 rfl
theorem leaf_build {p : Str} {i : List UInt8} (hi : i.length = 32) : putAll (zj8.cells ⟨[], idZ⟩) [(0, 1, strV p), (1, 32, .agg (zq6 i).toArray)] = zj8.cells ⟨p, i⟩ := by
 have e : putAll (zj8.cells ⟨[], idZ⟩) [(0, 1, strV p), (1, 32, .agg (zq6 i).toArray)] = put (zj8.cells ⟨p, idZ⟩) 1 (zq6 i) := by simp only [putAll, zj9]; rfl
 rw [e]
 exact leaf_put rfl hi
theorem heldZ_c : cellsOf ti48.zero = zq6 idZ ++ objC objZ noP := by kernel_rfl
theorem held_build {i : List UInt8} {o : ObjD} {a : ObjP} (hi : i.length = 32) (ho : ObjIn o) : putAll (zq6 idZ ++ objC objZ noP) [(0, 32, .agg (zq6 i).toArray), (32, 73, .agg (objC o a).toArray)] = heldC ⟨i, o, a⟩ := by
 simp only [putAll, zj9, heldC]
 rw [put_eq _ 0 _ (by rw [List.length_append, zx0, zx0, hi, zq7 objZ_in]; decide), zx0, hi]
 have e1 : (zq6 idZ ++ objC objZ noP).drop (0 + 32) = objC objZ noP := List.drop_left' (by rw [zx0]; rfl)
 rw [e1, List.take_zero, List.nil_append]
 have l1 : (zq6 i).length = 32 := by rw [zx0, hi]
 rw [put_eq _ 32 _ (by rw [List.length_append, l1, zq7 objZ_in, zq7 ho]; exact Nat.le_refl _), zq7 ho, List.take_left' l1, List.drop_of_length_le (by rw [List.length_append, l1, zq7 objZ_in]; exact Nat.le_refl _), List.append_nil]
theorem objZ_sh : Short objZ := ⟨by decide, by decide, by decide, fun _ h => absurd h List.not_mem_nil, fun _ h => absurd h List.not_mem_nil⟩
theorem blob_sh (t : Str) : Short (blobO t) := ⟨objZ_sh.leaves, objZ_sh.parents, objZ_sh.rows, objZ_sh.leafP, objZ_sh.rowP⟩
theorem blob_l (w : World) (t : Str) : ObjL w (blobO t) noP := ⟨Sl.nil _ _ _, Sl.nil _ _ _, Sl.nil _ _ _⟩
theorem rows_at {l : List RowD} (h : RowsOk l) : l.length ≤ 32 ∧ ∀ r ∈ l, r.path.length ≤ 48 ∧ r.text.length ≤ 256 :=
 ⟨by have := h.2.1; rwa [List.length_map] at this, fun r hr => ⟨rises_at h.2 (List.mem_map.2 ⟨r, hr, rfl⟩), Nat.not_lt.1 fun ht => h.1 ⟨r, hr, ht⟩⟩⟩
theorem idB_len (x : ObjD) : (idB x).length = 32 := by
 unfold idB
 split
 ·exact zj6 _
 ·rfl
theorem tree_sh {l : List zj8} (h1 : l.length < 1000000000) (h2 : ∀ r ∈ l, r.path.length < 1000000000) : Short (treeO l) := ⟨h1, objZ_sh.parents, objZ_sh.rows, h2, objZ_sh.rowP⟩
abbrev lfP (p : Option Addr) (c : Nat) : ObjP := ⟨p, c, none, 0, none, 0⟩
abbrev treeOf (l : List RowD) : ObjD := treeO (leavesOf l)
theorem held_id {w : World} {b off : Nat} {h : zz4} (hs : Seg w b off (heldC h)) : Seg w b off (zq6 h.id) := (Seg.append.1 hs).1
theorem one_held {h : zz4} (hl : (heldC h).length = 105) : putAll (rep 1 (zq6 idZ ++ objC objZ noP)) [(0 * (0 + 105), 0 + 105, .agg (heldC h).toArray)] = heldC h := by
 simp only [putAll, zj9]
 rw [Nat.zero_mul, put_whole (by rw [rep_length, hl]; rfl)]
structure HeldIn (w : World) (h : zz4) : Prop where
  id : h.id.length = 32
  o : ObjIn h.o
  sh : Short h.o
  l : ObjL w h.o h.a
theorem HeldIn.c {w : World} {h : zz4} (k : HeldIn w h) : (heldC h).length = 105 := heldC_len k.id k.o
theorem HeldIn.zq2 {w w' : World} {h : zz4} (k : HeldIn w h) (hE : Ext No w w') : HeldIn w' h := ⟨k.id, k.o, k.sh, k.l.zq2 hE⟩
theorem held_obj {w : World} {b off : Nat} {h : zz4} (hs : Seg w b off (heldC h)) (hid : h.id.length = 32) : Seg w b (off + 32) (objC h.o h.a) := by
 have h1 := (Seg.append.1 hs).2
 rw [zx0, hid] at h1
 exact h1
theorem nilS {t : Str} : strU t = ByteArray.mk #[] ↔ t = [] := ⟨fun h => strU_inj (b := []) h, fun h => by rw [h]; rfl⟩
theorem none6_calls (w : World) {x : ObjD} {a : ObjP} (hx : ObjIn x) (_hxl : ObjL w x a) (_hsx : Short x) :
  zz1 Tryz.prog 107 [.agg (objC x a).toArray] w fun v w' => v = .bool (decide (NoCom x)) ∧ Ext No w w' := by
 refine zq9 Tryz.func107 rfl rfl rfl rfl ?_
 have hX := Ext.refl No w
 refine zq5 (zq0 (wl (zz9 I_ok rfl fun b1 w1 hn1 hb1 hE1 => ?_)))
 have hX := hX.zq4 hE1
 have hb1 : Blk w1 b1 46 (objC x a) := hb1
 have oa := hb1.seg.obj hx
 refine wl_p I_ok rfl (zq3 (zq1 (c_cutK (α := Bool) [] rfl (fun z => [(2, .bool z)]) (fun z u => (z = decide (NoCom x)) ∧ Ext No w u) ?_ ?_)))
 ·refine zq0 ?_
  refine wl_p I_ok rfl (wl (st_ld I_ok rfl oa.style (wl_p I_ok rfl (zj4 6 rfl (fun hg => ?_) (fun hg => ?_)))))
  ·have n1 : x.style = 0 := by first | exact hg | omega
   refine zz5 I_ok 1 rfl (wl (st_ldN I_ok rfl oa.tree (IdIn.len hx.tree) (wl (st_bd I_ok rfl trivial (l' := zq6 idZ) idZ_c.symm ?_))))
   refine wl (st_eqK rfl gId 10 (by decide) kId (idForm hx.tree) (idForm idZ_in) (idKey hx.tree) (idKey idZ_in) idLits_inj ?_)
   simp only [if_true]
   refine wl_p I_ok rfl (zj4 12 rfl (fun hg => ?_) (fun hg => ?_))
   ·have n2 : x.tree = idZ := by first | exact hg | omega
    refine zz5 I_ok 1 rfl (wl (st_ldN I_ok rfl oa.base (IdIn.len hx.base) (wl (st_bd I_ok rfl trivial (l' := zq6 idZ) idZ_c.symm ?_))))
    refine wl (st_eqK rfl gId 10 (by decide) kId (idForm hx.base) (idForm idZ_in) (idKey hx.base) (idKey idZ_in) idLits_inj ?_)
    simp only [if_true]
    refine wl_p I_ok rfl (zj4 18 rfl (fun hg => ?_) (fun hg => ?_))
    ·have n3 : x.base = idZ := by first | exact hg | omega
     refine zz5 I_ok 1 rfl (wl (st_ld I_ok rfl oa.parents (zz5 I_ok 4 rfl (zj4 24 rfl (fun hg => ?_) (fun hg => ?_)))))
     ·have n4 : x.parents.length = 0 := by first | exact hg | omega
      refine zz5 I_ok 2 rfl (wl (st_ld I_ok rfl oa.rows (zz5 I_ok 4 rfl (zj4 31 rfl (fun hg => ?_) (fun hg => ?_)))))
      ·have n5 : x.rows.length = 0 := by first | exact hg | omega
       refine zz5 I_ok 1 rfl (wl (st_ld I_ok rfl oa.number (zz5 I_ok 3 rfl (zj4 36 rfl (fun hg => ?_) (fun hg => ?_)))))
       ·have n6 : x.number = 0 := by first | exact hg | omega
        refine zz5 I_ok 1 rfl (wl (st_ld I_ok rfl oa.author (zz5 I_ok 3 rfl (zj4 41 rfl (fun hg => ?_) (fun hg => ?_)))))
        ·have n7 : x.author = 0 := by first | exact hg | omega
         refine zz5 I_ok 1 rfl (wl (st_ld I_ok rfl oa.note (zz5 I_ok 3 rfl (zq3 ?_))))
         exact zz7 (_) rfl ⟨by rw [decide_eq_decide, nilS]; exact ⟨fun h => ⟨n1, n2, n3, n4, n5, n6, n7, h⟩, fun h => h.2.2.2.2.2.2.2⟩, hX⟩
        ·have n7 : ¬ x.author = 0 := by first | exact hg | omega
         refine zz5 I_ok 5 rfl (zq3 ?_)
         exact zz7 (false) rfl ⟨by symm; rw [decide_eq_false_iff_not]; exact fun h => n7 h.2.2.2.2.2.2.1, hX⟩
       ·have n6 : ¬ x.number = 0 := by first | exact hg | omega
        refine zz5 I_ok 10 rfl (zq3 ?_)
        exact zz7 (false) rfl ⟨by symm; rw [decide_eq_false_iff_not]; exact fun h => n6 h.2.2.2.2.2.1, hX⟩
      ·have n5 : ¬ x.rows.length = 0 := by first | exact hg | omega
       refine zz5 I_ok 15 rfl (zq3 ?_)
       exact zz7 (false) rfl ⟨by symm; rw [decide_eq_false_iff_not]; exact fun h => n5 h.2.2.2.2.1, hX⟩
     ·have n4 : ¬ x.parents.length = 0 := by first | exact hg | omega
      refine zz5 I_ok 22 rfl (zq3 ?_)
      exact zz7 (false) rfl ⟨by symm; rw [decide_eq_false_iff_not]; exact fun h => n4 h.2.2.2.1, hX⟩
    ·have n3 : ¬ x.base = idZ := by first | exact hg | omega
     refine zz5 I_ok 28 rfl (zq3 ?_)
     exact zz7 (false) rfl ⟨by symm; rw [decide_eq_false_iff_not]; exact fun h => n3 h.2.2.1, hX⟩
   ·have n2 : ¬ x.tree = idZ := by first | exact hg | omega
    refine zz5 I_ok 34 rfl (zq3 ?_)
    exact zz7 (false) rfl ⟨by symm; rw [decide_eq_false_iff_not]; exact fun h => n2 h.2.1, hX⟩
  ·have n1 : ¬ x.style = 0 := by first | exact hg | omega
   refine zz5 I_ok 40 rfl (zq3 ?_)
   exact zz7 (false) rfl ⟨by symm; rw [decide_eq_false_iff_not]; exact fun h => n1 h.1, hX⟩
 rintro z w2 ⟨rfl, hX⟩
 refine zj0 (zz2 rfl rfl ?_)
 exact ⟨rfl, hX⟩
theorem style_no {o : ObjD} (h : idZ ∈ o.parents) : ¬ StyleOk o := fun hs => hs.1 h
theorem style1 {o : ObjD} (h : idZ ∉ o.parents) (hs : o.style = 1) : StyleOk o ↔ o.parents.length = 0 ∧ o.base = idZ ∧ o.rows.length = 0 ∧ o.number = 0 := by
 constructor
 ·rintro ⟨_, h1 | h1 | h1⟩
  ·exact h1.2
  ·exact absurd (hs.symm.trans h1.1) (by decide)
  ·exact absurd (hs.symm.trans h1.1) (by decide)
 ·exact fun h1 => ⟨h, .inl ⟨hs, h1⟩⟩
theorem style2 {o : ObjD} (h : idZ ∉ o.parents) (hs : o.style = 2) : StyleOk o ↔ o.parents.length = 1 ∧ o.base = idZ ∧ 0 < o.number := by
 constructor
 ·rintro ⟨_, h1 | h1 | h1⟩
  ·exact absurd (hs.symm.trans h1.1) (by decide)
  ·exact h1.2
  ·exact absurd (hs.symm.trans h1.1) (by decide)
 ·exact fun h1 => ⟨h, .inr (.inl ⟨hs, h1⟩)⟩
theorem style3 {o : ObjD} (h : idZ ∉ o.parents) (hs : o.style = 3) : StyleOk o ↔ o.parents.length = 2 ∧ o.parents.getD 0 [] ≠ o.parents.getD 1 [] ∧ 0 < o.number := by
 constructor
 ·rintro ⟨_, h1 | h1 | h1⟩
  ·exact absurd (hs.symm.trans h1.1) (by decide)
  ·exact absurd (hs.symm.trans h1.1) (by decide)
  ·exact h1.2
 ·exact fun h1 => ⟨h, .inr (.inr ⟨hs, h1⟩)⟩
theorem style0 {o : ObjD} (h1 : ¬ o.style = 1) (h2 : ¬ o.style = 2) (h3 : ¬ o.style = 3) : ¬ StyleOk o := fun h => h.2.elim (fun h => h1 h.1) fun h => h.elim (fun h => h2 h.1) fun h => h3 h.1
theorem style6_calls (w : World) {x : ObjD} {a : ObjP} (hx : ObjIn x) (hxl : ObjL w x a) (hsx : Short x) :
  zz1 Tryz.prog 110 [.agg (objC x a).toArray] w fun v w' => v = .bool (decide (StyleOk x)) ∧ Ext No w w' := by
 refine zq9 Tryz.func110 rfl rfl rfl rfl ?_
 have hX := Ext.refl No w
 refine zq5 (zq0 (wl (zz9 I_ok rfl fun b1 w1 hn1 hb1 hE1 => ?_)))
 have hX := hX.zq4 hE1
 have hb1 : Blk w1 b1 46 (objC x a) := hb1
 have oa := hb1.seg.obj hx
 refine wl_p I_ok rfl (zq3 (zq1 (zq5 (zq5 (zq0 (wl_p I_ok rfl (wl (st_ld I_ok rfl oa.parents (wl_p I_ok rfl (zq3 (zq1 (zx4 ?_))))))))))))
 refine zv3 (α := Nat) [1, 6, 7] rfl (fun z => [(8, .int .i64 (z : Int))]) (fun z u => (z ≤ x.parents.length ∧ ∀ k (hk : k < x.parents.length), k < z → ¬ x.parents[k] = idZ) ∧ Blk u b1 46 (objC x a) ∧ Ext No w u) (fun z u => x.parents.length - z) (0) rfl ⟨⟨Nat.zero_le _, fun k _ h => absurd h (Nat.not_lt_zero _)⟩, hb1, hX⟩ ?_
 rintro i w2 ⟨⟨hi, hno⟩, hb1, hX⟩
 have oa := hb1.seg.obj hx
 refine zq5 (zq0 (wl_p I_ok rfl (zq3 (zq1 (zq5 (c_if rfl (fun hc => ?_) (fun hc => ?_)))))))
 ·have hi : i < x.parents.length := by omega
  obtain ⟨qb, qoff, hp, hsq⟩ := hxl.parents.rowAll (fun r hr => IdIn.len (hx.parents r hr)) (by omega)
  rw [hp]
  have hpl := hsx.parents
  have ha1 : IdIn x.parents[i] := hx.parents _ (List.getElem_mem hi)
  refine zx7 (zq1 (zq5 (zx4 (zq5 (zq0 (wl (st_ix I_ok rfl 32 rfl i rfl (by omega) (qoff + i * 32) rfl (wl (st_ldN I_ok rfl ((hsq i hi).zq2 hX) ha1.len (wl (zz9 I_ok rfl fun b4 w3 hn4 hb4 hE3 => ?_)))))))))))
  have ne1_4 : b1 ≠ b4 := Nat.ne_of_lt (Nat.lt_of_lt_of_le hb1.lt hn4)
  have fr4 := Nat.le_trans hX.size hn4
  have hb1 := hb1.zq2 hE3
  have hX := hX.zq4 hE3
  refine wl (zj1 (l' := zq6 x.parents[i]) I_ok hb4 rfl rfl ha1.len ha1.len OneC.h fun w4 hb4 hE4 hs4 => ?_)
  have hb1 := hb1.ext1 hE4 ne1_4
  have oa := (hb1.seg.obj hx)
  have hX := hX.zx1 hE4 fr4
  refine zq3 (zq1 (zq5 (zq0 (wl (zj2 I_ok hb4 rfl ha1.len (wl (st_bd I_ok rfl trivial (l' := zq6 idZ) idZ_c.symm (wl (st_eqK rfl gId 10 (by decide) kId (idForm ha1) (idForm idZ_in) (idKey ha1) (idKey idZ_in) idLits_inj ?_)))))))))
  simp only [if_true]
  refine zq3 (zq1 (c_if rfl (fun hc => ?_) (fun hc => ?_)))
  ·have hz : idZ ∈ x.parents := hc ▸ List.getElem_mem hi
   refine zq5 (zq0 (wl_p I_ok rfl (zq3 (zq1 (zj0 (zz3 (zx5 (zx5 (zz3 (zx5 (zz2 rfl rfl ?_)))))))))))
   exact ⟨congrArg Value.bool (decide_eq_false (style_no hz)).symm, hX⟩
  ·refine zx7 ?_
   refine zx6 (zq1 (zq0 (wl_p I_ok rfl ?_)))
   rw [IntWalk.i64_in _ (by omega)]
   refine zq3 ?_
   exact zv1 (i + 1) rfl ⟨⟨by omega, allStep (p := fun y => ¬ y = idZ) hno hi hc⟩, hb1, hX⟩ (by first | omega | (dsimp only; omega))
 ·have h0 : idZ ∉ x.parents := fun hr => by
   obtain ⟨k, hk, e⟩ := List.mem_iff_getElem.1 hr
   exact hno k hk (by omega) e
  refine c_exit (zx3 (zx3 (zz0 (zq1 (zq5 (zq5 (zq0 (wl_p I_ok rfl (wl (st_ld I_ok rfl oa.style (zq3 (zq1 (zx4 (zq5 (zq0 (wl_p I_ok rfl (zq3 (zq1 ?_))))))))))))))))))
  refine c_if rfl (fun hc => ?_) (fun hc => ?_)
  ·have h1 : x.style = 1 := hc
   refine c_cutK (α := Bool) [] rfl (fun z => [(2, .bool z)]) (fun z u => (z = decide (StyleOk x)) ∧ Ext No w u) ?_ ?_
   ·refine zq0 ?_
    refine wl_p I_ok rfl (wl (st_ld I_ok rfl oa.parents (wl_p I_ok rfl (zj4 24 rfl (fun hg => ?_) (fun hg => ?_)))))
    ·refine zz5 I_ok 1 rfl ?_
     refine wl (st_ldN I_ok rfl oa.base (IdIn.len hx.base) (wl (st_bd I_ok rfl trivial (l' := zq6 idZ) idZ_c.symm (wl (st_eqK rfl gId 10 (by decide) kId (idForm hx.base) (idForm idZ_in) (idKey hx.base) (idKey idZ_in) idLits_inj ?_)))))
     simp only [if_true]
     refine wl_p I_ok rfl (zj4 30 rfl (fun hg => ?_) (fun hg => ?_))
     ·have hb := hg
      refine zz5 I_ok 2 rfl (wl (st_ld I_ok rfl oa.rows (zz5 I_ok 4 rfl (zj4 37 rfl (fun hg => ?_) (fun hg => ?_)))))
      ·refine zz5 I_ok 1 rfl ?_
       refine wl (st_ld I_ok rfl oa.number (zz5 I_ok 3 rfl (zq3 ?_)))
       exact zz7 (_) rfl ⟨by rw [decide_eq_decide, style1 h0 h1]; exact ⟨fun h => ⟨by omega, hb, by omega, by omega⟩, fun h => by omega⟩, hX⟩
      ·refine zz5 I_ok 5 rfl ?_
       refine zq3 ?_
       exact zz7 (false) rfl ⟨by symm; rw [decide_eq_false_iff_not, style1 h0 h1]; intro h; omega, hX⟩
     ·have hb := hg
      refine zz5 I_ok 12 rfl (zq3 ?_)
      exact zz7 (false) rfl ⟨by symm; rw [decide_eq_false_iff_not, style1 h0 h1]; intro h; exact hb h.2.1, hX⟩
    ·refine zz5 I_ok 18 rfl ?_
     refine zq3 ?_
     exact zz7 (false) rfl ⟨by symm; rw [decide_eq_false_iff_not, style1 h0 h1]; intro h; omega, hX⟩
   rintro z w5 ⟨rfl, hX⟩
   refine zj0 (zz3 (zx5 (zz2 rfl rfl ?_)))
   exact ⟨rfl, hX⟩
  ·have h1 : ¬ x.style = 1 := hc
   refine zq5 (zq0 (wl_p I_ok rfl (zq3 (zq1 (c_if rfl (fun hc => ?_) (fun hc => ?_))))))
   ·have h2 : x.style = 2 := hc
    refine c_cutK (α := Bool) [] rfl (fun z => [(2, .bool z)]) (fun z u => (z = decide (StyleOk x)) ∧ Ext No w u) ?_ ?_
    ·refine zq0 ?_
     refine wl_p I_ok rfl (wl (st_ld I_ok rfl oa.parents (wl_p I_ok rfl (zj4 48 rfl (fun hg => ?_) (fun hg => ?_)))))
     ·refine zz5 I_ok 1 rfl ?_
      refine wl (st_ldN I_ok rfl oa.base (IdIn.len hx.base) (wl (st_bd I_ok rfl trivial (l' := zq6 idZ) idZ_c.symm (wl (st_eqK rfl gId 10 (by decide) kId (idForm hx.base) (idForm idZ_in) (idKey hx.base) (idKey idZ_in) idLits_inj ?_)))))
      simp only [if_true]
      refine wl_p I_ok rfl (zj4 54 rfl (fun hg => ?_) (fun hg => ?_))
      ·have hb := hg
       refine zz5 I_ok 1 rfl (wl (st_ld I_ok rfl oa.number (zz5 I_ok 3 rfl (zq3 ?_))))
       exact zz7 (_) rfl ⟨by rw [decide_eq_decide, style2 h0 h2]; exact ⟨fun h => ⟨by omega, hb, by omega⟩, fun h => by omega⟩, hX⟩
      ·have hb := hg
       refine zz5 I_ok 5 rfl (zq3 ?_)
       exact zz7 (false) rfl ⟨by symm; rw [decide_eq_false_iff_not, style2 h0 h2]; intro h; exact hb h.2.1, hX⟩
     ·refine zz5 I_ok 11 rfl ?_
      refine zq3 ?_
      exact zz7 (false) rfl ⟨by symm; rw [decide_eq_false_iff_not, style2 h0 h2]; intro h; omega, hX⟩
    rintro z w6 ⟨rfl, hX⟩
    refine zj0 (zz3 (zx5 (zz2 rfl rfl ?_)))
    exact ⟨rfl, hX⟩
   ·have h2 : ¬ x.style = 2 := hc
    refine zq5 (zq0 (wl_p I_ok rfl (zq3 (zq1 (c_if rfl (fun hc => ?_) (fun hc => ?_))))))
    ·have h3 : x.style = 3 := hc
     refine c_cutK (α := Bool) [] rfl (fun z => [(2, .bool z)]) (fun z u => (z = decide (StyleOk x)) ∧ Ext No w u) ?_ ?_
     ·refine c_draw rfl 21 [(0, true), (1, true), (2, true), (3, true), (4, true), (5, true), (6, true), (7, true), (8, true), (9, true), (10, true), (11, true), (12, true), (13, true), (14, true), (15, true), (16, true), (17, true), (18, true), (19, true), (20, true)] [] (No) (by kernel_rfl) fun w7 hE7 hs7 => ?_
      have oad := oa
      have hXd := hX
      have hX := hX.zq4 hE7
      refine wd_k I_ok 1 rfl (wd_ld I_ok rfl rfl (fun w' hw' => (oad.zq2 hw').parents) ?_)
      refine wd_k I_ok 3 rfl (wd_caseD 65 rfl (fun hg => ?_) (fun hg => ?_))
      ·have hl2 : x.parents.length = 2 := by omega
       obtain ⟨b, off, hp, hsa⟩ := hxl.parents.rowAll (fun r hr => IdIn.len (hx.parents r hr)) (by omega)
       have ha0 := hx.parents _ (List.getElem_mem (show 0 < x.parents.length by omega))
       have ha1 := hx.parents _ (List.getElem_mem (show 1 < x.parents.length by omega))
       refine wd_k I_ok 1 rfl (wd_ld I_ok rfl rfl (fun w' hw' => (oad.zq2 hw').parents) ?_)
       rw [hp]
       refine wd_ix I_ok rfl rfl 32 rfl 0 rfl (by omega) (off + 0 * 32) rfl (wd_ldN I_ok rfl rfl (fun w' hw' => ((hsa 0 (by omega)).zq2 (hXd.zq4 hw'))) (IdIn.len ha0) ?_)
       refine wd_k I_ok 1 rfl (wd_ld I_ok rfl rfl (fun w' hw' => (oad.zq2 hw').parents) ?_)
       rw [hp]
       refine wd_ix I_ok rfl rfl 32 rfl 1 rfl (by omega) (off + 1 * 32) rfl (wd_ldN I_ok rfl rfl (fun w' hw' => ((hsa 1 (by omega)).zq2 (hXd.zq4 hw'))) (IdIn.len ha1) ?_)
       refine wd_eqK rfl rfl gId 10 (by decide) kId (idForm ha0) (idForm ha1) (idKey ha0) (idKey ha1) idLits_inj ?_
       simp only [Bool.false_eq_true, if_false]
       refine wd_k I_ok 2 rfl (wd_caseD 76 rfl (fun hg => ?_) (fun hg => ?_))
       ·have hne := hg
        refine wd_k I_ok 1 rfl (wd_ld I_ok rfl rfl (fun w' hw' => (oad.zq2 hw').number) ?_)
        refine wd_k I_ok 3 rfl (wd_sw (zv0 ?_))
        exact zz7 (_) rfl ⟨by rw [decide_eq_decide, style3 h0 h3, getD_get (by omega), getD_get (by omega)]; exact ⟨fun h => ⟨hl2, hne, by omega⟩, fun h => by omega⟩, hX⟩
       ·have hne := hg
        refine wd_k I_ok 5 rfl (wd_sw (zv0 ?_))
        exact zz7 (false) rfl ⟨by symm; rw [decide_eq_false_iff_not, style3 h0 h3, getD_get (by omega), getD_get (by omega)]; intro h; exact hne h.2.1, hX⟩
      ·refine wd_k I_ok 16 rfl ?_
       refine wd_sw (zv0 ?_)
       exact zz7 (false) rfl ⟨by symm; rw [decide_eq_false_iff_not, style3 h0 h3]; intro h; omega, hX⟩
     rintro z w8 ⟨rfl, hX⟩
     refine zj0 (zz3 (zx5 (zz2 rfl rfl ?_)))
     exact ⟨rfl, hX⟩
    ·have h3 : ¬ x.style = 3 := hc
     refine zx7 (zx6 (zq1 (zq5 (zq0 (wl_p I_ok rfl (zq3 (zq1 (zj0 (zz2 rfl rfl ?_)))))))))
     exact ⟨congrArg Value.bool (decide_eq_false (style0 h1 h2 h3)).symm, hX⟩
def LeafGood (l : List zj8) (i : Nat) (hi : i < l.length) : Prop := PathOk l[i].path ∧ l[i].id ≠ idZ ∧ (0 < i → SLt (strU (l[i - 1]'(by omega)).path) (strU l[i].path))
instance (l : List zj8) (i : Nat) (hi : i < l.length) : Decidable (LeafGood l i hi) := inferInstanceAs (Decidable (_ ∧ _))
theorem leaved_iff {l : List zj8} : Leaved l ↔ l.length ≤ 32 ∧ ∀ i (hi : i < l.length), LeafGood l i hi := by
 constructor
 ·rintro ⟨⟨h1, h2⟩, h3⟩
  rw [List.length_map] at h1
  refine ⟨h1, fun i hi => ?_⟩
  have := h2 i (by rw [List.length_map]; exact hi)
  simp only [List.getElem_map] at this
  exact ⟨this.1, h3 _ (List.getElem_mem hi), this.2⟩
 ·rintro ⟨h1, h2⟩
  refine ⟨⟨by rw [List.length_map]; exact h1, fun i hi => ?_⟩, fun x hx => ?_⟩
  ·rw [List.length_map] at hi
   have := h2 i hi
   simp only [List.getElem_map]
   exact ⟨this.1, this.2.2⟩
  ·obtain ⟨i, hi, rfl⟩ := List.mem_iff_getElem.1 hx
   exact (h2 i hi).2.1
theorem fields6_calls (w : World) {x : ObjD} {a : ObjP} (hx : ObjIn x) (hxl : ObjL w x a) (hsx : Short x) :
  zz1 Tryz.prog 55 [.agg (objC x a).toArray] w fun v w' => v = .bool (decide (FieldsOk x)) ∧ Ext No w w' := by
 have hs : (strU x.text).size = x.text.length := rfl
 have hsn : (strU x.note).size = x.note.length := rfl
 have hll := hsx.leaves
 refine zq9 Tryz.func55 rfl rfl rfl rfl ?_
 have hX := Ext.refl No w
 refine zq5 (zq0 (wl (zz9 I_ok rfl fun b1 w1 hn1 hb1 hE1 => ?_)))
 have hX := hX.zq4 hE1
 have hb1 : Blk w1 b1 46 (objC x a) := hb1
 have oa := hb1.seg.obj hx
 refine wl_p I_ok rfl (zq3 (zq1 (zq5 (zq5 (zq0 (wl_p I_ok rfl (wl (st_ld I_ok rfl oa.kind (zq3 (zq1 (zx4 (zq5 (zq0 (wl_p I_ok rfl (zq3 (zq1 (c_if rfl (fun hc => ?_) (fun hc => ?_))))))))))))))))))
 ·have h1 : x.kind = 1 := hc
  refine c_cutK (α := Bool) [] rfl (fun z => [(2, .bool z)]) (fun z u => (z = decide (FieldsOk x)) ∧ Ext No w u) ?_ ?_
  ·refine zq0 ?_
   refine wl_p I_ok rfl (wl (st_ld I_ok rfl oa.text (wl_p I_ok rfl (zj4 13 rfl (fun hg => ?_) (fun hg => ?_)))))
   ·refine zz5 I_ok 1 rfl ?_
    refine wl (st_ld I_ok rfl oa.leaves (zz5 I_ok 4 rfl (zj4 19 rfl (fun hg => ?_) (fun hg => ?_))))
    ·refine wl (zj2 I_ok hb1 rfl (zq7 hx) ?_)
     refine wl (zx2 Tryz.call107 rfl rfl rfl rfl rfl rfl (none6_calls w1 hx (hxl.zq2 hX) hsx) fun v2 w2 hr2 => ?_)
     obtain ⟨rfl, hE2⟩ := hr2
     have hX := hX.zq4 hE2
     refine wl_p I_ok rfl (zq3 ?_)
     exact zz7 (_) rfl ⟨by rw [decide_eq_decide, fields1 h1]; exact ⟨fun h => ⟨by omega, by omega, h⟩, fun h => h.2.2⟩, hX⟩
    ·refine zz5 I_ok 4 rfl ?_
     refine zq3 ?_
     exact zz7 (false) rfl ⟨by symm; rw [decide_eq_false_iff_not, fields1 h1]; intro h; exact absurd h.2.1 (by omega), hX⟩
   ·refine zz5 I_ok 10 rfl ?_
    refine zq3 ?_
    exact zz7 (false) rfl ⟨by symm; rw [decide_eq_false_iff_not, fields1 h1]; intro h; exact absurd h.1 (by omega), hX⟩
  rintro z w3 ⟨rfl, hX⟩
  refine zj0 (zz3 (zx5 (zz2 rfl rfl ?_)))
  exact ⟨rfl, hX⟩
 ·have h1 : ¬ x.kind = 1 := hc
  refine zq5 (zq0 (wl_p I_ok rfl (zq3 (zq1 (c_if rfl (fun hc => ?_) (fun hc => ?_))))))
  ·have h2 : x.kind = 2 := hc
   refine zq5 (zq5 (zq0 (wl_p I_ok rfl (wl (st_ld I_ok rfl oa.leaves (wl_p I_ok rfl (zq3 (zq1 (zx4 ?_)))))))))
   refine zv3 (α := Nat) [1, 26, 27] rfl (fun z => [(28, .int .i64 (z : Int))]) (fun z u => (z ≤ x.leaves.length ∧ ∀ k (hk : k < x.leaves.length), k < z → LeafGood x.leaves k hk) ∧ Blk u b1 46 (objC x a) ∧ Ext No w u) (fun z u => x.leaves.length - z) (0) rfl ⟨⟨Nat.zero_le _, fun k _ h => absurd h (Nat.not_lt_zero _)⟩, hb1, hX⟩ ?_
   rintro i w4 ⟨⟨hi, hok⟩, hb1, hX⟩
   have oa := hb1.seg.obj hx
   refine zq5 (zq0 (wl_p I_ok rfl (zq3 (zq1 (zq5 (c_if rfl (fun hc => ?_) (fun hc => ?_)))))))
   ·have hi : i < x.leaves.length := by omega
    obtain ⟨qb, qoff, hp, hsq⟩ := hxl.leaves.rowAll (fun r hr => zj8.len (hx.leaves r hr).2) (by omega)
    rw [hp]
    have ha1 := hx.leaves _ (List.getElem_mem hi)
    have hi1 : IdIn x.leaves[i].id := ha1.2
    refine zx7 (zq1 (zq5 (zx4 (zq5 (zq0 (wl_p I_ok rfl (wl (st_ix I_ok rfl 33 rfl i rfl (by omega) (qoff + i * 33) rfl (wl (st_ldN I_ok rfl ((hsq i hi).zq2 hX) (zj8.len ha1.2) ?_))))))))))
    refine wl (zz9 I_ok rfl fun b4 w5 hn4 hb4 hE5 => ?_)
    have ne1_4 : b1 ≠ b4 := Nat.ne_of_lt (Nat.lt_of_lt_of_le hb1.lt hn4)
    have fr4 := Nat.le_trans hX.size hn4
    have hb1 := hb1.zq2 hE5
    have hX := hX.zq4 hE5
    refine wl_p I_ok rfl (wl (zj1 (l' := (x.leaves[i]).cells) I_ok hb4 rfl rfl (zj8.len ha1.2) (zj8.len ha1.2) OneC.h fun w6 hb4 hE6 hs6 => ?_))
    have hb1 := hb1.ext1 hE6 ne1_4
    have oa := (hb1.seg.obj hx)
    have hX := hX.zx1 hE6 fr4
    refine zq3 (zq1 (c_cutK (α := Bool) [1, 26, 27, 28] rfl (fun z => [(58, .bool z)]) (fun z u => (z = decide (¬ LeafGood x.leaves i hi)) ∧ Blk u b1 46 (objC x a) ∧ Ext No w u) ?_ ?_))
    ·refine c_draw rfl 26 [(0, true), (1, true), (2, false), (3, true), (4, true), (5, true), (6, true), (7, true), (8, true), (9, true), (10, true), (11, true), (12, true), (13, true), (14, true), (15, true), (16, true), (17, true), (18, true), (19, true), (20, true), (21, true), (22, true), (23, true), (24, true), (25, true)] [] (No) (by kernel_rfl) fun w7 hE7 hs7 => ?_
     have hd1 := hb1
     have hd4 := hb4
     have hXd := hX
     have hb1 := hb1.zq2 hE7
     have hX := hX.zq4 hE7
     have hC : Ext (No) _ w7 := hE7.no
     refine wd_k I_ok 1 rfl (wd_ld I_ok rfl rfl (fun w' hw' => (hd4.zq2 hw').cell rfl) ?_)
     refine wd_l rfl (zx2 Tryz.call108 rfl rfl rfl rfl rfl rfl (path6_calls w7 (x.leaves[i]).path (hsx.leafP _ (List.getElem_mem hi))) fun v8 w8 hr8 => ⟨(by obtain ⟨rfl, rfl⟩ := hr8; exact hC), ?_⟩)
     obtain ⟨rfl, rfl⟩ := hr8
     refine wd_k I_ok 2 rfl (wd_case 37 rfl (fun hg => ?_) (fun hg => ?_))
     ·have hnp : ¬ PathOk (x.leaves[i]).path := by simpa using hg
      refine wd_k I_ok 21 rfl (wd_sw (zv0 ?_))
      exact zz7 (true) rfl ⟨by symm; rw [decide_eq_true_eq]; exact fun h => hnp h.1, hb1, hX⟩
     ·have hnp : PathOk (x.leaves[i]).path := by simpa using hg
      refine wd_k I_ok 1 rfl (wd_ldN I_ok rfl rfl (fun w' hw' => (by have := (hd4.zq2 hw').seg.drop 1; exact this)) hi1.len ?_)
      refine wd_bd I_ok rfl rfl trivial (l' := zq6 idZ) idZ_c.symm (wd_eqK rfl rfl gId 10 (by decide) kId (idForm hi1) (idForm idZ_in) (idKey hi1) (idKey idZ_in) idLits_inj ?_)
      simp only [if_true]
      refine wd_k I_ok 2 rfl (wd_caseD 43 rfl (fun hg => ?_) (fun hg => ?_))
      ·have hiz := hg
       refine wd_k I_ok 15 rfl (wd_sw (zv0 ?_))
       exact zz7 (true) rfl ⟨by symm; rw [decide_eq_true_eq]; exact fun h => h.2.1 hiz, hb1, hX⟩
      ·have hiz := hg
       refine wd_k I_ok 3 rfl (wd_caseD 46 rfl (fun hg => ?_) (fun hg => ?_))
       ·refine wd_k I_ok 1 rfl ?_
        refine wd_ld I_ok rfl rfl (fun w' hw' => ((hd1.zq2 hw').seg.obj hx).leaves) ?_
        rw [hp]
        refine wd_k I_ok 2 rfl ?_
        rw [IntWalk.i64_in _ (by omega)]
        refine wd_ix I_ok rfl rfl 33 rfl (i - 1) (by omega) (by omega) (qoff + (i - 1) * 33) rfl (wd_k I_ok 1 rfl (wd_ld I_ok rfl rfl (fun w' hw' => (((hsq (i - 1) (by omega)).zq2 (hXd.zq4 hw')) 0 _ rfl)) ?_))
        refine wd_k I_ok 1 rfl (wd_ld I_ok rfl rfl (fun w' hw' => (hd4.zq2 hw').cell rfl) ?_)
        refine wd_k I_ok 3 rfl (wd_sw (zv0 ?_))
        exact zz7 (_) rfl ⟨by rw [decide_eq_decide]; exact ⟨fun h1 h2 => h1 (h2.2.2 (by omega)), fun h1 h2 => h1 ⟨hnp, hiz, fun _ => h2⟩⟩, hb1, hX⟩
       ·refine wd_k I_ok 12 rfl ?_
        refine wd_sw (zv0 ?_)
        exact zz7 (_) rfl ⟨by symm; rw [decide_eq_false_iff_not]; exact fun h => h ⟨hnp, hiz, fun h0 => absurd h0 (by omega)⟩, hb1, hX⟩
    rintro z w9 ⟨rfl, hb1, hX⟩
    have oa := hb1.seg.obj hx
    refine c_if rfl (fun hc => ?_) (fun hc => ?_)
    ·refine zq5 ?_
     refine zq0 (wl_p I_ok rfl (zq3 (zq1 (zj0 (zz3 (zx5 (zx5 (zz3 (zx5 (zz3 (zx5 (zz2 rfl rfl ?_))))))))))))
     exact ⟨congrArg Value.bool (by symm; rw [decide_eq_false_iff_not, fields2 h2]; exact fun h => hc ((leaved_iff.1 h.1).2 i hi)), hX⟩
    ·have hki := Decidable.not_not.1 hc
     refine zx7 (zx6 (zq1 (zq0 (wl_p I_ok rfl ?_))))
     rw [IntWalk.i64_in _ (by omega)]
     refine zq3 ?_
     exact zv1 (i + 1) rfl ⟨⟨by omega, fun k hk hlt => (by
  rcases Nat.lt_or_ge k i with h' | h'
  ·exact hok k hk h'
  ·obtain rfl : k = i := by omega
   exact hki)⟩, hb1, hX⟩ (by first | omega | (dsimp only; omega))
   ·have hall : ∀ k (hk : k < x.leaves.length), LeafGood x.leaves k hk := fun k hk => hok k hk (by omega)
    refine c_exit (zx3 (zx3 (zz0 (zq1 (c_cutK (α := Bool) [] rfl (fun z => [(2, .bool z)]) (fun z u => (z = decide (FieldsOk x)) ∧ Ext No w u) ?_ ?_)))))
    ·refine zq0 ?_
     refine wl_p I_ok rfl (wl (st_ld I_ok rfl oa.leaves (wl_p I_ok rfl (zj4 64 rfl (fun hg => ?_) (fun hg => ?_)))))
     ·refine zz5 I_ok 1 rfl ?_
      refine wl (st_ld I_ok rfl oa.text (zz5 I_ok 3 rfl (zj4 69 rfl (fun hg => ?_) (fun hg => ?_))))
      ·have e1 : x.text = [] := nilS.1 hg
       refine wl (zj2 I_ok hb1 rfl (zq7 hx) (wl (zx2 Tryz.call107 rfl rfl rfl rfl rfl rfl (none6_calls w4 hx (hxl.zq2 hX) hsx) fun v10 w10 hr10 => ?_)))
       obtain ⟨rfl, hE10⟩ := hr10
       have hX := hX.zq4 hE10
       refine wl_p I_ok rfl (zq3 ?_)
       exact zz7 (_) rfl ⟨by rw [decide_eq_decide, fields2 h2]; exact ⟨fun h => ⟨leaved_iff.2 ⟨by omega, hall⟩, e1, h⟩, fun h => h.2.2⟩, hX⟩
      ·have e1 : ¬ x.text = [] := fun e => hg (nilS.2 e)
       refine zz5 I_ok 4 rfl (zq3 ?_)
       exact zz7 (false) rfl ⟨by symm; rw [decide_eq_false_iff_not, fields2 h2]; intro h; exact e1 h.2.1, hX⟩
     ·refine zz5 I_ok 9 rfl ?_
      refine zq3 ?_
      exact zz7 (false) rfl ⟨by symm; rw [decide_eq_false_iff_not, fields2 h2]; intro h; exact absurd (leaved_iff.1 h.1).1 (by omega), hX⟩
    rintro z w11 ⟨rfl, hX⟩
    refine zj0 (zz3 (zx5 (zz2 rfl rfl ?_)))
    exact ⟨rfl, hX⟩
  ·have h2 : ¬ x.kind = 2 := hc
   refine zq5 (zq0 (wl_p I_ok rfl (zq3 (zq1 (c_if rfl (fun hc => ?_) (fun hc => ?_))))))
   ·have h3 : x.kind = 3 := hc
    refine c_cutK (α := Bool) [] rfl (fun z => [(2, .bool z)]) (fun z u => (z = decide (FieldsOk x)) ∧ Ext No w u) ?_ ?_
    ·refine zq0 ?_
     refine wl_p I_ok rfl (wl (st_ld I_ok rfl oa.text (wl_p I_ok rfl (zj4 78 rfl (fun hg => ?_) (fun hg => ?_)))))
     ·have e1 : x.text = [] := nilS.1 hg
      refine zz5 I_ok 1 rfl (wl (st_ld I_ok rfl oa.leaves (zz5 I_ok 4 rfl (zj4 84 rfl (fun hg => ?_) (fun hg => ?_)))))
      ·refine zz5 I_ok 1 rfl ?_
       refine wl (st_ldN I_ok rfl oa.tree (IdIn.len hx.tree) (wl (st_bd I_ok rfl trivial (l' := zq6 idZ) idZ_c.symm (wl (st_eqK rfl gId 10 (by decide) kId (idForm hx.tree) (idForm idZ_in) (idKey hx.tree) (idKey idZ_in) idLits_inj ?_)))))
       simp only [Bool.false_eq_true, if_false]
       refine wl_p I_ok rfl (zj4 90 rfl (fun hg => ?_) (fun hg => ?_))
       ·have e2 : x.tree ≠ idZ := hg
        refine zz5 I_ok 1 rfl (wl (st_ldN I_ok rfl (Seg.one oa.rows) rfl (wl (zx2 Tryz.call109 rfl rfl rfl rfl rfl rfl (rightEdit5_calls w1 (hxl.rows.zq2 hX) hsx.rows hsx.rowP) fun v12 w12 hr12 => ?_))))
        obtain ⟨rfl, hE12⟩ := hr12
        have hb1 := hb1.zq2 hE12
        have oa := oa.zq2 hE12
        have hX := hX.zq4 hE12
        refine wl_p I_ok rfl (zj4 95 rfl (fun hg => ?_) (fun hg => ?_))
        ·have e3 := hg
         refine zz5 I_ok 1 rfl (wl (st_ld I_ok rfl oa.note (zz5 I_ok 4 rfl (zj4 101 rfl (fun hg => ?_) (fun hg => ?_)))))
         ·refine wl (zj2 I_ok hb1 rfl (zq7 hx) ?_)
          refine wl (zx2 Tryz.call110 rfl rfl rfl rfl rfl rfl (style6_calls w12 hx (hxl.zq2 hX) hsx) fun v13 w13 hr13 => ?_)
          obtain ⟨rfl, hE13⟩ := hr13
          have hX := hX.zq4 hE13
          refine wl_p I_ok rfl (zq3 ?_)
          exact zz7 (_) rfl ⟨by rw [decide_eq_decide, fields3 h3]; exact ⟨fun h => ⟨e1, by omega, by omega, e3, e2, h⟩, fun h => h.2.2.2.2.2⟩, hX⟩
         ·refine zz5 I_ok 4 rfl ?_
          refine zq3 ?_
          exact zz7 (false) rfl ⟨by symm; rw [decide_eq_false_iff_not, fields3 h3]; intro h; exact absurd h.2.2.1 (by omega), hX⟩
        ·have e3 := hg
         refine zz5 I_ok 10 rfl (zq3 ?_)
         exact zz7 (false) rfl ⟨by symm; rw [decide_eq_false_iff_not, fields3 h3]; intro h; exact e3 h.2.2.2.1, hX⟩
       ·have e2 : ¬ x.tree ≠ idZ := hg
        refine zz5 I_ok 15 rfl (zq3 ?_)
        exact zz7 (false) rfl ⟨by symm; rw [decide_eq_false_iff_not, fields3 h3]; intro h; exact e2 h.2.2.2.2.1, hX⟩
      ·refine zz5 I_ok 21 rfl ?_
       refine zq3 ?_
       exact zz7 (false) rfl ⟨by symm; rw [decide_eq_false_iff_not, fields3 h3]; intro h; exact absurd h.2.1 (by omega), hX⟩
     ·have e1 : ¬ x.text = [] := fun e => hg (nilS.2 e)
      refine zz5 I_ok 27 rfl (zq3 ?_)
      exact zz7 (false) rfl ⟨by symm; rw [decide_eq_false_iff_not, fields3 h3]; intro h; exact e1 h.1, hX⟩
    rintro z w14 ⟨rfl, hX⟩
    refine zj0 (zz3 (zx5 (zz2 rfl rfl ?_)))
    exact ⟨rfl, hX⟩
   ·have h3 : ¬ x.kind = 3 := hc
    refine zx7 (zx6 (zq1 (zq5 (zq0 (wl_p I_ok rfl (zq3 (zq1 (zj0 (zz2 rfl rfl ?_)))))))))
    exact ⟨congrArg Value.bool (decide_eq_false (fields0 h1 h2 h3)).symm, hX⟩
end Go.Proofs.YtpcdihkcenfgkaaGreatDoor
