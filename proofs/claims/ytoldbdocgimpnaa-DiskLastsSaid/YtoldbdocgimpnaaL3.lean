/- slices.Equal; holds -/
import Derived.Test.YtoldbdocgimpnaaL2
namespace Go.Proofs.Ytoldbdocgimpnaa
open Go.Vc

def intsL (l : List Int) : List Value := l.map (Value.int .i64)

theorem equal_calls (w : World) {p q : Option Addr} {c c' : Nat} {xs ys : List Int} (hx : Sl w p xs.length 1 (intsL xs)) (hy : Sl w q ys.length 1 (intsL ys)) (hb : xs.length < 1000000000) :
    CallsV Try.prog 32 [.slice p xs.length c, .slice q ys.length c'] w fun v w' => v = .bool (decide (xs = ys)) ∧ Ext No w w' := by
  refine calls_enter Try.func32 rfl rfl rfl rfl ?_
  have hX := Ext.refl No w
  refine c_seq (c_region (wl_p I_ok rfl (wl_nil (f_then (c_seq (c_seq (c_region (wl_p I_ok rfl (wl_nil (f_then (c_if rfl (fun hc => ?_) (fun hc => ?_)))))))))))) 
  · refine c_seq ?_
    refine c_region (wl_p I_ok rfl (wl_nil (f_then (c_ret (f_thenR (f_ret1 rfl rfl ?_))))))
    refine ⟨?_, hX⟩
    have : xs ≠ ys := fun e => hc (by rw [e])
    simp [this]
  have hlen : xs.length = ys.length := by omega
  refine c_skip ?_
  refine f_then (c_seq (c_seq (c_region (wl_p I_ok rfl (wl_nil (f_then (c_block (c_loop (α := Nat) (fun i u => i ≤ xs.length ∧ xs.take i = ys.take i ∧ Ext No w u) (fun i => [(13, .int .i64 (i : Int)), (0, .slice p xs.length c), (1, .slice q ys.length c'), (12, .int .i64 (xs.length : Int))]) (fun i u => xs.length - i) 0 rfl ⟨Nat.zero_le _, rfl, hX⟩ ?_))))))))
  rintro i u ⟨hi, htake, hX⟩
  refine c_seq ?_
  refine c_region (wl_p I_ok rfl (wl_nil (f_then (c_seq (c_if rfl (fun hc => ?_) (fun hc => ?_))))))
  · have hi' : i < xs.length := by omega
    have hi2 : i < ys.length := by omega
    obtain ⟨b1, o1, rfl, hs1⟩ := hx.2.resolve_left (by omega)
    obtain ⟨b2, o2, rfl, hs2⟩ := hy.2.resolve_left (by omega)
    have hc1 : u.cell? ⟨b1, o1 + i, none⟩ = some (.int .i64 xs[i]) := hs1.extNo hX i _ (by simp [intsL, hi'])
    have hc2 : u.cell? ⟨b2, o2 + i, none⟩ = some (.int .i64 ys[i]) := hs2.extNo hX i _ (by simp [intsL, hi2])
    refine c_skip ?_
    refine f_then (c_seq (c_block (c_seq (c_region (wl_p I_ok rfl (wl_nil (f_then (c_seq ?_))))))))
    refine c_draw rfl 9 [(0, true), (1, true), (2, true), (3, true), (4, true), (5, true), (6, true), (7, true), (8, true)] [] No (by kernel_rfl) fun w1 hE1 hs1 => ?_
    have hX := hX.thenNo hE1
    refine wd_p I_ok rfl (wd_ix I_ok rfl rfl 1 rfl i rfl hi' (o1 + i) (by omega) (wd_ld I_ok rfl rfl (fun w' hw' => cell_ext hc1 hw' id) ?_))
    refine wd_p I_ok rfl (wd_ix I_ok rfl rfl 1 rfl i rfl hi2 (o2 + i) (by omega) (wd_ld I_ok rfl rfl (fun w' hw' => cell_ext hc2 hw' id) ?_))
    refine wd_p I_ok rfl (wd_sw (wb_nil (f_then (c_if rfl (fun hc => ?_) (fun hc => ?_)))))
    · refine c_seq ?_
      refine c_region (wl_p I_ok rfl (wl_nil (f_then (c_ret (f_blockR (f_thenR (f_thenR (f_blockR (f_thenR (f_ret1 rfl rfl ?_))))))))))
      refine ⟨?_, hX⟩
      have : xs ≠ ys := fun e => hc (by simp [e])
      simp [this]
    · have heq : xs[i] = ys[i] := Decidable.not_not.1 hc
      refine c_skip ?_
      refine f_blockN (f_then (c_region (wl_p I_ok rfl ?_)))
      rw [IntWalk.i64_in _ (by omega)]
      refine wl_nil (f_round (i + 1) rfl ⟨by omega, ?_, hX⟩ (by omega))
      rw [List.take_succ_eq_append_getElem hi', List.take_succ_eq_append_getElem hi2, htake, heq]
  · refine c_exit ?_
    refine f_thenE (f_thenE (f_blockE (f_then (c_seq (c_region (wl_p I_ok rfl (wl_nil (f_then (c_ret (f_ret1 rfl rfl ?_))))))))))
    refine ⟨?_, hX⟩
    have : xs = ys := by
      have hi : i = xs.length := by omega
      rw [hi, List.take_of_length_le (Nat.le_refl _), hlen, List.take_of_length_le (Nat.le_refl _)] at htake
      exact htake
    simp [this]

/-- with power, without a fault, of six sectors -/
structure Dsk.Quiet (D : Dsk) : Prop where
  dead : D.dead = false
  fault : D.fault = -1
  size : D.secs.length = 6
def Dsk.ran (D : Dsk) (k : Nat) : Dsk := { D with done := D.done + k }
theorem Dsk.Quiet.ran {D : Dsk} (h : D.Quiet) (k : Nat) : (D.ran k).Quiet := ⟨h.dead, h.fault, h.size⟩
theorem Dsk.ran_now (D : Dsk) (k i : Nat) : (D.ran k).now i = D.now i := rfl
theorem Dsk.Ok.ran {D : Dsk} {m : Nat} (h : D.Ok m) (k : Nat) : (D.ran k).Ok (m + k) :=
  ⟨h.size, h.safe, h.inside, h.count, Nat.le_trans h.few (by omega), h.fuse, h.fault, by have := h.done; simp only [Dsk.ran]; omega⟩
theorem Dsk.Quiet.read {D : Dsk} (h : D.Quiet) {i : Nat} (hi : i < 6) : D.read (i : Int) = (D.ran 1, D.now i, 0) := by
  have e : D.begin (i : Int) false = (D.ran 1, 0) := by
    have h6 := h.size
    simp only [Dsk.begin, h.dead, h.fault, Dsk.ran]
    rw [if_neg (by decide), if_neg (by omega), if_neg (by decide), if_neg (by simp)]
    simp [faultTo, fuseTo]
  simp only [Dsk.read, e, if_true, Dsk.ran_now, Int.toNat_natCast]

def Dsk.all (D : Dsk) : List (List Int) := (List.range 6).map D.now
def nowTo (D : Dsk) (i : Nat) : List (List Int) := (List.range 6).map fun j => if j < i then D.now j else zeros
theorem nowTo_set (D : Dsk) (i : Nat) : (nowTo D i).set i (D.now i) = nowTo D (i + 1) := by
  apply List.ext_getElem
  · simp [nowTo]
  · intro j h1 h2
    simp only [nowTo, List.length_set, List.length_map, List.length_range] at h1
    rw [List.getElem_set]
    by_cases e : i = j
    · subst e; simp [nowTo]
    · simp only [e, if_false, nowTo, List.getElem_map, List.getElem_range]
      by_cases h' : j < i
      · simp [h', show j < i + 1 from by omega]
      · simp [h', show ¬ j < i + 1 from by omega]
theorem nowTo_six (D : Dsk) : nowTo D 6 = D.all := by
  unfold nowTo Dsk.all
  apply List.map_congr_left
  intro j hj
  rw [if_pos (List.mem_range.1 hj)]
theorem nowTo_len {D : Dsk} {m : Nat} (hok : D.Ok m) (i : Nat) : ∀ r ∈ nowTo D i, r.length = 64 := by
  intro r hr
  obtain ⟨j, _, rfl⟩ := List.mem_map.1 hr
  split
  · exact now_length hok j
  · exact zeros_length

theorem rows_set (L : List (List Int)) (k : IntKind) (i : Nat) (r : List Int) : (L.map fun r => r.map (Value.int k)).set i (r.map (Value.int k)) = (L.set i r).map fun r => r.map (Value.int k) := by
  apply List.ext_getElem
  · simp
  · intro j h1 h2
    simp only [List.getElem_set, List.getElem_map]
    split <;> rfl

theorem holds_calls (w : World) {d m : Nat} {F : Nat → Prop} {D : Dsk} (h : At w d F D) (hok : D.Ok m) (hm : m + 6 < 1000000000) (hq : D.Quiet) :
    CallsV Try.prog 17 [.pointer (some ⟨d, 0, none⟩)] w fun v w' => v = .tuple #[.agg (rowsA .u8 D.all).toArray, .bool true] ∧ At w' d F (D.ran 6) ∧ Ext F w w' := by
  refine calls_enter Try.func17 rfl rfl rfl rfl ?_
  refine c_seq (c_region (wl (st_al I_ok rfl fun b2 w1 hn2 hb2 hE1 => ?_)))
  have hF2 : ¬ F b2 := fun e => by have := h.lt b2 e; omega
  have hX : Ext F w w1 := hE1.no
  have h1 := h.extNo hE1
  have hb2 : Blk w1 b2 31 (rowsA .u8 (nowTo D 0)) := by
    have e : cellsOf ti31.zero = rowsA .u8 (nowTo D 0) := by
      have e0 : nowTo D 0 = List.replicate 6 (List.replicate 64 0) := by
        have : (fun j => if j < 0 then D.now j else zeros) = fun _ => List.replicate 64 (0 : Int) := by funext j; rw [if_neg (by omega)]; rfl
        rw [nowTo, this, List.map_const', List.length_range]
      rw [rowsA_flat, e0, List.flatten_replicate_replicate, List.map_replicate]
      rfl
    rw [← e]; exact hb2
  refine wl_p I_ok rfl (wl_nil (f_then (c_seq (c_seq (c_region (wl_p I_ok rfl (wl_nil (f_then (c_block (c_loop (α := Nat) (fun i u => i ≤ 6 ∧ Blk u b2 31 (rowsA .u8 (nowTo D i)) ∧ At u d F (D.ran i) ∧ Ext F w u) (fun i => [(7, .int .i64 (i : Int)), (0, .pointer (some ⟨d, 0, none⟩)), (2, .pointer (some ⟨b2, 0, none⟩))]) (fun i u => 6 - i) 0 rfl ⟨by omega, hb2, ?_, hX⟩ ?_))))))))))
  · have e : D.ran 0 = D := by simp [Dsk.ran]
    rw [e]; exact h1
  rintro i u ⟨hi, hb2, hA, hX⟩
  have hu := Uni.map (m := 64) (f := fun r : List Int => r.map (Value.int .u8)) (l := nowTo D i) fun r hr => by simpa using nowTo_len hok i r hr
  have hlen : (nowTo D i).length = 6 := by simp [nowTo]
  have hlenR : (rowsA .u8 (nowTo D i)).length = 384 := by
    have := rows_length hu
    rw [List.length_map, hlen] at this
    exact this
  refine c_seq ?_
  refine c_region (wl_p I_ok rfl (wl_nil (f_then (c_seq (c_if rfl (fun hc => ?_) (fun hc => ?_))))))
  · have hi' : i < 6 := by omega
    have hr := (hq.ran i).read hi'
    have hn64 := now_length hok i
    have hl64 : (bytesL (D.now i)).length = 64 := bytesL_len hn64
    refine c_skip ?_
    have hrd := read_at u hA (hok.ran i) (by omega) (i : Int)
    rw [hr] at hrd
    refine f_then (c_seq (c_block (c_seq (c_region (wl_p I_ok rfl (wl_nil (f_then (c_seq (c_region (wl_p I_ok rfl (wl (st_call Try.call24 rfl rfl rfl rfl rfl rfl hrd fun v2 w2 hr2 => ?_))))))))))))
    obtain ⟨rfl, hA, hE2⟩ := hr2
    have hb2 := hb2.ext hE2 hF2
    have hX := hX.trans hE2 fun x _ => id
    refine wl_p I_ok rfl (wl (st_al I_ok rfl fun b5 w3 hn5 hb5 hE3 => ?_))
    have ne2_5 : b2 ≠ b5 := Nat.ne_of_lt (Nat.lt_of_lt_of_le hb2.lt hn5)
    have fr5 := Nat.le_trans hX.size hn5
    have hF5 : ¬ F b5 := fun e => by have := h.lt b5 e; omega
    have hb2 := hb2.extNo hE3
    have hX := hX.thenNo hE3
    have hA := hA.extNo hE3
    rw [Dsk.ran_now] at *
    refine wl (st_stW I_ok hb5 rfl (by rw [cells_num]) hl64 (by rw [z29, hl64, bytesL_len zeros_length]) one_ints fun w4 hb5 hE4 hs4 => ?_)
    have hb2 := hb2.ext1 hE4 ne2_5
    have hX := hX.thenNew hE4 fr5
    have hA := hA.ext hE4 fun x hx e => hF5 (e ▸ hx)
    refine wl_p I_ok rfl (wl_nil (f_then (c_seq (c_seq (c_region (wl_p I_ok rfl (wl_nil (f_then (c_condF rfl ?_)))))))))
    refine c_skip ?_
    refine f_then (c_region (wl_p I_ok rfl (wl (st_ldB I_ok hb5 rfl hl64 (wl (st_ix I_ok rfl 64 rfl i rfl (by omega) (0 + i * 64) (by omega) (wl (st_stN I_ok hb2 rfl (by rw [cellsOf_agg]; exact hl64) (by rw [hlenR]; show 0 + i * 64 + 64 ≤ 384; omega) (by rw [cellsOf_agg]; exact one_ints) fun w5 hb2 hE5 hs5 => ?_))))))))
    have hb2 : Blk w5 b2 31 (Vc.put (rowsA .u8 (nowTo D i)) (0 + i * 64) (bytesL (D.now i))) := hb2
    have hri : (nowTo D i)[i]? = some zeros := by simp [nowTo, hi']
    have hrow : ((nowTo D i).map (fun r : List Int => r.map (Value.int .u8)))[i]? = some (bytesL zeros) := by simp [hri, bytesL]
    have hput := rows_put hu hrow (j := 0) (bytesL (D.now i)) (by omega)
    have e0 : Vc.put (bytesL zeros) 0 (bytesL (D.now i)) = bytesL (D.now i) := put_whole (by rw [hl64, bytesL_len zeros_length])
    rw [e0] at hput
    have e1 : rowsA .u8 (nowTo D (i + 1)) = Vc.put (rowsA .u8 (nowTo D i)) (0 + i * 64) (bytesL (D.now i)) := by
      rw [Nat.zero_add, ← Nat.add_zero (i * 64)]
      refine Eq.trans ?_ hput.symm
      rw [← nowTo_set, rowsA]
      congr 1
      exact (rows_set _ _ _ _).symm
    rw [← e1] at hb2
    have hX := hX.trans hE5 fun x hx e => by rw [e] at hx; omega
    refine wl_nil (f_blockN (f_then (c_region (wl_p I_ok rfl ?_))))
    rw [IntWalk.i64_in _ (by omega)]
    refine wl_nil (f_round (i + 1) rfl ⟨by omega, hb2, ?_, hX⟩ (by omega))
    have e2 : D.ran (i + 1) = (D.ran i).ran 1 := by simp [Dsk.ran, Int.add_assoc]
    rw [e2]
    exact hA.ext hE5 fun x hx e => hF2 (e ▸ hx)
  · have hi6 : i = 6 := by omega
    subst hi6
    rw [nowTo_six] at hb2 hlenR
    refine c_exit ?_
    refine f_thenE (f_thenE (f_blockE (f_then (c_seq (c_region (wl (st_ldB I_ok hb2 rfl hlenR (wl (st_stW I_ok hb2 rfl (by rw [cellsOf_agg]) hlenR rfl (by rw [rowsA_flat]; exact one_ints) fun w2 hb2 hE2 hs2 => ?_)))))))))
    have hX := hX.trans hE2 fun x hx e => by rw [e] at hx; omega
    refine wl_p I_ok rfl (wl_nil (f_then (c_ret (f_ret [_, _] ⟨⟨b2, 0, rfl, ld_all I_ok rfl rfl hb2.seg hlenR⟩, rfl, trivial⟩ ?_))))
    exact ⟨rfl, hA.ext hE2 fun x hx e => hF2 (e ▸ hx), hX⟩
end Go.Proofs.Ytoldbdocgimpnaa
