/- wakes -/
import Derived.Test.YtoldbdocgimpnaaL3
namespace Go.Proofs.Ytoldbdocgimpnaa
open Go.Vc

def zsec : Sec := ⟨zeros, []⟩
def wk1 (b : List Int) : Dsk := ⟨[zsec, ⟨zeros, [b]⟩, zsec, zsec], [1], false, -1, -1, 1⟩
def wk2 (b c : List Int) : Dsk := ⟨[zsec, ⟨zeros, [b]⟩, ⟨zeros, [c]⟩, zsec], [1, 2], false, -1, -1, 2⟩
def wk3 (c : List Int) : Dsk := ⟨[zsec, zsec, ⟨c, []⟩, zsec], [], false, -1, -1, 2⟩
def wk4 (c : List Int) : Dsk := { wk3 c with done := 3 }
def wk5 (c : List Int) : Dsk := { wk4 c with fuse := 0 }
def wk6 (c : List Int) : Dsk := { wk4 c with fuse := -1, dead := true }
theorem wk_1 (b : List Int) : (Dsk.fresh 4).write 1 b = (wk1 b, 0) := rfl
theorem wk_2 (b c : List Int) : (wk1 b).write 2 c = (wk2 b c, 0) := rfl
theorem wk_3 (b c : List Int) : (wk2 b c).crash [false, true] = wk3 c := rfl
theorem wk_4 (c : List Int) : (wk3 c).read 2 = (wk4 c, c, 0) := rfl
theorem wk_5 (c : List Int) : (wk4 c).arm 0 = (wk5 c, 0) := rfl
theorem wk_6 (c : List Int) : (wk5 c).sync = (wk6 c, 9) := rfl

theorem wakes_calls (w : World) : CallsV Try.prog 10 [] w fun v w' => v = .bool true ∧ Ext No w w' := by
  have hok0 : (Dsk.fresh 4).Ok 0 := Dsk.Ok.fresh (by decide)
  have hb7 := actBytes_length 7
  have hb9 := actBytes_length 9
  have hok1 : (wk1 (actBytes 7)).Ok 2 := ((hok0.begin 1 true).put (i := 1) (by decide) hb7)
  have hok2 : (wk2 (actBytes 7) (actBytes 9)).Ok 4 := ((hok1.begin 2 true).put (i := 2) (by decide) hb9)
  have hok3 : (wk3 (actBytes 9)).Ok 4 := hok2.crash [false, true]
  have hok4 : (wk4 (actBytes 9)).Ok 5 := hok3.begin 2 false
  have hok5 : (wk5 (actBytes 9)).Ok 5 := ⟨hok4.size, hok4.safe, hok4.inside, hok4.count, hok4.few, by decide, hok4.fault, hok4.done⟩
  refine calls_enter Try.func10 rfl rfl rfl rfl ?_
  have hX := Ext.refl No w
  refine c_seq (c_region (wl_p I_ok rfl (wl_nil (f_then (c_seq (c_region (wl (st_call Try.call11 rfl rfl rfl rfl rfl rfl (new_calls w 4) fun v1 w1 hr1 => ?_))))))))
  rw [if_pos (by decide)] at hr1
  obtain ⟨d, rfl, frd, hA, hE1⟩ := hr1
  have hX := hX.thenNo hE1
  have hnew : ∀ x, Grow No w w1 x → w.heap.size ≤ x := fun x hx => hx.elim False.elim fun h => h.1
  refine wl_p I_ok rfl (wl_nil (f_then (c_seq (c_cutK (α := Nat → Prop) [1] rfl (fun z => [(27, .bool false)]) (fun F u => At u d F (wk2 (actBytes 7) (actBytes 9)) ∧ (∀ x, F x → w.heap.size ≤ x) ∧ Ext No w u) ?_ ?_))))
  · refine c_region ?_
    refine wl_pg I_ok rfl ?_
    refine wl (st_bd I_ok rfl (by simp [partsOk, ti35]) (l' := [.int .i64 0, .int .i64 0, .int .u8 7, .slice none 0 0]) rfl (wl (st_call Try.call14 rfl rfl rfl rfl rfl rfl (block_calls w1 0 0 7 none 0 0) fun v2 w2 hr2 => ?_)))
    obtain ⟨rfl, hE2⟩ := hr2
    have hX := hX.thenNo hE2
    have hA := hA.extNo hE2
    have hw := write_calls w2 hA hok0 (by omega) 1 hb7
    rw [show (4 : Int).toNat = 4 from rfl, wk_1] at hw
    refine wl (st_call Try.call37 rfl rfl rfl rfl rfl rfl hw fun v3 w3 hr3 => ?_)
    obtain ⟨rfl, hA, hE3⟩ := hr3
    have hX := hX.trans hE3 fun x hx hF => by have := hnew x hF; omega
    have hnew3 : ∀ x, Grow (Grow No w w1) w2 w3 x → w.heap.size ≤ x := fun x hx => hx.elim (hnew x) fun h => by have := hE2.size; have := hE1.size; omega
    refine wl_pg I_ok rfl ?_
    refine wl (st_bd I_ok rfl (by simp [partsOk, ti35]) (l' := [.int .i64 0, .int .i64 0, .int .u8 9, .slice none 0 0]) rfl (wl (st_call Try.call14 rfl rfl rfl rfl rfl rfl (block_calls w3 0 0 9 none 0 0) fun v4 w4 hr4 => ?_)))
    obtain ⟨rfl, hE4⟩ := hr4
    have hX := hX.thenNo hE4
    have hA := hA.extNo hE4
    have hw := write_calls w4 hA hok1 (by omega) 2 hb9
    rw [wk_2] at hw
    refine wl (st_call Try.call37 rfl rfl rfl rfl rfl rfl hw fun v5 w5 hr5 => ?_)
    obtain ⟨rfl, hA, hE5⟩ := hr5
    refine wl_pg I_ok rfl (wl_nil (f_cut _ rfl ⟨hA, fun x hx => hx.elim (hnew3 x) fun h => ?_, hX.trans hE5 fun x hx hF => by have := hnew3 x hF; omega⟩))
    have := hX.size
    omega
  rintro F w1 ⟨hA, hnew, hX⟩
  refine c_condF rfl ?_
  refine c_skip ?_
  refine f_then (c_seq (c_region (wl_p I_ok rfl (wl (st_call Try.call16 rfl rfl rfl rfl rfl rfl (pending_calls w1 hA hok2 (by omega)) fun v2 w2 hr2 => ?_)))))
  obtain ⟨bp, rfl, frp, hbp, hE2⟩ := hr2
  have hFp : ¬ F bp := fun e => by have := hA.lt bp e; omega
  have hX := hX.thenNo hE2
  have hA := hA.extNo hE2
  refine wl_p I_ok rfl (wl_nil (f_then (c_seq (c_region (wl_p I_ok rfl (wl (st_bs I_ok rfl 1 rfl rfl rfl (by decide) (by decide) (by simp [partsOk]) (l' := [.bool false, .bool true]) rfl fun b31 w3 hn31 hb31 hE3 hs3 => ?_)))))))
  have hF31 : ¬ F b31 := fun e => by have := hA.lt b31 e; omega
  have hX := hX.thenNo hE3
  have hA := hA.extNo hE3
  have hbp := hbp.extNo hE3
  have hcr := crash_calls w3 hA hok2 (by omega) (n := 2) (c := 2) (kp := some ⟨b31, 0, none⟩) (keep := [false, true]) rfl ⟨rfl, .inr ⟨b31, 0, rfl, hb31.seg⟩⟩ (fun b off hb => by simp at hb; exact hb.1 ▸ hF31)
  rw [wk_3] at hcr
  refine wl (st_call Try.call22 rfl rfl rfl rfl rfl rfl hcr fun v4 w4 hr4 => ?_)
  obtain ⟨rfl, hA, hE4⟩ := hr4
  have hbp := hbp.ext hE4 hFp
  have hX := hX.trans hE4 fun x hx hF => by have := hnew x hF; omega
  have hrd := read_at w4 hA hok3 (by omega) 2
  rw [wk_4] at hrd
  refine wl_p I_ok rfl (wl_nil (f_then (c_seq (c_region (wl_p I_ok rfl (wl (st_call Try.call24 rfl rfl rfl rfl rfl rfl hrd fun v5 w5 hr5 => ?_)))))))
  obtain ⟨rfl, hA, hE5⟩ := hr5
  have hbp := hbp.ext hE5 hFp
  have hX := hX.trans hE5 fun x hx hF => by have := hnew x hF; omega
  refine wl_p I_ok rfl (wl (st_al I_ok rfl fun b5 w6 hn5 hb5 hE6 => ?_))
  have hF5 : ¬ F b5 := fun e => by have := hA.lt b5 e; omega
  have nep5 : bp ≠ b5 := Nat.ne_of_lt (Nat.lt_of_lt_of_le hbp.lt hn5)
  have fr5 := Nat.le_trans hX.size hn5
  have hbp := hbp.extNo hE6
  have hX := hX.thenNo hE6
  have hA := hA.extNo hE6
  have hl64 : (bytesL (actBytes 9)).length = 64 := bytesL_len hb9
  refine wl (st_stW I_ok hb5 rfl (by rw [cells_num]) hl64 (by rw [z29, hl64, bytesL_len zeros_length]) one_ints fun w7 hb5 hE7 hs7 => ?_)
  have hb5 : Blk w7 b5 29 (bytesL (actBytes 9)) := hb5
  have hbp := hbp.ext1 hE7 nep5
  have hX := hX.thenNew hE7 fr5
  have hA := hA.ext hE7 fun x hx e => hF5 (e ▸ hx)
  have har := arm_calls w7 hA 0
  rw [wk_5] at har
  refine wl_p I_ok rfl (wl_nil (f_then (c_seq (c_region (wl_p I_ok rfl (wl (st_call Try.call28 rfl rfl rfl rfl rfl rfl har fun v8 w8 hr8 => ?_)))))))
  obtain ⟨rfl, hA, hE8⟩ := hr8
  have hb5 := hb5.ext hE8 hF5
  have hbp := hbp.ext hE8 hFp
  have hX := hX.trans hE8 fun x hx hF => by have := hnew x hF; omega
  refine wl_p I_ok rfl (wl_nil (f_then (c_cutK (α := Unit) [] rfl (fun z => [(0, .bool true)]) (fun z u => Ext No w u) ?_ ?_)))
  · refine c_draw rfl 31 [(0, true), (1, false), (2, false), (3, true), (4, true), (5, true), (6, true), (7, true), (8, true), (9, true), (10, true), (11, true), (12, true), (13, true), (14, false), (15, true), (16, true), (17, true), (18, true), (19, true), (20, true), (21, true), (22, true), (23, false), (24, true), (25, true), (26, true), (27, true), (28, false), (29, true), (30, true)] [] F (by kernel_rfl) fun w9 hE9 hs9 => ?_
    have hX := hX.thenNo hE9
    have hb59 := hb5.extNo hE9
    refine wd_p I_ok rfl (wd_l rfl (st_bs I_ok rfl 1 rfl rfl rfl (by decide) (by decide) (by simp [partsOk]) (l' := [.int .i64 1, .int .i64 2]) rfl fun b41 w10 hn41 hb41 hE10 hs10 => ⟨(hE9.thenNo hE10).no, ?_⟩))
    have hX := hX.thenNo hE10
    have hA := (hA.extNo hE9).extNo hE10
    have hEq := equal_calls w10 (p := some ⟨bp, 0, none⟩) (q := some ⟨b41, 0, none⟩) (c := 2) (c' := 2) (xs := [1, 2]) (ys := [1, 2]) ⟨rfl, .inr ⟨bp, 0, rfl, ((hbp.extNo hE9).extNo hE10).seg⟩⟩ ⟨rfl, .inr ⟨b41, 0, rfl, hb41.seg⟩⟩ (by decide)
    rw [decide_eq_true rfl] at hEq
    refine wd_l rfl (st_call Try.call32 rfl rfl rfl rfl rfl rfl hEq fun v11 w11 hr11 => ⟨((hE9.thenNo hE10).thenNo hr11.2).no, ?_⟩)
    obtain ⟨rfl, hE11⟩ := hr11
    have hX := hX.thenNo hE11
    have hA := hA.extNo hE11
    refine wd_p I_ok rfl ?_
    refine wd_ldN I_ok rfl rfl (fun w' hw' => (hb5.ext hw' hF5).seg) hl64 ?_
    refine wd_bd I_ok rfl rfl (by simp [partsOk, ti35]) (l' := [.int .i64 0, .int .i64 0, .int .u8 9, .slice none 0 0]) rfl (wd_l rfl (st_call Try.call14 rfl rfl rfl rfl rfl rfl (block_calls w11 0 0 9 none 0 0) fun v12 w12 hr12 => ⟨(((hE9.thenNo hE10).thenNo hE11).thenNo hr12.2).no, ?_⟩))
    obtain ⟨rfl, hE12⟩ := hr12
    have hX := hX.thenNo hE12
    have hA := hA.extNo hE12
    have hE912 := ((hE9.thenNo hE10).thenNo hE11).thenNo hE12
    refine wd_eqA (xs := actBytes 9) (ys := actBytes 9) I_ok rfl rfl (by kernel_rfl) rfl rfl hb9 hb9 ?_
    refine wd_caseD 55 rfl (fun _ => ?_) (fun h => absurd rfl h)
    refine wd_p I_ok rfl ?_
    have hsy := sync_calls w12 hA hok5 (by omega)
    rw [wk_6] at hsy
    refine wd_l rfl (st_call Try.call30 rfl rfl rfl rfl rfl rfl hsy fun v13 w13 hr13 => ⟨hE912.no.then hr13.2.2, ?_⟩)
    obtain ⟨rfl, hA, hE13⟩ := hr13
    have hX := hX.trans hE13 fun x hx hF => by have := hnew x hF; omega
    refine wd_p I_ok rfl ?_
    refine wd_l rfl (st_call Try.call29 rfl rfl rfl rfl rfl rfl (dead_calls w13 hA) fun v14 w14 hr14 => ⟨?_, ?_⟩)
    · rw [hr14.2]; exact hE912.no.then hE13
    obtain ⟨rfl, rfl⟩ := hr14
    refine wd_p I_ok rfl (wd_sw (wb_nil ?_))
    exact f_cut () rfl hX
  rintro z w hX
  refine c_ret (f_ret1 rfl rfl ?_)
  exact ⟨rfl, hX⟩
end Go.Proofs.Ytoldbdocgimpnaa
