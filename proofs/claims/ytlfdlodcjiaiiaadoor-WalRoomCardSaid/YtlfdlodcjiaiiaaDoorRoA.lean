/-
  WalRoom: what has room comes, and what has none is refused by just that, and changes nothing.
-/
import Derived.Test.YtlfdlodcjiaiiaaDoorTie
import Derived.Test.YtlfdlodcjiaiiaaDoorCards
import Derived.SevenTiedAt
import Derived.Test.YtlfdlodcjiaiiaaDoorSenA
namespace Go.Proofs.YtlfdlodcjiaiiaaDoor
open Go.Vc
theorem room_step {n m : Nat} {W : Wl} (h : LiveOk n m W) (ht : W.turn < 4294967295) (o : DeedD) (room k : Nat) (hroom : (room : Int) = if whichD o = 1 then (n : Int) else (n : Int) - W.used) (hk : k = sectN (lenD o)) :
    (putD W o).2 = (if room < k then 6 else 0) ∧ (room < k → (putD W o).1 = W) ∧ (k ≤ room → (putD W o).1.used + (room - k) = n ∧ (putD W o).1.turn = W.turn + (if whichD o = 1 then 1 else 0)) := by
  have hl := lenD_lt o
  have hrf : ∀ r : Int, W.refuses (bytesD o) r = if r < (k : Int) then 6 else 0 := fun r => by
    unfold Wl.refuses
    rw [bytesD_len, if_neg (by omega), if_neg (by rw [h.well]; decide), hk]
  have hsz := h.size
  unfold putD
  by_cases hw : whichD o = 1
  · rw [if_pos hw] at hroom ⊢
    rw [if_pos hw]
    obtain ⟨a1, a2, a3, a4, a5⟩ := ckp_calm h.calm h.ok (bytesD o) _ rfl
    rw [if_neg (by omega), hrf, hsz] at a1 a4 a5
    refine ⟨by rw [a1]; by_cases hc : room < k; rw [if_pos hc, if_pos (by omega)]; rw [if_neg hc, if_neg (by omega)], fun hc => a5 (by rw [if_pos (by omega)]; decide), fun hc => ?_⟩
    have a6 := a4 (by rw [if_neg (by omega)])
    rw [a6]
    dsimp only
    rw [bytesD_len, ← hk]
    omega
  · rw [if_neg hw] at hroom ⊢
    rw [if_neg hw]
    obtain ⟨a1, a2, a3, a3', a4, a5⟩ := append_calm h.calm h.ok (bytesD o)
    rw [hrf, hsz] at a1 a4 a5
    refine ⟨by rw [a1]; by_cases hc : room < k; rw [if_pos hc, if_pos (by omega)]; rw [if_neg hc, if_neg (by omega)], fun hc => a5 (by rw [if_pos (by omega)]; decide), fun hc => ?_⟩
    have a6 := a4 (by rw [if_neg (by omega)])
    rw [a6]
    dsimp only
    rw [bytesD_len, ← hk]
    omega
/-- a deed of this law -/
def roomD (o : DeedD) : DeedD := if 0 < whichD o then { o with kind := 3 } else o
theorem roomD_which (o : DeedD) : whichD (roomD o) = if 0 < whichD o then 1 else 0 := by
  unfold roomD
  split
  · show u64N 3 % 7 - 2 = 1
    decide
  · omega
theorem roomD_len (o : DeedD) : lenD (roomD o) = lenD o := by
  unfold roomD
  split <;> rfl
theorem room_live {n m : Nat} {W : Wl} (h : LiveOk n m W) (o : DeedD) : LiveOk n (m + 2000) (putD W (roomD o)).1 := by
  have e := step_live h (roomD o)
  rwa [show stepD W (roomD o) = (putD W (roomD o)).1 from if_neg (by rw [roomD_which]; split <;> omega)] at e
theorem walroom_calls (w : World) (hr : Rt w) (area : Int) {p : Option Addr} {c : Nat} {l : List DeedD} (hs : Sl w p l.length 4 (l.flatMap DeedD.cells)) (hc : l.length ≤ c) :
    CallsV Tryd.prog 3 [.int .i64 area, .slice p l.length c] w fun v w' => v = .bool true ∧ Ext No w w' := by
  refine calls_enter Tryd.func3 rfl rfl rfl rfl ?_
  have hX := Ext.refl No w
  have hr0 := hr.lt
  have hrt := hr
  have hsl := hs
  have hn36 : (l.take 36).length = min l.length 36 := by rw [List.length_take, Nat.min_comm]
  have h24 := Nat.mod_lt (u64N area) (by decide : 0 < 24)
  refine c_seq (c_region (wl_p I_ok rfl (wl_nil (f_then (c_seq (c_seq (c_region (wl (st_call Tryd.call8 rfl rfl rfl rfl rfl rfl (wakes_calls w hrt) fun v1 w1 hr1 => ?_)))))))))
  obtain ⟨rfl, hE1⟩ := hr1
  have hrt := Rt.ext hrt hE1 id
  have hX := hX.thenNo hE1
  refine wl_p I_ok rfl (wl_nil (f_then (c_condF rfl (c_skip (f_then (c_seq (c_region (wl_p I_ok rfl ?_))))))))
  rw [show IntKind.i64.wrap ((IntKind.u64.wrap area).tmod 24) = ((u64N area % 24 : Nat) : Int) from u64_mod area 24 (by decide) (by decide)]
  refine wl_p I_ok rfl ?_
  rw [IntWalk.i64_in _ (by omega)]
  obtain ⟨n, hn⟩ : ∃ n, n = 4 + u64N area % 24 := ⟨_, rfl⟩
  have hn4 : 4 ≤ n ∧ n ≤ 1000 := by omega
  rw [show (4 : Int) + ((u64N area % 24 : Nat) : Int) = (n : Int) from by omega]
  refine wl_p I_ok rfl (wl_nil (f_then (c_seq (c_region (wl_p I_ok rfl ?_)))))
  have hX0 := hX
  refine wl (st_call Tryd.call9 rfl rfl rfl rfl rfl rfl (lived_calls w1 hrt (a := n) hn4 (p := none) (c := 0) (l := []) (Sl.nil _ _ _) (Nat.le_refl _)) fun v2 w2 hr2 => ?_)
  obtain ⟨d, x, z0, rfl, hlv, hE2⟩ := hr2
  have hrt := Rt.ext hrt hE2 id
  have hX := hX.thenNo hE2
  have hlv : LvI w w2 d x (livedD n []) (livedD n []).pieces z0 := ⟨hlv.at_, hlv.log, hlv.tale, fun y hy => ⟨by have := (hlv.lo y hy).1; have := hX0.size; omega, (hlv.lo y hy).2⟩, hlv.hf, hlv.gf, hlv.rt⟩
  have hlive : LiveOk n 6000 (livedD n []) := (start_live hn4).2
  have hu0 : (livedD n []).used = 1 ∧ (livedD n []).turn = 0 := ⟨rfl, rfl⟩
  obtain ⟨W0, hW0⟩ : ∃ W, W = livedD n [] := ⟨_, rfl⟩
  rw [← hW0] at hlv hlive hu0
  have hsz0 := hlive.size
  refine wl_p I_ok rfl (wl_nil (f_then (c_seq (c_cutK (α := Bool) [1, 5, 7, 8] rfl (fun z => [(41, .bool z)]) (fun z u => (z = false ∧ LvI w u d x W0 W0.pieces z0) ∧ Ext No w u) ?_ ?_))))
  · refine c_region ?_
    refine wl_p I_ok rfl (wl_case 35 rfl (fun hg => ?_) (fun hg => ?_))
    · cases hg
    · refine wl_pk I_ok 1 rfl ?_
      refine wl (st_call Tryd.call10 rfl rfl rfl rfl rfl rfl (left_calls w2 hlv.log (by omega) (by omega)) fun v3 w3 hr3 => ?_)
      obtain ⟨rfl, hE3⟩ := hr3
      have hlv := hlv.extNo hE3
      have hX := hX.thenNo hE3
      rw [show ((W0.size : Int) - W0.used) = (n : Int) - 1 from by omega]
      refine wl_pk I_ok 4 rfl ?_
      rw [IntWalk.i64_in _ (by omega)]
      refine wl_nil ?_
      exact f_cut (decide ((n : Int) - 1 ≠ (n : Int) - 1)) rfl ⟨⟨by simp, hlv⟩, hX⟩
  rintro z w4 ⟨⟨rfl, hlv⟩, hX⟩
  refine c_condF rfl (c_skip (f_then (c_seq (c_region (wl_p I_ok rfl ?_)))))
  rw [IntWalk.i64_in _ (by omega)]
  refine wl_nil (f_then (c_seq (c_seq (c_region (wl_p I_ok rfl (wl (st_call Tryd.call11 rfl rfl rfl rfl rfl rfl (some_calls w4 hc) fun v5 w5 hr5 => ?_)))))))
  obtain ⟨rfl, rfl⟩ := hr5
  rw [show ((n : Int) - 1) = (W0.size : Int) - W0.used from by omega, show Value.int .u32 0 = .int .u32 (W0.turn : Int) from by rw [hu0.2]; rfl]
  refine wl_p I_ok rfl (wl_nil (f_then (c_block ?_)))
  refine c_loopK (α := Nat × Wl × LvZ) [5, 7, 45, 46] rfl (fun z => [(8, z.2.2.2.2.1), (10, .int .i64 ((z.2.1.size : Int) - z.2.1.used)), (11, .int .u32 (z.2.1.turn : Int)), (47, .int .i64 (z.1 : Int))]) (fun z u => (z.1 ≤ (l.take 36).length ∧ LiveOk n (6000 + 2000 * z.1) z.2.1 ∧ z.2.1.turn ≤ z.1 ∧ LvI w u d x z.2.1 z.2.1.pieces z.2.2) ∧ Ext No w u) (fun z u => (l.take 36).length - z.1) (0, W0, z0) rfl ⟨⟨Nat.zero_le _, hlive, by dsimp only; omega, hlv⟩, hX⟩ ?_
  rintro ⟨i, W, z0⟩ w6 ⟨⟨hi, hlive, htu, hlv⟩, hX⟩
  try dsimp only
  dsimp only at hi hlive htu hlv
  refine c_seq (c_region (wl_p I_ok rfl (wl_nil (f_then (c_seq (c_if rfl (fun hc => ?_) (fun hc => ?_)))))))
  · have hil : i < (l.take 36).length := by omega
    have hi2 : i < l.length := by omega
    have hsw : Sl w6 p l.length 4 (l.flatMap DeedD.cells) := hsl.extNo hX
    obtain ⟨pb, po, rfl, hsr⟩ := hsw.rowAll (fun r _ => deed_len r) (by omega)
    have hlvl := hlv.lo
    obtain ⟨o, ho⟩ : ∃ o, o = l[i] := ⟨_, rfl⟩
    have hrm0 := hlive.ok.room
    have hsz := hlive.size
    refine c_skip (f_then (c_seq (c_block (c_seq (c_region (wl (st_ix I_ok rfl 4 rfl i rfl (by omega) (po + i * 4) rfl (wl (st_ldN I_ok rfl (hsr i hi2) (deed_len _) ?_)))))))))
    rw [← ho]
    have hlvb := hlv.lo
    refine wl (st_al I_ok rfl fun b13 w7 hn13 hb13 hE7 => ?_)
    have fr13 := Nat.le_trans hX.size hn13
    have hlv := hlv.extNo hE7
    have hX := hX.thenNo hE7
    have hnb : ∀ y, z0.1 y ∨ z0.2.1 y ∨ z0.2.2.2 y → y ≠ b13 := fun y hy e => by have := (hlvb y hy).2; omega
    refine wl (st_stW (l' := o.cells) I_ok hb13 rfl rfl (deed_len _) (deed_len _) (deed_one _) fun w8 hb13 hE8 hs8 => ?_)
    have hlv := hlv.ext hE8 (fun y hy e => by have e : y = b13 := e; exact hnb y hy e) (fun e => by have e : 0 = b13 := e; omega)
    have hX := hX.thenNew hE8 fr13
    have hb13 : Blk w8 b13 36 (o.cells) := hb13
    refine wl_nil (f_then (c_seq (c_region (wl_p I_ok rfl (wl_nil (f_then ?_))))))
    refine c_cutK (α := Nat) [5, 7, 8, 10, 11, 13, 45, 46, 47] rfl (fun z => [(14, .int .i64 (z : Int))]) (fun z u => (((z : Int) = if whichD (roomD o) = 1 then (n : Int) else (n : Int) - W.used) ∧ LvI w u d x W W.pieces z0) ∧ Blk u b13 36 ((roomD o).cells) ∧ Ext No w u) ?_ ?_
    · refine c_seq ?_
      refine c_region (wl (st_ldB I_ok hb13 rfl rfl (wl (st_call Tryd.call12 rfl rfl rfl rfl rfl rfl (which_calls w8 o) fun v9 w9 hr9 => ?_))))
      obtain ⟨rfl, hE9⟩ := hr9
      have hb13 := hb13.extNo hE9
      have hlv := hlv.extNo hE9
      have hX := hX.thenNo hE9
      refine wl_p I_ok rfl (wl_nil (f_then (c_if rfl (fun hc => ?_) (fun hc => ?_))))
      · have hrm : roomD o = { o with kind := 3 } := if_pos (by omega)
        refine c_region (wl_p I_ok rfl (wl (st_st I_ok hb13 rfl rfl rfl fun w10 hb13 hE10 hs10 => ?_)))
        have hlv := hlv.ext hE10 (fun y hy e => by have e : y = b13 := e; exact hnb y hy e) (fun e => by have e : 0 = b13 := e; omega)
        have hX := hX.thenNew hE10 fr13
        have hb13 : Blk w10 b13 36 ((roomD o).cells) := (by rw [hrm]; exact hb13)
        refine wl_p I_ok rfl (wl_nil ?_)
        exact f_cut (n) rfl ⟨⟨by rw [if_pos (by rw [roomD_which, if_pos (by omega)])], hlv⟩, hb13, hX⟩
      · have hrm : roomD o = o := if_neg (by omega)
        rw [show ((W.size : Int) - W.used) = ((n - W.used : Nat) : Int) from by omega]
        have hb13 : Blk w9 b13 36 (roomD o).cells := by rw [hrm]; exact hb13
        refine c_skip ?_
        exact f_cut (n - W.used) rfl ⟨⟨by rw [if_neg (by rw [roomD_which, if_neg (by omega)]; decide)]; omega, hlv⟩, hb13, hX⟩
    rintro room w11 ⟨⟨hroom, hlv⟩, hb13, hX⟩
    refine c_seq (c_region ?_)
    have hl2 := lenD_lt (roomD o)
    obtain ⟨k, hk⟩ : ∃ k, k = sectN (lenD (roomD o)) := ⟨_, rfl⟩
    have hkq : k = (lenD (roomD o) + 3) / 48 + 1 := by rw [hk]; exact if_neg (by omega)
    have hpl0 := hlive.ok.few
    have hpz0 := hlive.ok.size.2
    obtain ⟨a1, a2, a3⟩ := room_step hlive (by omega) (roomD o) room k hroom hk
    have hlive2 := room_live hlive o
    have hpc := (put_calm hlive.calm hlive.ok (roomD o)).2.2.1
    obtain ⟨W2, hW2⟩ : ∃ W2, W2 = putD W (roomD o) := ⟨_, rfl⟩
    rw [← hW2] at a1 a2 a3 hlive2 hpc
    have hpl := hlive2.ok.few
    have hpz := hlive2.ok.size.2
    have hsz := hlive.size
    have hsz2 := hlive2.size
    have hrm2 := hlive2.ok.room
    have hwr : whichD (roomD o) ≤ 1 := by rw [roomD_which]; split <;> omega
    have htu2 : W2.1.turn ≤ i + 1 := by
      rcases Nat.lt_or_ge room k with h | h
      · rw [a2 h]; omega
      · rw [(a3 h).2]; split <;> omega
    refine wl (st_ldB I_ok hb13 rfl rfl (wl (st_call Tryd.call13 rfl rfl rfl rfl rfl rfl (dbytes_calls w11 (roomD o)) fun v12 w12 hr12 => ?_)))
    obtain ⟨q14, c14, rfl, _, _, hE12⟩ := hr12
    have hb13 := hb13.extNo hE12
    have hlv := hlv.extNo hE12
    have hX := hX.thenNo hE12
    rw [bytesD_len]
    refine wl_p I_ok rfl ?_
    rw [IntWalk.i64_in ((lenD (roomD o) : Int) + 4) (by omega), IntWalk.i64_in ((lenD (roomD o) : Int) + 4 + 47) (by omega), show IntKind.i64.wrap (((lenD (roomD o) : Int) + 4 + 47).tdiv 48) = (k : Int) from by rw [show ((lenD (roomD o) : Int) + 4 + 47) = ((lenD (roomD o) + 51 : Nat) : Int) from by omega, Int.tdiv_eq_ediv_of_nonneg (Int.natCast_nonneg _), IntWalk.i64_in _ (by omega)]; omega]
    refine wl_p I_ok rfl (wl_nil (f_then (c_seq (c_region (wl_p I_ok rfl (wl_nil (f_then ?_)))))))
    refine c_cutK (α := Int) [5, 7, 8, 10, 11, 13, 14, 15, 45, 46, 47] rfl (fun z => [(16, .int .i64 z)]) (fun z u => ((z = if room < k then 6 else 0) ∧ LvI w u d x W W.pieces z0) ∧ Blk u b13 36 ((roomD o).cells) ∧ Ext No w u) ?_ ?_
    · refine c_seq ?_
      refine c_region (wl_p I_ok rfl (wl_nil (f_then (c_if rfl (fun hc => ?_) (fun hc => ?_)))))
      · refine c_region ?_
        refine wl_p I_ok rfl (wl_nil ?_)
        exact f_cut (6) rfl ⟨⟨(if_pos (by omega)).symm, hlv⟩, hb13, hX⟩
      · refine c_skip ?_
        exact f_cut (0) rfl ⟨⟨(if_neg (by omega)).symm, hlv⟩, hb13, hX⟩
    rintro wt w13 ⟨⟨hwt, hlv⟩, hb13, hX⟩
    refine c_seq (c_seq (c_region (wl_p I_ok rfl (wl (st_ldB I_ok hb13 rfl rfl ?_)))))
    refine wl (st_call Tryd.call14 rfl rfl rfl rfl rfl rfl (lput_calls w13 (roomD o) hlv.log hlv.at_ hlive.dk (by omega) hlive.ok hlv.rt (fun e => by have := (hlv.lo 0 (.inl e)).1; omega) hlv.hf) fun v14 w14 hr14 => ?_)
    obtain ⟨rfl, hq2⟩ := hr14
    obtain ⟨_, hXp, hEp, F3, H3, hlv3⟩ := hlv.put hr0 hX ⟨rfl, hq2⟩
    have hb13 := hb13.ext hEp fun e => (e.elim (fun e => hnb _ (.inl e) rfl) fun e => hnb _ (.inr (.inl e)) rfl)
    have hX := hXp
    rw [← hW2] at hlv3 ⊢
    rw [a1, ← hwt]
    refine wl_p I_ok rfl (wl_nil (f_then (c_if rfl (fun hc => ?_) (fun hc => ?_))))
    · exact absurd hc (by omega)
    · refine c_skip ?_
      refine f_then ?_
      refine c_cutK (α := LvZ) [5, 7, 45, 46, 47] rfl (fun z => [(8, z.2.2.1), (10, .int .i64 ((W2.1.size : Int) - W2.1.used)), (11, .int .u32 (W2.1.turn : Int))]) (fun z u => (LvI w u d x W2.1 W2.1.pieces z) ∧ Blk u b13 36 ((roomD o).cells) ∧ Ext No w u) ?_ ?_
      · refine c_seq ?_
        refine c_region (wl_p I_ok rfl (wl_nil (f_then (c_if rfl (fun hc => ?_) (fun hc => ?_)))))
        · have hkr : k ≤ room := by
            rcases Nat.lt_or_ge room k with h | h
            · rw [if_pos h] at hwt; omega
            · exact h
          obtain ⟨a4, a5⟩ := a3 hkr
          rw [if_pos (by rw [a1, ← hwt]; exact hc)] at hpc
          refine c_seq (c_region (wl_p I_ok rfl (wl (st_ldB I_ok hb13 rfl rfl ?_))))
          have hlv3o := hlv3
          have hX3 := hX
          refine wl (st_call Tryd.call15 rfl rfl rfl rfl rfl rfl (then_calls w14 (roomD o) hlv3.tale (fun y hy => (hlv3.lo y (.inr (.inr hy))).2) (by omega)) fun v15 w15 hr15 => ?_)
          obtain ⟨G4, ht4, hG4, hG4l, hE15⟩ := hr15
          have hb13 := hb13.extNo hE15
          have hlv3 := hlv3.extNo hE15
          have hX := hX.thenNo hE15
          have hlv4 := hlv3o.then hX3 hE15 ht4 hG4 hG4l
          obtain ⟨tv4, htv4⟩ : ∃ t, t = v15 := ⟨_, rfl⟩
          rw [← htv4] at hlv4 ⊢
          refine wl_p I_ok rfl ?_
          rw [IntWalk.i64_in _ (by omega)]
          rw [show ((room : Int) - (k : Int)) = (W2.1.size : Int) - W2.1.used from by omega]
          refine wl_p I_ok rfl (wl_nil (f_then (c_region (wl_p I_ok rfl (wl (st_ldB I_ok hb13 rfl rfl (wl (st_call Tryd.call12 rfl rfl rfl rfl rfl rfl (which_calls w15 (roomD o)) fun v16 w16 hr16 => ?_))))))))
          obtain ⟨rfl, hE16⟩ := hr16
          have hb13 := hb13.extNo hE16
          have hlv3 := hlv3.extNo hE16
          have hlv4 := hlv4.extNo hE16
          have hX := hX.thenNo hE16
          refine wl_p I_ok rfl ?_
          rw [show IntKind.u32.wrap ((W.turn : Int) + IntKind.u32.wrap (whichD (roomD o) : Int)) = (W2.1.turn : Int) from by
            rw [IntKind.wrap_u32, IntKind.wrap_u32, a5, show (if whichD (roomD o) = 1 then 1 else 0) = whichD (roomD o) from by split <;> omega]
            omega]
          refine wl_p I_ok rfl (wl_nil ?_)
          exact f_cut ((F3, H3, tv4, G4)) rfl ⟨(by rw [hpc]; exact hlv4), hb13, hX⟩
        · have hrk : room < k := by
            rcases Nat.lt_or_ge room k with h | h
            · exact h
            · rw [if_neg (by omega)] at hwt; omega
          have hWW := a2 hrk
          rw [show ((W.size : Int) - W.used) = ((W2.1.size : Int) - W2.1.used) from by rw [hWW], show (W.turn : Int) = (W2.1.turn : Int) from by rw [hWW]]
          refine c_skip ?_
          exact f_cut ((F3, H3, z0.2.2.1, z0.2.2.2)) rfl ⟨(by rw [show W2.1.pieces = W.pieces from by rw [hWW]]; exact hlv3), hb13, hX⟩
      rintro z3 w17 ⟨hlv5, hb13, hX⟩
      refine c_seq (c_region (wl_p I_ok rfl (wl (st_call Tryd.call16 rfl rfl rfl rfl rfl rfl (tells_calls w17 hlv5.log hlive2.ok) fun v18 w18 hr18 => ?_))))
      obtain ⟨tv6, G6, rfl, hta6, hG6, hE18⟩ := hr18
      have hb13 := hb13.extNo hE18
      have hlv5 := hlv5.extNo hE18
      have hX := hX.thenNo hE18
      refine wl_p I_ok rfl (wl_nil (f_then (c_cutK (α := Bool) [5, 7, 8, 10, 11, 45, 46, 47] rfl (fun z => [(112, .bool z)]) (fun z u => (z = false ∧ LvI w u d x W2.1 W2.1.pieces z3) ∧ Blk u b13 36 ((roomD o).cells) ∧ Ext No w u) ?_ ?_)))
      · refine c_region ?_
        refine wl_p I_ok rfl (wl_case 91 rfl (fun hg => ?_) (fun hg => ?_))
        · cases hg
        · refine wl_pk I_ok 2 rfl ?_
          refine wl (st_call Tryd.call17 rfl rfl rfl rfl rfl rfl (is_calls w18 hlv5.tale hta6 (by omega)) fun v19 w19 hr19 => ?_)
          obtain ⟨rfl, hE19⟩ := hr19
          have hb13 := hb13.extNo hE19
          have hlv5 := hlv5.extNo hE19
          have hta6 := hta6.extNo hE19
          have hX := hX.thenNo hE19
          rw [decide_eq_true rfl]
          refine wl_pk I_ok 3 rfl (wl_case 97 rfl (fun hg => ?_) (fun hg => ?_))
          · cases hg
          · refine wl_pk I_ok 1 rfl ?_
            refine wl (st_call Tryd.call10 rfl rfl rfl rfl rfl rfl (left_calls w19 hlv5.log (by omega) (by omega)) fun v20 w20 hr20 => ?_)
            obtain ⟨rfl, hE20⟩ := hr20
            have hb13 := hb13.extNo hE20
            have hlv5 := hlv5.extNo hE20
            have hta6 := hta6.extNo hE20
            have hX := hX.thenNo hE20
            refine wl_pk I_ok 4 rfl (wl_caseD 103 rfl (fun hg => ?_) (fun hg => ?_))
            · exact absurd hg (by omega)
            · refine wl_pk I_ok 1 rfl ?_
              refine wl (st_call Tryd.call18 rfl rfl rfl rfl rfl rfl (turn_calls w20 hlv5.log) fun v21 w21 hr21 => ?_)
              obtain ⟨rfl, hE21⟩ := hr21
              have hb13 := hb13.extNo hE21
              have hlv5 := hlv5.extNo hE21
              have hta6 := hta6.extNo hE21
              have hX := hX.thenNo hE21
              refine wl_pk I_ok 4 rfl (wl_caseD 109 rfl (fun hg => ?_) (fun hg => ?_))
              · exact absurd hg (by omega)
              · refine wl_pk I_ok 1 rfl ?_
                refine wl (st_call Tryd.call19 rfl rfl rfl rfl rfl rfl (broken_calls w21 hlv5.log) fun v22 w22 hr22 => ?_)
                obtain ⟨rfl, hE22⟩ := hr22
                have hb13 := hb13.extNo hE22
                have hlv5 := hlv5.extNo hE22
                have hta6 := hta6.extNo hE22
                have hX := hX.thenNo hE22
                rw [hlive2.well]
                refine wl_p I_ok rfl (wl_nil ?_)
                exact f_cut (false) rfl ⟨⟨rfl, hlv5⟩, hb13, hX⟩
      rintro z w23 ⟨⟨rfl, hlv5⟩, hb13, hX⟩
      refine c_condF rfl (c_skip (f_blockN (f_then (c_region (wl_p I_ok rfl ?_)))))
      rw [IntWalk.i64_in _ (by omega)]
      refine wl_nil ?_
      exact f_round (i + 1, W2.1, z3) rfl ⟨⟨by dsimp only; omega, by dsimp only; rw [show 6000 + 2000 * (i + 1) = 6000 + 2000 * i + 2000 from by omega]; exact hlive2, htu2, hlv5⟩, hX⟩ (by first | omega | (dsimp only; omega))
  · refine c_exit ?_
    refine f_thenE (f_thenE (f_blockE (f_then (c_seq (c_region (wl_p I_ok rfl (wl_nil (f_then (c_ret (f_ret1 rfl rfl ?_))))))))))
    exact ⟨rfl, hX⟩
end Go.Proofs.YtlfdlodcjiaiiaaDoor
namespace Go.Proofs.YtlfdlodcjiaiiaaDoor
open Go.Vc Go.ChangeShapes Go.WideShapes Go.ChangeAt Go.RowKit Go

set_option maxRecDepth 100000 in
theorem room_lifted (os : Os) (started : os.Started) (H : Type) (enc : TypeId × Value → H) :
    ReturnsInHanded {} Tryd.checked os 3 .any (fun w args => (Rows.walRoomSpec.pre enc Tryd.prog Tryd.f3 [] false w args ∧ laidMetH Tryd.prog laidR w) ∧ sizedMet enc Tryd.prog Tryd.f3 (OpenSpec.ofChange Rows.walRoomSpec) false w args)
      (Rows.walRoomSpec.post enc Tryd.prog Tryd.f3 false true false false) := by
  refine returnsInHanded_of_change_and (C := Tryd.checked) (X := fun w _ => laidMetH Tryd.prog laidR w) (fun _ _ _ hh h => h.of_heap hh) own started (by kernel_rfl) Tryd.func3
    (ChangeSpec.witness_shaped (enc := enc) (C := Tryd.checked) (os := os) (X := fun w _ => laidMetH Tryd.prog laidR w) false (World.doorLaid Tryd.prog 400 os) #[.int .i64 0, .slice none 0 0] 40 rfl (World.shaped_of_RefB (by kernel_rfl) (by kernel_rfl)) (by kernel_rfl) (by kernel_rfl) (by kernel_rfl) (door_met os _)) ?_
  intro W base args ds gs before hval0 hW _ _ hL _
  have hval : ∀ (j : Nat) t v, Tryd.f3.params[j]? = some t → args[j]? = some v → Value.okWide Tryd.prog W .any base t v := hval0
  have hW' := hW
  obtain ⟨p, q, hA0, hV, rfl, hfz, hnd⟩ := hW
  have hA : DataW.TrodAll enc Tryd.prog W 0 (fun _ => true) true Tryd.f3.params.toList args.toList ds p := hA0
  rw [Tryd.params3] at hA hval
  obtain ⟨v0, vs0, d0, ds0, p0, q0, hargs, rfl, rfl, h0, r0⟩ := trodAll_cons hA
  obtain ⟨v1, vs1, d1, ds1, p1, q1, rfl, rfl, rfl, h1, r1⟩ := trodAll_cons r0
  obtain ⟨rfl, rfl, rfl⟩ := trodAll_nil r1
  obtain rfl : args = #[v0, v1] := by cases args; simp_all
  obtain ⟨rfl, rfl⟩ := trodVars_none hV
  have w0 := hval 0 3 v0 rfl rfl
  have w1 := hval 1 22 v1 rfl rfl
  obtain ⟨k0, h0⟩ := h0
  obtain ⟨k1, h1⟩ := h1
  obtain ⟨n1, rfl⟩ := okWide_int Tryd.underlying3 w0
  obtain ⟨a0, len, cap, rfl⟩ := okWide_slice Tryd.underlying22 w1
  obtain ⟨p9, l9, c9, e0, hc9, hs, hin, _⟩ := open_deeds h1
  simp only [Value.cells, List.cons.injEq, and_true, Value.slice.injEq] at e0
  obtain ⟨rfl, rfl, rfl⟩ := e0
  clear hA0 hval0
  simp only [List.append_nil] at hW'
  refine Calls.mono (walroom_calls W (roots_of hL) n1 hs hc9) fun e W' he => ?_
  cases e with
  | returned v =>
    obtain ⟨rfl, hE⟩ : v = .bool true ∧ Ext No W W' := he
    refine ⟨_, rfl, post_true (by kernel_rfl) (by kernel_rfl) (by kernel_rfl) hW' rfl (by kernel_rfl) (by kernel_rfl) Tryd.underlying4 rfl rfl rfl hE⟩
  | panicked _ => exact he.elim
  | outgrown => exact he.elim
theorem room_row : Rows.WalRoomSaid :=
  OpenClaim.holds_of_wide 3 Tryd.f3 rfl rfl rfl rfl rfl rfl rfl ⟨rfl, rfl, rfl, rfl, rfl⟩ rfl rfl rfl rfl rfl (by kernel_rfl) Tryd.func3 (by kernel_rfl)
    (of_decide_eq_true (by kernel_rfl)) (by unfold Func.isWrapper; first | (rw [if_pos (by decide +kernel)]; kernel_rfl) | (rw [if_neg (by decide +kernel)]; exact ⟨rfl, rfl⟩))
    (fun os started H enc _ => room_lifted os started H enc)
theorem room_holds : Rows.WalRoomCardSaid :=
  Claim7.holds_tied_plain_at .later [] [.data] true Rows.walRoomCard.stood.harness false
    room_row (fun _ h => by cases h) (by kernel_rfl) (fun _ h => by cases h) walRoom_row_tie rfl ⟨rfl, rfl⟩ (by kernel_rfl) rfl
    (fun f fn hf hfn => by
      obtain rfl : f = 3 := Option.some.inj ((show Tryd.prog.funcNamed "confluence/confluencelaw04.WalRoom" = some 3 by kernel_rfl).symm.trans hf) |>.symm
      obtain rfl : fn = Tryd.f3 := (Option.some.inj (Tryd.func3.symm.trans hfn)).symm
      exact ⟨by kernel_rfl, fun j t ht => by
        rw [Tryd.params3] at ht
        have hm : t ∈ [3, 22] := by have := Array.mem_of_getElem? ht; simpa using this
        have hall : ([3, 22].all fun u => !Tryd.prog.wantsStandIn u) = true := by kernel_rfl
        exact (show Tryd.prog.wantsStandIn t = false by simpa using List.all_eq_true.1 hall t hm)⟩)
    (by kernel_rfl)

end Go.Proofs.YtlfdlodcjiaiiaaDoor
