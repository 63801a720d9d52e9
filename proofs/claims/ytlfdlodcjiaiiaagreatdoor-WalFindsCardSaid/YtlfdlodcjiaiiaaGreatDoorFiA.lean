/-
  WalFinds: whatever stands in sectors, what a disk is opened to is as the document says, and what noughts are written over; opened again, too.
-/
import Derived.Test.YtlfdlodcjiaiiaaGreatDoorTie
import Derived.Test.YtlfdlodcjiaiiaaGreatDoorCards
import Derived.SevenTiedAt
import Derived.Test.YtlfdlodcjiaiiaaGreatDoorSamF
namespace Go.Vc
section
variable {P : Program} {I : Info} {f : Fs} {ops : Array Oper} {o : Oper} {env : Env} {w : World}
/-- a quotient or a rest, by a number that is a variable -/
def dvE (n : Nat) (ops : Array Oper) (env : Env) (o : Oper) : Option (Bool × IntKind × Int × Int × Nat) :=
  match pre n ops env o with
  | false => none
  | true => match o.dst with
    | some d => match o.op with
      | .binOp op _ x y _ => match evO env x with
        | some (.int k p) => match evO env y with
          | some (.int k' q) => match decide (k = k') with
            | true => match op with
              | .quo => some (true, k, p, q, d)
              | .rem => some (false, k, p, q, d)
              | _ => none
            | false => none
          | _ => none
        | _ => none
      | _ => none
    | none => none
def dvV (b : Bool) (k : IntKind) (p q : Int) : Value := if b then .int k (k.wrap (p.tdiv q)) else .int k (p.tmod q)
theorem dvE_pev {n : Nat} {b : Bool} {k : IntKind} {p q : Int} {d : Nat} (h : dvE n ops env o = some (b, k, p, q, d)) (hq : q ≠ 0) : pre n ops env o = true ∧ o.dst = some d ∧ pev I o.op env = some (dvV b k p q) := by
  unfold dvE at h
  split at h
  · cases h
  · rename_i hp
    split at h
    · rename_i d' hd
      split at h
      · rename_i op' t x y u ho
        split at h
        · rename_i k' p' hx
          split at h
          · rename_i k2 q' hy
            split at h
            · rename_i hk
              have hk : k' = k2 := of_decide_eq_true hk
              subst hk
              split at h
              all_goals first
                | (cases h; done)
                | (simp only [Option.some.injEq, Prod.mk.injEq] at h
                   obtain ⟨rfl, rfl, rfl, rfl, rfl⟩ := h
                   refine ⟨hp, hd, ?_⟩
                   have hn : decide (q' = 0) = false := decide_eq_false hq
                   rw [ho]
                   simp only [pev, hx, hy, bin, isShift, intBin, hn]
                   simp [dvV])
            · cases h
          · cases h
        · cases h
      · cases h
    · cases h
theorem wd_dv (hI : I.Ok P) {K : Act → World → Prop} {r : Dr} {i : Nat} {pl : List (Nat × Bool)} {dn : List Nat} (ho : ops[i]? = some o) {b : Bool} {k : IntKind} {p q : Int} {d : Nat} (h : dvE f.n ops env o = some (b, k, p, q, d)) (hq : q ≠ 0)
    (kk : WD P f ops K r pl (i :: dn) ((d, dvV b k p q) :: env) w) : WD P f ops K r ((i, true) :: pl) dn env w := by
  obtain ⟨h1, h2, h3⟩ := dvE_pev (I := I) h hq
  exact wd_q ho h1 h2 (fun w' _ => pev_sound hI h3 w') kk
theorem st_dv (hI : I.Ok P) {K : Env → World → Prop} {b : Bool} {k : IntKind} {p q : Int} {d : Nat} (h : dvE f.n ops env o = some (b, k, p, q, d)) (hq : q ≠ 0)
    (kk : K ((d, dvV b k p q) :: env) w) : St P f ops o env w K := by
  obtain ⟨h1, h2, h3⟩ := dvE_pev (I := I) h hq
  obtain ⟨h4, h5⟩ := pre_eq h1
  exact st_v h4 h5 (pev_sound hI h3 w) (by rw [h2]; exact kk)
end
end Go.Vc
namespace Go.Proofs.YtlfdlodcjiaiiaaGreatDoor
open Go.Vc
/-- a sector that is written over -/
structure SpotD where
  at_ : Int
  of_ : Int
  blk : Bytes
def SpotD.cells (o : SpotD) : List Value := [.int .i64 o.at_, .int .i64 o.of_] ++ bytesU o.blk
def SpotOk (o : SpotD) : Prop := o.blk.length = 64
theorem spot_len {o : SpotD} (h : SpotOk o) : o.cells.length = 66 := by
  unfold SpotD.cells
  rw [List.length_append, bytesU_64 h]; rfl
theorem spot_one (o : SpotD) : ∀ v ∈ o.cells, v.oneCell' = true := fun v hv => by
  rcases List.mem_append.1 hv with h | h
  · simp only [List.mem_cons, List.not_mem_nil, or_false] at h
    rcases h with rfl | rfl <;> rfl
  · exact one_bytes v h
theorem spot_put {o : SpotD} (h : SpotOk o) {b : Bytes} (hb : b.length = 64) : put o.cells (0 + 2) (cellsOf (numB b)) = [.int .i64 o.at_, .int .i64 o.of_] ++ bytesU b := by
  have e1 : cellsOf (numB b) = bytesU b := cellsOf_agg _
  rw [e1, put_eq _ _ _ (by rw [bytesU_64 hb, spot_len h]; exact Nat.le_refl _), bytesU_64 hb]
  have e2 : o.cells.take (0 + 2) = [.int .i64 o.at_, .int .i64 o.of_] := rfl
  have e3 : o.cells.drop (0 + 2 + 64) = [] := List.drop_eq_nil_of_le (by rw [spot_len h]; exact Nat.le_refl _)
  rw [e2, e3, List.append_nil]
theorem append_secs (W : Wl) (b : Bytes) : (W.append b).1.D.secs.length = W.D.secs.length := by
  unfold Wl.append
  dsimp only
  generalize W.refuses b _ = e
  by_cases h : e ≠ 0
  · rw [if_pos h]
  · rw [if_neg h]
    split <;> exact layD_secs _ _ _
theorem ckp_secs (W : Wl) (b : Bytes) : (W.checkpoint b).1.D.secs.length = W.D.secs.length := by
  unfold Wl.checkpoint
  dsimp only
  generalize W.refuses b _ = e
  by_cases h : e ≠ 0
  · rw [if_pos h]
  · rw [if_neg h]
    split <;> exact beginD_secs _ _ _ _
def foundD (W : Wl) (o : DeedD) : Wl := if 1 < whichD o then W else goD W o
theorem found_fine {W : Wl} {m S : Nat} (hok : W.D.Ok m) (hW : Wl.Ok W) (hC : Calm W.D) (hS : W.D.secs.length = S) (o : DeedD) : (foundD W o).D.Ok (m + 5000) ∧ Wl.Ok (foundD W o) ∧ Calm (foundD W o).D ∧ (foundD W o).D.secs.length = S := by
  unfold foundD
  split
  · exact ⟨hok.mono (by omega), hW, hC, hS⟩
  · rename_i hw
    obtain ⟨h1, h2⟩ := goD_fine hok hW o
    refine ⟨h1, h2, ?_⟩
    rcases (show whichD o = 0 ∨ whichD o = 1 by omega) with h | h
    · rw [goD, if_pos h]
      exact ⟨(append_calm hC hW _).2.1, by rw [append_secs, hS]⟩
    · rw [goD, if_neg (by omega), if_pos h]
      exact ⟨(ckp_calm hC hW _ _ rfl).2.1, by rw [ckp_secs, hS]⟩
theorem tw_read2 {D : Dsk} (hC : Calm D) {i : Nat} (hi : i < D.secs.length) : D.read (i : Int) = ({ D with done := D.done + 1 }, D.now i, 0) := tw_read hC.1 hC.2.2 hi
theorem write_ok {D : Dsk} (hC : Calm D) {i : Nat} (hi : i < D.secs.length) (b : Bytes) : (D.write (i : Int) b).2 = 0 ∧ Calm (D.write (i : Int) b).1 := write_calm hC (by omega) b
theorem walfinds_calls (w : World) (hr : Rt w) (area : Int) {p : Option Addr} {c : Nat} {l : List DeedD} (hs : Sl w p l.length 4 (l.flatMap DeedD.cells)) (hc : l.length ≤ c) (hin : ∀ o ∈ l, DeedAt w o) {ps : Option Addr} {cs : Nat} {L : List SpotD} (hsS : Sl w ps L.length 66 (L.flatMap SpotD.cells)) (hcS : L.length ≤ cs) (hinS : ∀ o ∈ L, SpotOk o) :
    CallsV Tryz.prog 4 [.int .i64 area, .slice p l.length c, .slice ps L.length cs] w fun v w' => v = .bool true ∧ Ext No w w' := by
  refine calls_enter Tryz.func4 rfl rfl rfl rfl ?_
  have hX := Ext.refl No w
  have hr0 := hr.lt
  have hrt := hr
  have hsl := hs
  have h24 := Nat.mod_lt (u64N area) (by decide : 0 < 24)
  refine c_seq (c_region (wl_p I_ok rfl (wl_nil (f_then (c_seq (c_seq (c_region (wl (st_call Tryz.call5 rfl rfl rfl rfl rfl rfl (wakes_calls w hrt) fun v1 w1 hr1 => ?_)))))))))
  obtain ⟨rfl, hE1⟩ := hr1
  have hrt := Rt.ext hrt hE1 id
  have hX := hX.thenNo hE1
  refine wl_p I_ok rfl (wl_nil (f_then (c_condF rfl (c_skip (f_then (c_seq (c_region (wl_p I_ok rfl ?_))))))))
  rw [show IntKind.i64.wrap ((IntKind.u64.wrap area).tmod 24) = ((u64N area % 24 : Nat) : Int) from u64_mod area 24 (by decide) (by decide)]
  refine wl_p I_ok rfl ?_
  rw [IntWalk.i64_in _ (by omega)]
  obtain ⟨n, hn⟩ : ∃ n, n = 4 + u64N area % 24 := ⟨_, rfl⟩
  have hn4 : 4 ≤ n ∧ n ≤ 1000 := by omega
  rw [show (4 : Int) + ((u64N area % 24 : Nat) : Int) = (n : Int) from by omega]
  refine wl_p I_ok rfl (wl_nil (f_then (c_seq (c_region (wl_p I_ok rfl ?_)))))
  rw [show IntKind.i64.wrap (2 + IntKind.i64.wrap (2 * (n : Int))) = ((2 + 2 * n : Nat) : Int) from by rw [IntWalk.i64_in (2 * (n : Int)) (by omega), IntWalk.i64_in _ (by omega)]; omega]
  refine wl_p I_ok rfl ?_
  have hX4 := hX
  refine wl (st_call Tryz.call6 rfl rfl rfl rfl rfl rfl (laid_calls w1 hrt (S := 2 + 2 * n) (a := n) (by omega) hn4 (by omega)) fun v2 w2 hr2 => ?_)
  obtain ⟨bx, d1, d2, G0, rfl, hB, hE2⟩ := hr2
  have hrt := Rt.ext hrt hE2 id
  have hX := hX.thenNo hE2
  have hB : BothI w w2 bx d1 d2 G0 _ := ⟨by
    obtain ⟨x, xb, z, h1, h2, h3, h4⟩ := hB.ex
    exact ⟨x, xb, z, h1, ⟨h2.a1, h2.l1, h2.a2, h2.b2, fun y hy => ⟨Nat.le_trans hX4.size (h2.lo y hy).1, (h2.lo y hy).2⟩, h2.n1, h2.n2, h2.n3, h2.rt⟩, h3, h4⟩, hB.own, fun y hy => ⟨Nat.le_trans hX4.size (hB.lo y hy).1, (hB.lo y hy).2⟩⟩
  obtain ⟨W0, hW0⟩ : ∃ W0, W0 = Wl.fresh (formatW (Dsk.fresh (2 + 2 * n)) (n : Int)).1 n := ⟨_, rfl⟩
  have hfz := formatW_calm (fresh_calm0 (2 + 2 * n)) hn4 (by simp [Dsk.fresh])
  have hfo := format_fine (D := Dsk.fresh (2 + 2 * n)) (a := n) hfz.1 (Dsk.Ok.fresh (n := 2 + 2 * n) (by omega))
  have hfw := formatW_ok (Dsk.Ok.fresh (n := 2 + 2 * n) (by omega)) (n : Int)
  have hfk : W0.D.Ok (0 + 6000) := by rw [hW0]; exact hfw.1
  have hfS : W0.D.secs.length = 2 + 2 * n := by rw [hW0]; exact hfw.2.trans (by simp [Dsk.fresh])
  have hfC : Calm W0.D := by rw [hW0]; exact hfz.2
  have hfo := hfo.1
  rw [← hW0] at hB hfo
  refine wl_p I_ok rfl (wl_nil (f_then (c_seq (c_seq (c_region (wl_p I_ok rfl (wl (st_call Tryz.call7 rfl rfl rfl rfl rfl rfl (some_calls w2 hc) fun v3 w3 hr3 => ?_))))))))
  obtain ⟨rfl, rfl⟩ := hr3
  refine wl_p I_ok rfl (wl_nil (f_then (c_block ?_)))
  refine c_loopK (α := Nat × Wl × (Nat → Prop)) [2, 7, 8, 36, 37] rfl (fun z => [(9, .bool true), (38, .int .i64 (z.1 : Int))]) (fun z u => (z.1 ≤ min l.length 36 ∧ BothI w u bx d1 d2 z.2.2 z.2.1 ∧ z.2.1.D.Ok (6000 + 5000 * z.1) ∧ Wl.Ok z.2.1 ∧ Calm z.2.1.D ∧ z.2.1.D.secs.length = 2 + 2 * n) ∧ Ext No w u) (fun z u => min l.length 36 - z.1) (0, W0, G0) rfl ⟨⟨Nat.zero_le _, hB, hfk, hfo, hfC, hfS⟩, hX⟩ ?_
  rintro ⟨i, W, G⟩ w4 ⟨⟨hi, hB, hok, hW, hCm, hSe⟩, hX⟩
  try dsimp only
  dsimp only at hi hB hok hW hCm hSe
  refine c_seq (c_region (wl_p I_ok rfl (wl_nil (f_then (c_seq (c_if rfl (fun hc => ?_) (fun hc => ?_)))))))
  · have hil : i < min l.length 36 := by omega
    have hi2 : i < l.length := by omega
    have hsw : Sl w4 p l.length 4 (l.flatMap DeedD.cells) := hsl.extNo hX
    obtain ⟨pb, po, rfl, hsr⟩ := hsw.rowAll (fun r _ => deed_len r) (by omega)
    obtain ⟨o, ho⟩ : ∃ o, o = l[i] := ⟨_, rfl⟩
    have hoin := hin o (by rw [ho]; exact List.getElem_mem hi2)
    have hBl := hB.lo
    have hff := found_fine hok hW hCm hSe o
    refine c_skip (f_then (c_cutK (α := Nat → Prop) [2, 7, 8, 36, 37, 38] rfl (fun z => [(9, .bool true)]) (fun z u => (BothI w u bx d1 d2 z (foundD W o)) ∧ Ext No w u) ?_ ?_))
    · refine c_block ?_
      refine c_seq (c_region (wl (st_ix I_ok rfl 4 rfl i rfl hil (po + i * 4) rfl (wl (st_ldN I_ok rfl (hsr i hi2) (deed_len _) ?_)))))
      rw [← ho]
      refine wl (st_al I_ok rfl fun b11 w5 hn11 hb11 hE5 => ?_)
      have fr11 := Nat.le_trans hX.size hn11
      have hB := hB.extNo hE5
      have hX := hX.thenNo hE5
      have hnb : ∀ y, G y → y ≠ b11 := fun y hy e => by have := (hBl y hy).2; omega
      refine wl (st_stW (l' := o.cells) I_ok hb11 rfl rfl (deed_len _) (deed_len _) (deed_one _) fun w6 hb11 hE6 hs6 => ?_)
      have hB := hB.ext hE6 (fun y hy e => by have e : y = b11 := e; exact hnb y hy e) (fun e => by have e : 0 = b11 := e; omega)
      have hX := hX.thenNew hE6 fr11
      have hb11 : Blk w6 b11 31 (o.cells) := hb11
      refine wl_nil (f_then (c_region (wl_p I_ok rfl (wl_case 43 rfl (fun hg => ?_) (fun hg => ?_)))))
      · refine wl (st_ldB I_ok hb11 rfl rfl ?_)
        refine wl (st_call Tryz.call11 rfl rfl rfl rfl rfl rfl (which_calls w6 o) fun v7 w7 hr7 => ?_)
        obtain ⟨rfl, hE7⟩ := hr7
        have hb11 := hb11.extNo hE7
        have hB := hB.extNo hE7
        have hX := hX.thenNo hE7
        refine wl_pk I_ok 2 rfl (wl_caseD 47 rfl (fun hg => ?_) (fun hg => ?_))
        · have hfd : foundD W o = W := if_pos (by omega)
          refine wl_pk I_ok 6 rfl (wl_nil ?_)
          exact f_blockN (f_cut (G) rfl ⟨(by rw [hfd]; exact hB), hX⟩)
        · have hfd : foundD W o = goD W o := if_neg (by omega)
          refine wl_pk I_ok 1 rfl (wl (st_ldB I_ok hb11 rfl rfl (wl (st_call Tryz.call8 rfl rfl rfl rfl rfl rfl (goes_calls w7 o hB hr0 hX hok (by omega) hW (hoin.1.extNo hX) hoin.2.1 hoin.2.2) fun v8 w8 hr8 => ?_))))
          obtain ⟨rfl, hXn, hE8, G2, hB2, hG2⟩ := hr8
          have hX := hXn
          have hb11 := hb11.ext hE8 fun e => hnb _ e rfl
          refine wl_pk I_ok 3 rfl (wl_nil ?_)
          exact f_blockN (f_cut (G2) rfl ⟨(by rw [hfd]; exact hB2), hX⟩)
      · cases hg
    rintro G2 w9 ⟨hB2, hX⟩
    refine c_region (wl_p I_ok rfl ?_)
    rw [IntWalk.i64_in _ (by omega)]
    refine wl_nil ?_
    exact f_round (i + 1, foundD W o, G2) rfl ⟨⟨by dsimp only; omega, hB2, by dsimp only; rw [show 6000 + 5000 * (i + 1) = 6000 + 5000 * i + 5000 from by omega]; exact hff.1, hff.2⟩, hX⟩ (by first | omega | (dsimp only; omega))
  · refine c_exit ?_
    refine f_thenE (f_thenE (f_blockE (f_then (c_seq (c_seq (c_region (wl_p I_ok rfl (wl_nil (f_then (c_condF rfl (c_skip (f_then (c_seq (c_seq (c_region (wl_p I_ok rfl ?_))))))))))))))))
    refine wl (st_sl I_ok rfl 0 (min L.length 9) cs 66 rfl (.inr ⟨rfl, rfl⟩) (.inl (congrArg some (minI _ _))) (.inr ⟨rfl, rfl⟩) (Nat.zero_le _) (by omega) (Nat.le_refl _) ?_)
    rw [slBase_zero, Nat.sub_zero, Nat.sub_zero]
    have hok0 : W.D.Ok (200000 + 5 * 0) := hok.mono (by omega)
    refine wl_p I_ok rfl (wl_nil (f_then (c_block ?_)))
    refine c_loopK (α := Nat × Wl × (Nat → Prop)) [7, 8, 60, 61] rfl (fun z => [(62, .int .i64 (z.1 : Int))]) (fun z u => (z.1 ≤ min L.length 9 ∧ BothI w u bx d1 d2 z.2.2 z.2.1 ∧ z.2.1.D.Ok (200000 + 5 * z.1) ∧ Wl.Ok z.2.1 ∧ Calm z.2.1.D ∧ z.2.1.D.secs.length = 2 + 2 * n) ∧ Ext No w u) (fun z u => min L.length 9 - z.1) (0, W, G) rfl ⟨⟨Nat.zero_le _, hB, hok0, hW, hCm, hSe⟩, hX⟩ ?_
    rintro ⟨i, W, G⟩ w10 ⟨⟨hi, hB, hok, hW, hCm, hSe⟩, hX⟩
    try dsimp only
    dsimp only at hi hB hok hW hCm hSe
    refine c_seq (c_region (wl_p I_ok rfl (wl_nil (f_then (c_seq (c_if rfl (fun hc => ?_) (fun hc => ?_)))))))
    · have hil : i < min L.length 9 := by omega
      have hi2 : i < L.length := by omega
      have hsw : Sl w10 ps L.length 66 (L.flatMap SpotD.cells) := hsS.extNo hX
      obtain ⟨pb, po, rfl, hsr⟩ := hsw.rowAll (fun r hr => spot_len (hinS r hr)) (by omega)
      obtain ⟨o, ho⟩ : ∃ o, o = L[i] := ⟨_, rfl⟩
      have hoin := hinS o (by rw [ho]; exact List.getElem_mem hi2)
      have hol := spot_len hoin
      obtain ⟨⟨x, xb, z9, hb, hp, hzG, hzb⟩, hG, hlo⟩ := hB
      have hplo := hp.lo
      have hbxl := hb.lt
      have hwb : w.heap.size ≤ bx := (hlo bx hG).1
      obtain ⟨k, hk⟩ : ∃ k, k = u64N o.at_ % (2 + 2 * n) := ⟨_, rfl⟩
      have hkS : k < 2 + 2 * n := by rw [hk]; exact Nat.mod_lt _ (by omega)
      have hwz := hX.size
      refine c_skip (f_then (c_seq (c_block (c_seq (c_region (wl_p I_ok rfl (wl (st_ix I_ok rfl 66 rfl i rfl hil (po + i * 66) rfl (wl (st_ldN I_ok rfl (hsr i hi2) (by exact spot_len (hinS _ (List.getElem_mem hi2))) ?_))))))))))
      rw [← ho]
      refine wl (st_al I_ok rfl fun b13 w11 hn13 hb13 hE11 => ?_)
      have fr13 := Nat.le_trans hX.size hn13
      have hb := hb.extNo hE11
      have hp := hp.extNo hE11
      have hX := hX.thenNo hE11
      have hnz13 : ¬ z9.any b13 := fun e => by have := (hplo _ e).2; omega
      have hnx13 : bx ≠ b13 := fun e => by omega
      have hn013 : b13 ≠ 0 := by omega
      refine wl_p I_ok rfl (wl (st_stW (l' := o.cells) I_ok hb13 rfl rfl hol (by rw [hol]; rfl) (spot_one _) fun w12 hb13 hE12 hs12 => ?_))
      have hb := hb.ext hE12 fun e => by have e : bx = b13 := e; exact hnx13 e
      have hp := hp.ext1 hE12 hnz13 hn013
      have hX := hX.thenNew hE12 fr13
      have hb13 : Blk w12 b13 39 (o.cells) := hb13
      refine wl_nil (f_then (c_seq (c_region (wl_p I_ok rfl (wl (st_ld I_ok rfl (hb13.cell rfl) (wl_pk I_ok 5 rfl ?_)))))))
      rw [show IntKind.i64.wrap (2 + IntKind.i64.wrap (2 * (n : Int))) = ((2 + 2 * n : Nat) : Int) from by rw [IntWalk.i64_in (2 * (n : Int)) (by omega), IntWalk.i64_in _ (by omega)]; omega, show IntKind.u64.wrap ((2 + 2 * n : Nat) : Int) = ((2 + 2 * n : Nat) : Int) from wrap64 _ (by omega)]
      refine wl (st_dv I_ok rfl (by omega) (wl_p I_ok rfl ?_))
      rw [show IntKind.i64.wrap ((IntKind.u64.wrap o.at_).tmod ((2 + 2 * n : Nat) : Int)) = ((u64N o.at_ % (2 + 2 * n) : Nat) : Int) from u64_mod o.at_ (2 + 2 * n) (by omega) (by omega), ← hk]
      refine wl_p I_ok rfl (wl_nil (f_then ?_))
      refine c_cutK (α := Dsk × Bytes) [7, 8, 12, 13, 14, 60, 61, 62] rfl (fun z => []) (fun z u => (Blk u bx 46 [.pointer (some ⟨d1, 0, none⟩), .pointer (some ⟨d2, 0, none⟩), .pointer (some ⟨x, 0, none⟩), .pointer (some ⟨xb, 0, none⟩)] ∧ PairAt w u d1 d2 x xb z9 { W with D := z.1 } { W with D := z.1 } ∧ z.1.Ok (200000 + 5 * i + 1) ∧ Calm z.1 ∧ z.1.secs.length = 2 + 2 * n ∧ z.2.length = 64) ∧ Blk u b13 39 ([.int .i64 o.at_, .int .i64 o.of_] ++ bytesU z.2) ∧ Ext No w u) ?_ ?_
      · refine c_seq ?_
        refine c_region (wl_p I_ok rfl ?_)
        have hsg2 := hb13.seg.drop 2
        rw [show o.cells.drop 2 = bytesU o.blk from rfl] at hsg2
        refine wl (st_ldN I_ok rfl (hb13.seg.drop 2) (bytesU_64 hoin) (wl (st_bd I_ok rfl trivial (l' := bytesU zeros) (by rw [zeros_b]; rfl) ?_)))
        refine wl (st_eqA (xs := natsI o.blk) (ys := natsI zeros) I_ok rfl (by kernel_rfl) (numB_eq _) (numB_eq _) (by rw [natsI_len, hoin]) (by rw [natsI_len, zeros_length]) (wl_nil (f_then (c_if rfl (fun hc => ?_) (fun hc => ?_)))))
        · refine c_seq ?_
          refine c_region (wl_p I_ok rfl (wl (st_ld I_ok rfl (hb13.cell rfl) (wl_pk I_ok 5 rfl ?_))))
          rw [show IntKind.i64.wrap (2 + IntKind.i64.wrap (2 * (n : Int))) = ((2 + 2 * n : Nat) : Int) from by rw [IntWalk.i64_in (2 * (n : Int)) (by omega), IntWalk.i64_in _ (by omega)]; omega, show IntKind.u64.wrap ((2 + 2 * n : Nat) : Int) = ((2 + 2 * n : Nat) : Int) from wrap64 _ (by omega)]
          refine wl (st_dv I_ok rfl (by omega) (wl_p I_ok rfl ?_))
          rw [show IntKind.i64.wrap ((IntKind.u64.wrap o.of_).tmod ((2 + 2 * n : Nat) : Int)) = ((u64N o.of_ % (2 + 2 * n) : Nat) : Int) from u64_mod o.of_ (2 + 2 * n) (by omega) (by omega)]
          obtain ⟨j, hj⟩ : ∃ j, j = u64N o.of_ % (2 + 2 * n) := ⟨_, rfl⟩
          have hjS : j < W.D.secs.length := by rw [hj, hSe]; exact Nat.mod_lt _ (by omega)
          rw [← hj]
          obtain ⟨Bn, hBn⟩ : ∃ Bn, Bn = W.D.now j := ⟨_, rfl⟩
          have hrd := tw_read2 hCm hjS
          rw [← hBn] at hrd
          have hBn64 : Bn.length = 64 := by have := read_64 hok (j : Int); rw [hrd] at this; exact this
          refine wl_p I_ok rfl (wl_nil (f_then (c_seq (c_region (wl_p I_ok rfl (wl (st_ld I_ok rfl (hb.cell rfl) (wl_p I_ok rfl ?_))))))))
          refine wl (st_call Tryz.call12 rfl rfl rfl rfl rfl rfl (dkRead w12 hp.a1 hok (by omega) (j : Int)) fun v13 w13 hr13 => ?_)
          obtain ⟨rfl, hA, hE13⟩ := hr13
          rw [hrd] at hA
          rw [hrd]
          obtain ⟨hp, hX, hEa, _⟩ := hp.disk1 hr0 hX hA (fun y => .inl) hE13
          have hb := hb.ext hEa hzb
          have hb13 := hb13.ext hEa hnz13
          have hplo := hp.lo
          have hbxl := hb.lt
          refine wl_p I_ok rfl (wl (st_al I_ok rfl fun b16 w14 hn16 hb16 hE14 => ?_))
          have ne13_16 : b13 ≠ b16 := Nat.ne_of_lt (Nat.lt_of_lt_of_le hb13.lt hn16)
          have fr16 := Nat.le_trans hX.size hn16
          have hb13 := hb13.extNo hE14
          have hb := hb.extNo hE14
          have hp := hp.extNo hE14
          have hX := hX.thenNo hE14
          have hnz16 : ¬ z9.any b16 := fun e => by have := (hplo _ e).2; omega
          have hnx16 : bx ≠ b16 := fun e => by omega
          have hn016 : b16 ≠ 0 := by omega
          refine wl (st_stW (l' := bytesU Bn) I_ok hb16 rfl rfl (bytesU_64 hBn64) (by rw [bytesU_64 hBn64]; rfl) OneC.h fun w15 hb16 hE15 hs15 => ?_)
          have hb13 := hb13.ext1 hE15 ne13_16
          have hb := hb.ext hE15 fun e => by have e : bx = b16 := e; exact hnx16 e
          have hp := hp.ext1 hE15 hnz16 hn016
          have hX := hX.thenNew hE15 fr16
          have hb16 : Blk w15 b16 37 (bytesU Bn) := hb16
          refine wl_p I_ok rfl (wl_nil (f_then (c_seq (c_region (wl_p I_ok rfl (wl (st_ld I_ok rfl (hb.cell rfl) (wl_p I_ok rfl ?_))))))))
          refine wl (st_call Tryz.call12 rfl rfl rfl rfl rfl rfl (dkRead w15 hp.a2 hok (by omega) (j : Int)) fun v16 w16 hr16 => ?_)
          obtain ⟨rfl, hA, hE16⟩ := hr16
          rw [hrd] at hA
          rw [hrd]
          obtain ⟨hp, hX, hEa, _⟩ := hp.disk2 hr0 hX hA (fun y => .inl) hE16
          have hb := hb.ext hEa hzb
          have hb13 := hb13.ext hEa hnz13
          have hb16 := hb16.ext hEa hnz16
          have hplo := hp.lo
          have hbxl := hb.lt
          refine wl_p I_ok rfl (wl (st_al I_ok rfl fun b18 w17 hn18 hb18 hE17 => ?_))
          have ne13_18 : b13 ≠ b18 := Nat.ne_of_lt (Nat.lt_of_lt_of_le hb13.lt hn18)
          have ne16_18 : b16 ≠ b18 := Nat.ne_of_lt (Nat.lt_of_lt_of_le hb16.lt hn18)
          have fr18 := Nat.le_trans hX.size hn18
          have hb13 := hb13.extNo hE17
          have hb16 := hb16.extNo hE17
          have hb := hb.extNo hE17
          have hp := hp.extNo hE17
          have hX := hX.thenNo hE17
          have hnz18 : ¬ z9.any b18 := fun e => by have := (hplo _ e).2; omega
          have hnx18 : bx ≠ b18 := fun e => by omega
          have hn018 : b18 ≠ 0 := by omega
          refine wl (st_stW (l' := bytesU Bn) I_ok hb18 rfl rfl (bytesU_64 hBn64) (by rw [bytesU_64 hBn64]; rfl) OneC.h fun w18 hb18 hE18 hs18 => ?_)
          have hb13 := hb13.ext1 hE18 ne13_18
          have hb16 := hb16.ext1 hE18 ne16_18
          have hb := hb.ext hE18 fun e => by have e : bx = b18 := e; exact hnx18 e
          have hp := hp.ext1 hE18 hnz18 hn018
          have hX := hX.thenNew hE18 fr18
          have hb18 : Blk w18 b18 37 (bytesU Bn) := hb18
          refine wl_p I_ok rfl (wl_nil (f_then (c_seq (c_cutK (α := Bool) [7, 8, 12, 13, 14, 16, 60, 61, 62] rfl (fun z => [(114, .bool z)]) (fun z u => u = w18 ∧ z = false) ?_ ?_))))
          · refine c_region ?_
            refine wl_p I_ok rfl (wl_caseD 110 rfl (fun hg => ?_) (fun hg => ?_))
            · exact absurd rfl hg
            · refine wl (st_ldB I_ok hb16 rfl (bytesU_64 hBn64) ?_)
              refine wl (st_ldB I_ok hb18 rfl (bytesU_64 hBn64) (wl (st_eqA (xs := natsI Bn) (ys := natsI Bn) I_ok rfl (by kernel_rfl) (numB_eq _) (numB_eq _) (by rw [natsI_len, hBn64]) (by rw [natsI_len, hBn64]) (wl_p I_ok rfl (wl_nil ?_)))))
              exact f_cut (_) rfl ⟨rfl, by simp⟩
          rintro z w19 ⟨hu, rfl⟩
          have hu := hu.symm
          subst hu
          refine c_condF rfl (c_skip (f_then (c_region (wl (st_ldB I_ok hb16 rfl (bytesU_64 hBn64) (wl_p I_ok rfl ?_))))))
          refine wl (st_stN I_ok hb13 rfl (by rw [cellsOf_agg]; exact bytesU_64 hBn64) (by rw [hol]; decide) (by rw [cellsOf_agg]; exact one_bytes) fun w20 hb13 hE20 hs20 => ?_)
          have hb16 := hb16.ext1 hE20 ne13_16.symm
          have hb18 := hb18.ext1 hE20 ne13_18.symm
          have hb := hb.ext hE20 fun e => by have e : bx = b13 := e; exact hnx13 e
          have hp := hp.ext1 hE20 hnz13 hn013
          have hX := hX.thenNew hE20 fr13
          have hb13 : Blk w20 b13 39 ([.int .i64 o.at_, .int .i64 o.of_] ++ bytesU Bn) := (by rw [← spot_put hoin hBn64]; exact hb13)
          refine wl_nil ?_
          exact f_cut ({ W.D with done := W.D.done + 1 }, Bn) rfl ⟨⟨hb, hp, by have e := hok.read (j : Int); rw [hrd] at e; exact e, hCm, hSe, hBn64⟩, hb13, hX⟩
        · refine c_skip ?_
          exact f_cut (W.D, o.blk) rfl ⟨⟨hb, hp, hok.mono (by omega), hCm, hSe, hoin⟩, hb13, hX⟩
      rintro ⟨D2, B2⟩ w21 ⟨⟨hb, hp, hok2, hCm2, hSe2, hB264⟩, hb13, hX⟩
      try dsimp only
      dsimp only at hok2 hCm2 hSe2 hB264 hb13
      obtain ⟨N, hN⟩ : ∃ N, N = w21.heap.size := ⟨_, rfl⟩
      have hNw : w.heap.size ≤ N := by rw [hN]; exact hX.size
      have hbxN : bx < N := by rw [hN]; exact hb.lt
      have h13N : b13 < N := by rw [hN]; exact hb13.lt
      have hnz13 : ¬ z9.any b13 := hnz13
      refine c_seq ?_
      refine c_cutK (α := Bool × PZ) [7, 8, 12, 60, 61, 62] rfl (fun z => [(136, .bool z.1)]) (fun z u => (z.1 = false ∧ Blk u bx 46 [.pointer (some ⟨d1, 0, none⟩), .pointer (some ⟨d2, 0, none⟩), .pointer (some ⟨x, 0, none⟩), .pointer (some ⟨xb, 0, none⟩)] ∧ PairAt w u d1 d2 x xb z.2 { W with D := (D2.write (k : Int) B2).1 } { W with D := (D2.write (k : Int) B2).1 } ∧ (∀ y, z.2.any y → z9.any y ∨ N ≤ y) ∧ N ≤ u.heap.size) ∧ Blk u b13 39 ([.int .i64 o.at_, .int .i64 o.of_] ++ bytesU B2) ∧ Ext No w u) ?_ ?_
      · refine c_draw rfl 20 [(0, true), (1, true), (2, true), (3, true), (4, true), (5, true), (6, true), (7, false), (8, true), (9, true), (10, true), (11, true), (12, true), (13, true), (14, true), (15, true), (16, true), (17, false), (18, true), (19, true)] [] (z9.any) (by kernel_rfl) fun w22 hE22 hs22 => ?_
        have hd13 := hb13
        have hrtd := hrt
        have hBd := hB
        have hbd := hb
        have hpd := hp
        have hXd := hX
        have hb13 := hb13.extNo hE22
        have hb := hb.extNo hE22
        have hp := hp.extNo hE22
        have hX := hX.thenNo hE22
        have hC : Ext (z9.any) _ w22 := hE22.no
        refine wd_k I_ok 3 rfl (wd_ld I_ok rfl rfl (fun w' hw' => ((hbd.ext hw' hzb).cell rfl)) ?_)
        refine wd_k I_ok 2 rfl (wd_ldN I_ok rfl rfl (fun w' hw' => ((hd13.ext hw' hnz13).seg.drop 2)) (bytesU_64 hB264) ?_)
        have hwr := write_ok hCm2 (i := k) (by rw [hSe2]; exact hkS) B2
        have hXs := hX.size
        have hCs := hC.size
        refine wd_l rfl (st_call Tryz.call13 rfl rfl rfl rfl rfl rfl (dkWrite w22 hp.a1 hok2 (by omega) (k : Int) hB264) fun v23 w23 hr23 => ⟨(by obtain ⟨rfl, F3, hA, hE23, hF3⟩ := hr23; exact hC.then (hE23.mono fun y _ e => .inl e)), ?_⟩)
        obtain ⟨rfl, F3, hA, hE23, hF3⟩ := hr23
        have hC := hC.then (hE23.mono fun y _ e => .inl e)
        rw [hwr.1]
        obtain ⟨hp, hX, hEa, hg1⟩ := hp.disk1 hr0 hX hA hF3 hE23
        have hb := hb.ext hEa hzb
        have hb13 := hb13.ext hEa hnz13
        refine wd_k I_ok 2 rfl (wd_caseD 126 rfl (fun hg => ?_) (fun hg => ?_))
        · exact absurd rfl hg
        · refine wd_k I_ok 3 rfl ?_
          refine wd_ld I_ok rfl rfl (fun w' hw' => ((hbd.ext hw' hzb).cell rfl)) ?_
          refine wd_k I_ok 2 rfl (wd_ldN I_ok rfl rfl (fun w' hw' => ((hd13.ext hw' hnz13).seg.drop 2)) (bytesU_64 hB264) ?_)
          have hCs2 := hC.size
          refine wd_l rfl (st_call Tryz.call13 rfl rfl rfl rfl rfl rfl (dkWrite w23 hp.a2 hok2 (by omega) (k : Int) hB264) fun v24 w24 hr24 => ⟨(by obtain ⟨rfl, F4, hA, hE24, hF4⟩ := hr24; exact hC.then (hE24.mono fun y _ e => .inr (.inr (.inl e)))), ?_⟩)
          obtain ⟨rfl, F4, hA, hE24, hF4⟩ := hr24
          have hC := hC.then (hE24.mono fun y _ e => .inr (.inr (.inl e)))
          rw [hwr.1]
          obtain ⟨hp, hX, hEb, hg2⟩ := hp.disk2 hr0 hX hA hF4 hE24
          have hz3b : ¬ PZ.any (F3, z9.2.1, z9.2.2.1, z9.2.2.2) bx := fun e => (hg1 bx e).elim hzb fun g => by omega
          have hz313 : ¬ PZ.any (F3, z9.2.1, z9.2.2.1, z9.2.2.2) b13 := fun e => (hg1 b13 e).elim hnz13 fun g => by omega
          have hb := hb.ext hEb hz3b
          have hb13 := hb13.ext hEb hz313
          refine wd_k I_ok 2 rfl (wd_sw (wb_nil ?_))
          exact f_cut ((decide ((0 : Int) ≠ 0), (F3, z9.2.1, F4, z9.2.2.2))) rfl ⟨⟨by simp, hb, hp, fun y hy => (hg2 y hy).elim (fun e => (hg1 y e).imp id fun g => by omega) fun g => .inr (by omega), by have := hC.size; omega⟩, hb13, hX⟩
      rintro ⟨bz, z4⟩ w25 ⟨⟨hbz, hb, hp, hg4, hN4⟩, hb13, hX⟩
      try dsimp only
      dsimp only at hbz hp hg4
      subst hbz
      have hwr := write_ok hCm2 (i := k) (by rw [hSe2]; exact hkS) B2
      obtain ⟨D3, hD3⟩ : ∃ D3, D3 = (D2.write (k : Int) B2).1 := ⟨_, rfl⟩
      have hok3 : D3.Ok (200000 + 5 * i + 3) := by rw [hD3]; exact hok2.write (k : Int) hB264
      have hSe3 : D3.secs.length = 2 + 2 * n := by rw [hD3, Dsk.write_secs, hSe2]
      rw [← hD3] at hp hwr
      have hCm3 := hwr.2
      have hyn := sync_calm hCm3 (by omega)
      have hzb4 : ¬ z4.any bx := fun e => (hg4 bx e).elim hzb fun g => by omega
      have hnz4 : ¬ z4.any b13 := fun e => (hg4 b13 e).elim hnz13 fun g => by omega
      refine c_condF rfl (c_skip (f_then ?_))
      refine c_cutK (α := Bool × Dsk × PZ) [7, 8, 60, 61, 62] rfl (fun z => [(155, .bool z.1)]) (fun z u => (z.1 = false ∧ Blk u bx 46 [.pointer (some ⟨d1, 0, none⟩), .pointer (some ⟨d2, 0, none⟩), .pointer (some ⟨x, 0, none⟩), .pointer (some ⟨xb, 0, none⟩)] ∧ PairAt w u d1 d2 x xb z.2.2 { W with D := z.2.1 } { W with D := z.2.1 } ∧ (∀ y, z.2.2.any y → z9.any y ∨ N ≤ y) ∧ z.2.1.Ok (200000 + 5 * (i + 1)) ∧ Calm z.2.1 ∧ z.2.1.secs.length = 2 + 2 * n) ∧ Ext No w u) ?_ ?_
      · refine c_region ?_
        refine wl_p I_ok rfl (wl_caseD 140 rfl (fun hg => ?_) (fun hg => ?_))
        · refine wl_pk I_ok 3 rfl ?_
          refine wl (st_ld I_ok rfl (hb.cell rfl) ?_)
          have hXs := hX.size
          have hb13l := hb13.lt
          obtain ⟨M, hM⟩ : ∃ M, M = w25.heap.size := ⟨_, rfl⟩
          have hpl5 := hp.lo
          have hbl5 := hb.lt
          refine wl (st_call Tryz.call14 rfl rfl rfl rfl rfl rfl (dkSync w25 hp.a1 hok3 (by omega)) fun v26 w26 hr26 => ?_)
          obtain ⟨rfl, F5, hA, hE26, hF5⟩ := hr26
          rw [hyn.1]
          obtain ⟨hp, hX, hEa, hg6⟩ := hp.disk1 hr0 hX hA hF5 hE26
          have hb := hb.ext hEa hzb4
          have hb13 := hb13.ext hEa hnz4
          refine wl_pk I_ok 2 rfl (wl_caseD 147 rfl (fun hg => ?_) (fun hg => ?_))
          · exact absurd rfl hg
          · refine wl_pk I_ok 3 rfl ?_
            refine wl (st_ld I_ok rfl (hb.cell rfl) ?_)
            have hXs2 := hE26.size
            refine wl (st_call Tryz.call14 rfl rfl rfl rfl rfl rfl (dkSync w26 hp.a2 hok3 (by omega)) fun v27 w27 hr27 => ?_)
            obtain ⟨rfl, F6, hA, hE27, hF6⟩ := hr27
            rw [hyn.1]
            obtain ⟨hp, hX, hEb, hg7⟩ := hp.disk2 hr0 hX hA hF6 hE27
            have hz5b : ¬ PZ.any (F5, z4.2.1, z4.2.2.1, z4.2.2.2) bx := fun e => (hg6 bx e).elim hzb4 fun g => by omega
            have hz513 : ¬ PZ.any (F5, z4.2.1, z4.2.2.1, z4.2.2.2) b13 := fun e => (hg6 b13 e).elim hnz4 fun g => by omega
            have hb := hb.ext hEb hz5b
            have hb13 := hb13.ext hEb hz513
            refine wl_pk I_ok 3 rfl (wl_nil ?_)
            exact f_cut ((decide ((0 : Int) ≠ 0), D3.sync.1, (F5, z4.2.1, F6, z4.2.2.2))) rfl ⟨⟨by simp, hb, hp, fun y hy => (hg7 y hy).elim (fun e => (hg6 y e).elim (hg4 y) fun g => .inr (by omega)) fun g => .inr (by omega), (hok3.sync).mono (by omega), hyn.2, by rw [Dsk.sync_secs, hSe3]⟩, hX⟩
        · refine wl_pk I_ok 15 rfl ?_
          refine wl_nil ?_
          exact f_cut ((false, D3, z4)) rfl ⟨⟨rfl, hb, hp, hg4, hok3.mono (by omega), hCm3, hSe3⟩, hX⟩
      rintro ⟨bz, D5, z5⟩ w28 ⟨⟨hbz, hb, hp, hg5, hok5, hCm5, hSe5⟩, hX⟩
      try dsimp only
      dsimp only at hbz hp hg5 hok5 hCm5 hSe5
      subst hbz
      have hzb5 : ¬ z5.any bx := fun e => (hg5 bx e).elim hzb fun g => by omega
      refine c_condF rfl (c_skip (f_blockN (f_then (c_region (wl_p I_ok rfl ?_)))))
      rw [IntWalk.i64_in _ (by omega)]
      refine wl_nil ?_
      exact f_round (i + 1, { W with D := D5 }, fun y => z5.any y ∨ y = bx) rfl ⟨⟨by dsimp only; omega, ⟨⟨x, xb, z5, hb, hp, fun y => .inl, hzb5⟩, .inr rfl, fun y hy => hy.elim (hp.lo y) fun e => by have e : y = bx := e; rw [e]; exact ⟨hwb, hb.lt⟩⟩, hok5, hW.on (by rw [hSe5, hSe]), hCm5, hSe5⟩, hX⟩ (by first | omega | (dsimp only; omega))
    · refine c_exit ?_
      refine f_thenE (f_thenE (f_blockE (f_then (c_cutK (α := Bool) [] rfl (fun z => [(6, .bool z)]) (fun z u => (z = true) ∧ Ext No w u) ?_ ?_))))
      · refine c_region ?_
        refine wl_p I_ok rfl (wl (st_call Tryz.call10 rfl rfl rfl rfl rfl rfl (opens_calls w10 hB hr0 hX hok (by omega) hW) fun v29 w29 hr29 => ?_))
        obtain ⟨rfl, hXn, hE29, G7, hB7, hG7⟩ := hr29
        have hX := hXn
        have hrf := reopen_fine hok hW
        refine wl_p I_ok rfl (wl_case 159 rfl (fun hg => ?_) (fun hg => ?_))
        · refine wl_pk I_ok 1 rfl ?_
          refine wl (st_call Tryz.call10 rfl rfl rfl rfl rfl rfl (opens_calls w29 hB7 hr0 hX hrf.1 (by omega) hrf.2) fun v30 w30 hr30 => ?_)
          obtain ⟨rfl, hXn, hE30, _, _, _⟩ := hr30
          have hX := hXn
          refine wl_p I_ok rfl (wl_nil ?_)
          exact f_cut (true) rfl ⟨rfl, hX⟩
        · cases hg
      rintro z w31 ⟨rfl, hX⟩
      refine c_ret (f_ret1 rfl rfl ?_)
      exact ⟨rfl, hX⟩
end Go.Proofs.YtlfdlodcjiaiiaaGreatDoor
namespace Go.Proofs.YtlfdlodcjiaiiaaGreatDoor
open Go.Vc Go.ChangeShapes Go.WideShapes Go.ChangeAt Go.RowKit Go
section
variable {H : Type} {enc : TypeId × Value → H} {W : World} {sp : Nat → Bool} {held : Bool}
theorem open_block {fuel : Nat} {cs : List Value} {x : DataW H × List MemPlace} (h : DataW.trod enc Tryz.prog W 0 sp held fuel 37 cs = some x) : ∃ l : List UInt8, cs = bytesU l ∧ l.length = 64 := by
  obtain ⟨xs, m, rfl, _, hlen, hn, hel⟩ := DataW.trod_array Tryz.underlying37 h
  have c5 : Tryz.prog.cellsOf 5 = 1 := by kernel_rfl
  have c26 : Tryz.prog.cellsOf 37 = 64 := by kernel_rfl
  rw [c26] at hlen
  obtain ⟨l, h1, h2⟩ := list_of (R := fun (b : UInt8) v => v = byteV b) cs fun v hv => by
    obtain ⟨i, hi, rfl⟩ := List.mem_iff_getElem.1 hv
    have hi32 : i < 64 := by omega
    have h0 := hel i hi32
    rw [c5, Nat.mul_one, List.getElem?_eq_getElem (show i < xs.length by rw [hn]; exact hi32)] at h0
    obtain ⟨b, hb⟩ := open_byte h0
    rw [List.drop_eq_getElem_cons hi, List.take_succ_cons, List.take_zero] at hb
    exact ⟨b, (List.cons.inj hb).1⟩
  refine ⟨l, ?_, by omega⟩
  apply List.ext_getElem?
  intro i
  rw [bytesU, List.getElem?_map]
  by_cases hi : i < l.length
  · have hi' : i < cs.length := by omega
    have := h2 i l[i] cs[i] (by simp) (by simp)
    simp [hi, hi', this]
  · rw [List.getElem?_eq_none (by omega), List.getElem?_eq_none (by omega)]; rfl
theorem open_spot {fuel : Nat} {cs : List Value} {x : DataW H × List MemPlace} (h : DataW.trod enc Tryz.prog W 0 sp held fuel 39 cs = some x) : ∃ o : SpotD, cs = o.cells ∧ SpotOk o := by
  obtain ⟨xs, k, rfl, _, hlen, hxs, hf⟩ := DataW.trod_struct Tryz.underlying39 h
  have k66 : Tryz.prog.cellsOf 39 = 66 := by kernel_rfl
  have k3 : Tryz.prog.cellsOf 3 = 1 := by kernel_rfl
  have k64 : Tryz.prog.cellsOf 37 = 64 := by kernel_rfl
  have hxs : xs.length = 3 := hxs
  have g0 : DataW.trod enc Tryz.prog W 0 sp held k 3 ((cs.drop 0).take (Tryz.prog.cellsOf 3)) = _ := hf 0 _ rfl
  have g1 : DataW.trod enc Tryz.prog W 0 sp held k 3 ((cs.drop 1).take (Tryz.prog.cellsOf 3)) = _ := hf 1 _ rfl
  have g2 : DataW.trod enc Tryz.prog W 0 sp held k 37 ((cs.drop 2).take (Tryz.prog.cellsOf 37)) = _ := hf 2 _ rfl
  rw [k3, List.getElem?_eq_getElem (by omega)] at g0 g1
  rw [k64, List.getElem?_eq_getElem (by omega)] at g2
  rw [k66] at hlen
  obtain ⟨n0, e0⟩ := open_num g0
  obtain ⟨n1, e1⟩ := open_num g1
  obtain ⟨l, e2, h2⟩ := open_block g2
  refine ⟨⟨n0, n1, l⟩, ?_, h2⟩
  clear g0 g1 g2 hf
  obtain ⟨a, cs, rfl⟩ : ∃ a t, cs = a :: t := by cases cs; simp at hlen; exact ⟨_, _, rfl⟩
  obtain ⟨b, cs, rfl⟩ : ∃ a t, cs = a :: t := by cases cs; simp at hlen; exact ⟨_, _, rfl⟩
  simp only [List.drop_zero, List.drop_succ_cons, List.take_succ_cons, List.take_zero, List.cons.injEq, and_true] at e0 e1 e2
  rw [List.take_of_length_le (by simp only [List.length_cons] at hlen; omega)] at e2
  rw [e0, e1, e2]
  rfl
theorem open_spots {fuel : Nat} {cs : List Value} {x : DataW H × List MemPlace} (h : DataW.trod enc Tryz.prog W 0 sp held fuel 34 cs = some x) :
    ∃ (p : Option Addr) (l : List SpotD) (c : Nat), cs = [.slice p l.length c] ∧ l.length ≤ c ∧ Sl W p l.length 66 (l.flatMap SpotD.cells) ∧ (∀ o ∈ l, SpotOk o) := by
  obtain ⟨p, l, c, e, hc, _, hs, hin, _⟩ := open_list (cells := SpotD.cells) (ok := SpotOk) Tryz.underlying34 (by kernel_rfl : Tryz.prog.cellsOf 39 = 66) (by decide) (fun h => open_spot h) h
  exact ⟨p, l, c, e, hc, hs, hin⟩
end

set_option maxRecDepth 100000 in
theorem finds_lifted (os : Os) (started : os.Started) (H : Type) (enc : TypeId × Value → H) :
    ReturnsInHanded {} Tryz.checked os 4 .any (fun w args => (Rows.walFindsSpec.pre enc Tryz.prog Tryz.f4 [] false w args ∧ laidMetH Tryz.prog laidR w) ∧ sizedMet enc Tryz.prog Tryz.f4 (OpenSpec.ofChange Rows.walFindsSpec) false w args)
      (Rows.walFindsSpec.post enc Tryz.prog Tryz.f4 false true false false) := by
  refine returnsInHanded_of_change_and (C := Tryz.checked) (X := fun w _ => laidMetH Tryz.prog laidR w) (fun _ _ _ hh h => h.of_heap hh) own started (by kernel_rfl) Tryz.func4
    (ChangeSpec.witness_shaped (enc := enc) (C := Tryz.checked) (os := os) (X := fun w _ => laidMetH Tryz.prog laidR w) false (World.doorLaid Tryz.prog 400 os) #[.int .i64 0, .slice none 0 0, .slice none 0 0] 40 rfl (World.shaped_of_RefB (by kernel_rfl) (by kernel_rfl)) (by kernel_rfl) (by kernel_rfl) (by kernel_rfl) (door_met os _)) ?_
  intro W base args ds gs before hval0 hW _ _ hL _
  have hval : ∀ (j : Nat) t v, Tryz.f4.params[j]? = some t → args[j]? = some v → Value.okWide Tryz.prog W .any base t v := hval0
  have hW' := hW
  obtain ⟨p, q, hA0, hV, rfl, hfz, hnd⟩ := hW
  have hA : DataW.TrodAll enc Tryz.prog W 0 (fun _ => true) true Tryz.f4.params.toList args.toList ds p := hA0
  rw [Tryz.params4] at hA hval
  obtain ⟨v0, vs0, d0, ds0, p0, q0, hargs, rfl, rfl, h0, r0⟩ := trodAll_cons hA
  obtain ⟨v1, vs1, d1, ds1, p1, q1, rfl, rfl, rfl, h1, r1⟩ := trodAll_cons r0
  obtain ⟨v2, vs2, d2, ds2, p2, q2, rfl, rfl, rfl, h2, r2⟩ := trodAll_cons r1
  obtain ⟨rfl, rfl, rfl⟩ := trodAll_nil r2
  obtain rfl : args = #[v0, v1, v2] := by cases args; simp_all
  obtain ⟨rfl, rfl⟩ := trodVars_none hV
  have w0 := hval 0 3 v0 rfl rfl
  have w1 := hval 1 22 v1 rfl rfl
  have w2 := hval 2 34 v2 rfl rfl
  obtain ⟨k0, h0⟩ := h0
  obtain ⟨k1, h1⟩ := h1
  obtain ⟨k2, h2⟩ := h2
  obtain ⟨n1, rfl⟩ := okWide_int Tryz.underlying3 w0
  obtain ⟨a0, len, cap, rfl⟩ := okWide_slice Tryz.underlying22 w1
  obtain ⟨p9, l9, c9, e0, hc9, hs, hin, _⟩ := open_deeds h1
  simp only [Value.cells, List.cons.injEq, and_true, Value.slice.injEq] at e0
  obtain ⟨rfl, rfl, rfl⟩ := e0
  obtain ⟨a1, len1, cap1, rfl⟩ := okWide_slice Tryz.underlying34 w2
  obtain ⟨p8, l8, c8, e8, hc8, hs8, hin8⟩ := open_spots h2
  simp only [Value.cells, List.cons.injEq, and_true, Value.slice.injEq] at e8
  obtain ⟨rfl, rfl, rfl⟩ := e8
  clear hA0 hval0
  simp only [List.append_nil] at hW'
  refine Calls.mono (walfinds_calls W (roots_of hL) n1 hs hc9 hin hs8 hc8 hin8) fun e W' he => ?_
  cases e with
  | returned v =>
    obtain ⟨rfl, hE⟩ : v = .bool true ∧ Ext No W W' := he
    refine ⟨_, rfl, post_true (by kernel_rfl) (by kernel_rfl) (by kernel_rfl) hW' rfl (by kernel_rfl) (by kernel_rfl) Tryz.underlying4 rfl rfl rfl hE⟩
  | panicked _ => exact he.elim
  | outgrown => exact he.elim
theorem finds_row : Rows.WalFindsSaid :=
  OpenClaim.holds_of_wide 4 Tryz.f4 rfl rfl rfl rfl rfl rfl rfl ⟨rfl, rfl, rfl, rfl, rfl⟩ rfl rfl rfl rfl rfl (by kernel_rfl) Tryz.func4 (by kernel_rfl)
    (of_decide_eq_true (by kernel_rfl)) (by unfold Func.isWrapper; first | (rw [if_pos (by decide +kernel)]; kernel_rfl) | (rw [if_neg (by decide +kernel)]; exact ⟨rfl, rfl⟩))
    (fun os started H enc _ => finds_lifted os started H enc)
theorem finds_holds : Rows.WalFindsCardSaid :=
  Claim7.holds_tied_plain_at .later [] [.data] true Rows.walFindsCard.stood.harness false
    finds_row (fun _ h => by cases h) (by kernel_rfl) (fun _ h => by cases h) walFinds_row_tie rfl ⟨rfl, rfl⟩ (by kernel_rfl) rfl
    (fun f fn hf hfn => by
      obtain rfl : f = 4 := Option.some.inj ((show Tryz.prog.funcNamed "confluence/confluencelaw04.WalFinds" = some 4 by kernel_rfl).symm.trans hf) |>.symm
      obtain rfl : fn = Tryz.f4 := (Option.some.inj (Tryz.func4.symm.trans hfn)).symm
      exact ⟨by kernel_rfl, fun j t ht => by
        rw [Tryz.params4] at ht
        have hm : t ∈ [3, 22, 34] := by have := Array.mem_of_getElem? ht; simpa using this
        have hall : ([3, 22, 34].all fun u => !Tryz.prog.wantsStandIn u) = true := by kernel_rfl
        exact (show Tryz.prog.wantsStandIn t = false by simpa using List.all_eq_true.1 hall t hm)⟩)
    (by kernel_rfl)

end Go.Proofs.YtlfdlodcjiaiiaaGreatDoor
