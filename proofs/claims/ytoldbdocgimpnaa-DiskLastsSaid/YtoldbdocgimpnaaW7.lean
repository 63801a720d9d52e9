/- Sync, Crash, Arm, Fail -/
import Derived.Test.YtoldbdocgimpnaaW6
namespace Go.Proofs.Ytoldbdocgimpnaa
open Go.Vc

theorem yes_calls (w : World) (i : Nat) : CallsV Try.prog 54 ([.int .i64 (i : Int)] ++ (#[] : Array Value).toList) w fun v w' => v = .bool true ∧ Ext No w w' := by
  refine calls_enter Try.func54 rfl rfl rfl rfl ?_
  refine c_seq (c_region (wl_p I_ok rfl (wl_nil (f_then (c_seq (c_region (wl_p I_ok rfl (wl_nil (f_then (c_ret (f_ret1 rfl rfl ?_)))))))))))
  exact ⟨rfl, Ext.refl _ _⟩

theorem sync_calls (w : World) {d m : Nat} {F : Nat → Prop} {D : Dsk} (h : At w d F D) (hok : D.Ok m) (hm : m + 1 < 1000000000) :
    CallsV Try.prog 30 [.pointer (some ⟨d, 0, none⟩)] w fun v w' => v = .int .i64 D.sync.2 ∧ At w' d F D.sync.1 ∧ Ext F w w' := by
  obtain ⟨sb, op, oc, h⟩ := h
  refine calls_enter Try.func30 rfl rfl rfl rfl ?_
  have hX := Ext.refl F w
  refine c_seq (c_region (wl (st_al I_ok rfl fun b1 w1 hn1 hb1 hE1 => ?_)))
  have fr1 := Nat.le_trans hX.size hn1
  have hX := hX.thenNo hE1
  have hF1 : ¬ F b1 := fun e => by have := h.lt b1 e; omega
  have h := h.extNo hE1
  have hsz := hok.size
  have hop := operation_any w1 0 true Try.call53 h.head hok.fuse hok.fault ⟨hok.done.1, by have := hok.done.2; omega⟩
    (fun v w' => v = .int .i64 D.sync.2 ∧ At w' d F D.sync.1 ∧ Ext F w w') (caps := #[.pointer (some ⟨b1, 0, none⟩)])
    (fun hd => ?_) (fun hd hi => ?_) (fun hd hi hf w' hb' hE => ?_) (fun hd hi hf hbu hfu w' hb' hE => ?_) (fun hd hi hf hbu w' hb' hE => ?_)
  · refine wl_p I_ok rfl (wl_nil (f_then (c_seq (c_region (wl (st_ldb I_ok hb1 rfl rfl (wl_p I_ok rfl (wl (st_call Try.call47 rfl rfl rfl rfl rfl rfl hop fun v2 w2 hr2 => ?_)))))))))
    obtain ⟨rfl, hr2⟩ := hr2
    refine wl_p I_ok rfl (wl_nil (f_then (c_ret (f_ret1 rfl rfl ?_))))
    exact ⟨rfl, hr2⟩
  · have e : D.sync = (D, 9) := by simp [Dsk.sync, Dsk.begin, hd]
    rw [e]
    exact ⟨rfl, ⟨_, _, _, h⟩, hX⟩
  · exact absurd (by omega) hi
  · have hi' : (0 : Int) ≤ 0 ∧ (0 : Int) < D.secs.length := hi
    have e : D.sync = ({ D with fault := -1 }, 8) := by simp [Dsk.sync, Dsk.begin, hd, hf, show 0 < D.secs.length by omega]
    rw [e]
    have h' := h.headTo (D' := { D with fault := -1 }) rfl rfl (by rw [hd]; exact hb') hE
    exact ⟨rfl, ⟨_, _, _, h'⟩, hX.trans hE fun x _ e => e ▸ h.own.1⟩
  · have e : D.sync = ({ D with fault := faultTo D.fault, fuse := -1, dead := true }, 9) := by simp [Dsk.sync, Dsk.begin, hd, hf, hfu, show 0 < D.secs.length by omega]
    rw [e]
    have h' := h.headTo (D' := { D with fault := faultTo D.fault, fuse := -1, dead := true }) rfl rfl hb' hE
    exact ⟨rfl, ⟨_, _, _, h'⟩, hX.trans hE fun x _ e => e ▸ h.own.1⟩
  · have hbu' : ¬ (D.fuse = 0) := fun e => hbu ⟨rfl, e⟩
    have e0 : D.begin 0 true = ({ D with fault := faultTo D.fault, fuse := fuseTo true D.fuse, done := D.done + 1 }, 0) := by simp [Dsk.begin, hd, hf, hbu', show 0 < D.secs.length by omega]
    have e : D.sync = (({ D with fault := faultTo D.fault, fuse := fuseTo true D.fuse, done := D.done + 1 } : Dsk).settle fun _ => true, 0) := by
      simp only [Dsk.sync, e0, if_true]
    rw [e]
    have h' := h.headTo (D' := { D with fault := faultTo D.fault, fuse := fuseTo true D.fuse, done := D.done + 1 }) rfl rfl (by rw [hd]; exact hb') hE
    have hok' := hok.begin 0 true
    rw [e0] at hok'
    have hXw : Ext F w w' := hX.trans hE fun x _ e => e ▸ h.own.1
    have hb1 := hb1.ext1 hE fun e => hF1 (e ▸ h.own.1)
    refine calls_enter Try.func53 rfl rfl rfl rfl ?_
    refine c_region (wl (st_ldb I_ok hb1 rfl rfl (wl (st_call Try.call44 rfl rfl rfl rfl rfl rfl (settle_calls w' ⟨_, _, _, h'⟩ hok' (by omega) (fun _ => true) (caps := #[]) Try.call54 fun w1 i _ _ => yes_calls w1 i) fun v1 w2 hr1 => ?_))))
    refine wl_nil (f_end0 rfl ?_)
    exact ⟨rfl, hr1.1, hXw.trans hr1.2 fun x _ => id⟩

theorem keep_calls (w : World) {b3 n c : Nat} {kp : Option Addr} {keep : List Bool} (hb3 : Blk w b3 33 [.slice kp n c]) (hn : keep.length = n) (hk : Sl w kp n 1 (keep.map Value.bool)) (i : Nat) :
    CallsV Try.prog 45 ([.int .i64 (i : Int)] ++ (#[.pointer (some ⟨b3, 0, none⟩)] : Array Value).toList) w fun v w' => v = .bool (livesOf keep i) ∧ Ext No w w' := by
  refine calls_enter Try.func45 rfl rfl rfl rfl ?_
  refine c_seq (c_region (wl_p I_ok rfl (wl_nil (f_then (c_cutK (α := Bool) [] rfl (fun z => [(3, .bool z)]) (fun z u => u = w ∧ z = livesOf keep i) ?_ ?_)))))
  · refine c_region ?_
    refine wl_p I_ok rfl (wl (st_ldb I_ok hb3 rfl rfl (wl_p I_ok rfl (wl_caseD 8 rfl (fun hg => ?_) (fun hg => ?_)))))
    · refine wl (st_ldb I_ok hb3 rfl rfl ?_)
      obtain ⟨kb, koff, rfl, hseg⟩ := hk.2.resolve_left (by omega)
      have hi : i < keep.length := by omega
      have hcell : w.cell? ⟨kb, koff + i, none⟩ = some (.bool keep[i]) := hseg i _ (by simp [hi])
      refine wl_pg I_ok rfl (wl (st_ix I_ok rfl 1 rfl i rfl (by omega) (koff + i) (by omega) (wl (st_ld I_ok rfl hcell (wl_pg I_ok rfl (wl_nil ?_))))))
      exact f_cut _ rfl ⟨rfl, by simp [livesOf, hi]⟩
    · refine wl_pg I_ok rfl ?_
      refine wl_nil ?_
      have hi : keep.length ≤ i := by omega
      exact f_cut _ rfl ⟨rfl, by simp [livesOf, hi]⟩
  rintro z w ⟨rfl, rfl⟩
  exact c_ret (f_ret1 rfl rfl ⟨rfl, Ext.refl _ _⟩)

theorem crash_calls (w : World) {d m : Nat} {F : Nat → Prop} {D : Dsk} (h : At w d F D) (hok : D.Ok m) (hm : m < 1000000000) {n c : Nat} {kp : Option Addr} {keep : List Bool} (hn : keep.length = n) (hk : Sl w kp n 1 (keep.map Value.bool)) (hkF : ∀ b off, kp = some ⟨b, off, none⟩ → ¬ F b) :
    CallsV Try.prog 22 [.pointer (some ⟨d, 0, none⟩), .slice kp n c] w fun v w' => v = .int .i64 0 ∧ At w' d F (D.crash keep) ∧ Ext F w w' := by
  refine calls_enter Try.func22 rfl rfl rfl rfl ?_
  have hX := Ext.refl F w
  refine c_seq (c_region (wl (st_al I_ok rfl fun b3 w1 hn3 hb3 hE1 => ?_)))
  have fr3 := Nat.le_trans hX.size hn3
  have hX := hX.thenNo hE1
  have hF3 : ¬ F b3 := fun e => by have := h.lt b3 e; omega
  have hFd := h.own
  have h := h.extNo hE1
  have hk := hk.extNo hE1
  refine wl_p I_ok rfl (wl_nil (f_then (c_seq (c_seq (c_region (wl_p I_ok rfl (wl_nil (f_then (c_condF rfl ?_)))))))))
  refine c_skip ?_
  refine f_then (c_seq (c_region (wl_p I_ok rfl (wl (st_call Try.call44 rfl rfl rfl rfl rfl rfl (settle_calls w1 h hok hm (livesOf keep) (caps := #[.pointer (some ⟨b3, 0, none⟩)]) Try.call45 fun w2 i _ hE => keep_calls w2 (c := c) (hb3.ext hE hF3) hn (hk.ext hE hkF) i) fun v2 w2 hr2 => ?_)))))
  obtain ⟨⟨sb, op, oc, h2⟩, hE2⟩ := hr2
  have hX := hX.trans hE2 fun x _ => id
  have hhead := h2.head
  refine wl_nil (f_then (c_seq (c_region (wl_p I_ok rfl (wl (st_st I_ok hhead rfl rfl rfl fun w3 hhead hE3 hs3 => ?_))))))
  refine wl_p I_ok rfl (wl (st_st I_ok hhead rfl rfl rfl fun w4 hhead hE4 hs4 => ?_))
  refine wl_p I_ok rfl (wl (st_st I_ok hhead rfl rfl rfl fun w5 hhead hE5 hs5 => ?_))
  have hE := hE3.then (hE4.then hE5)
  refine wl_nil (f_then (c_seq (c_region (wl_p I_ok rfl (wl_nil (f_then (c_ret (f_ret1 rfl rfl ?_))))))))
  exact ⟨rfl, ⟨sb, op, oc, h2.headTo (D' := D.crash keep) rfl rfl hhead hE⟩, hX.trans hE fun x _ e => e ▸ hFd⟩

/-- set: the fuse or the fault, by where it is -/
theorem set_any (w : World) {d sb oc : Nat} {F : Nat → Prop} {op : Option Addr} {D : Dsk} (h : DiskAt w d sb op oc F D) (n : Int) {g : Nat} {caps : Array Value} (hcf : ∀ args w, (callFunc g args).run Try.prog w = .ok (.enter g args) w) {k : Nat} (hk : k = 3 ∨ k = 4)
    (hg : CallsV Try.prog g caps.toList w fun v w' => v = .pointer (some ⟨d, k, none⟩) ∧ Ext No w w') :
    CallsV Try.prog 50 [.pointer (some ⟨d, 0, none⟩), .func (.func g) #[] caps, .int .i64 n] w fun v w' => ∃ D', v = .int .i64 (if D.dead = true then 9 else 0) ∧ D' = (if D.dead = true then D else if k = 3 then { D with fuse := setTo n } else { D with fault := setTo n }) ∧ At w' d F D' ∧ Ext F w w' := by
  refine calls_enter Try.func50 rfl rfl rfl rfl ?_
  refine c_seq (c_region (wl_p I_ok rfl (wl_nil (f_then (c_seq (c_region (wl_p I_ok rfl (wl (st_call Try.call52 rfl rfl rfl rfl rfl rfl (alive_live w h.head) fun v1 w1 hr1 => ?_)))))))))
  obtain ⟨rfl, rfl⟩ := hr1
  cases hd : D.dead
  · refine wl_p I_ok rfl (wl_nil (f_then (c_cutK (α := Unit) [7] rfl (fun z => []) (fun z u => At u d F (if k = 3 then { D with fuse := setTo n } else { D with fault := setTo n }) ∧ Ext F w1 u) ?_ ?_)))
    · refine c_seq ?_
      refine c_region (wl_p I_ok rfl (wl_nil (f_then (c_condT rfl ?_))))
      refine c_region ?_
      refine wl_p I_ok rfl (wl (st_call hcf rfl rfl rfl rfl rfl rfl hg fun v2 w2 hr2 => ?_))
      obtain ⟨rfl, hE2⟩ := hr2
      have h := h.extNo hE2
      refine wl_p I_ok rfl ?_
      rcases hk with rfl | rfl
      · refine wl (st_st I_ok h.head rfl rfl rfl fun w3 hb3 hE3 hs3 => ?_)
        have hb3 : Blk w3 d 76 (dskL sb D.secs.length op D.order.length oc D.dead (setTo n) D.fault D.done) := hb3
        exact wl_nil (f_cut () rfl ⟨⟨sb, op, oc, h.headTo (D' := { D with fuse := setTo n }) rfl rfl hb3 hE3⟩, hE2.no.then (hE3.mono fun x _ e => e ▸ h.own.1)⟩)
      · refine wl (st_st I_ok h.head rfl rfl rfl fun w3 hb3 hE3 hs3 => ?_)
        have hb3 : Blk w3 d 76 (dskL sb D.secs.length op D.order.length oc D.dead D.fuse (setTo n) D.done) := hb3
        exact wl_nil (f_cut () rfl ⟨⟨sb, op, oc, h.headTo (D' := { D with fault := setTo n }) rfl rfl hb3 hE3⟩, hE2.no.then (hE3.mono fun x _ e => e ▸ h.own.1)⟩)
    rintro ⟨⟩ w ⟨h1, h2⟩
    refine c_seq (c_region (wl_p I_ok rfl (wl_nil (f_then (c_ret (f_ret1 rfl rfl ?_))))))
    exact ⟨_, rfl, by rw [if_neg (show ¬ (false = true) by decide), hd], h1, h2⟩
  · refine wl_p I_ok rfl (wl_nil (f_then (c_cutK (α := Unit) [7] rfl (fun z => []) (fun z u => u = w1) ?_ ?_)))
    · refine c_seq ?_
      refine c_region (wl_p I_ok rfl (wl_nil (f_then (c_condF rfl ?_))))
      exact c_skip (f_cut () rfl rfl)
    rintro ⟨⟩ w rfl
    refine c_seq (c_region (wl_p I_ok rfl (wl_nil (f_then (c_ret (f_ret1 rfl rfl ?_))))))
    exact ⟨_, rfl, rfl, ⟨_, _, _, h⟩, Ext.refl _ _⟩

theorem arm_calls (w : World) {d : Nat} {F : Nat → Prop} {D : Dsk} (h : At w d F D) (n : Int) :
    CallsV Try.prog 28 [.pointer (some ⟨d, 0, none⟩), .int .i64 n] w fun v w' => v = .int .i64 (D.arm n).2 ∧ At w' d F (D.arm n).1 ∧ Ext F w w' := by
  obtain ⟨sb, op, oc, h⟩ := h
  refine calls_enter Try.func28 rfl rfl rfl rfl ?_
  refine c_seq (c_region (wl (st_al I_ok rfl fun b2 w1 hn2 hb2 hE1 => ?_)))
  have h := h.extNo hE1
  have hg : CallsV Try.prog 51 (#[.pointer (some ⟨b2, 0, none⟩)] : Array Value).toList w1 fun v w' => v = .pointer (some ⟨d, 3, none⟩) ∧ Ext No w1 w' := by
    refine calls_enter Try.func51 rfl rfl rfl rfl ?_
    refine c_seq (c_region (wl_p I_ok rfl (wl_nil (f_then (c_seq (c_region (wl (st_ldb I_ok hb2 rfl rfl (wl_p I_ok rfl (wl_nil (f_then (c_ret (f_ret1 rfl rfl ?_)))))))))))))
    exact ⟨rfl, Ext.refl _ _⟩
  refine wl_p I_ok rfl (wl_nil (f_then (c_seq (c_region (wl (st_ldb I_ok hb2 rfl rfl (wl_p I_ok rfl (wl (st_call Try.call50 rfl rfl rfl rfl rfl rfl (set_any w1 h n Try.call51 (.inl rfl) hg) fun v2 w2 hr2 => ?_)))))))))
  obtain ⟨D', rfl, rfl, h2, hE2⟩ := hr2
  refine wl_p I_ok rfl (wl_nil (f_then (c_ret (f_ret1 rfl rfl ?_))))
  rw [if_pos rfl] at h2
  unfold Dsk.arm
  refine ⟨?_, ?_, hE1.no.then hE2⟩
  · split <;> rfl
  · split
    · rw [if_pos ‹_›] at h2; exact h2
    · rw [if_neg ‹_›] at h2; exact h2
theorem fail_calls (w : World) {d : Nat} {F : Nat → Prop} {D : Dsk} (h : At w d F D) (n : Int) :
    CallsV Try.prog 31 [.pointer (some ⟨d, 0, none⟩), .int .i64 n] w fun v w' => v = .int .i64 (D.fail n).2 ∧ At w' d F (D.fail n).1 ∧ Ext F w w' := by
  obtain ⟨sb, op, oc, h⟩ := h
  refine calls_enter Try.func31 rfl rfl rfl rfl ?_
  refine c_seq (c_region (wl (st_al I_ok rfl fun b2 w1 hn2 hb2 hE1 => ?_)))
  have h := h.extNo hE1
  have hg : CallsV Try.prog 55 (#[.pointer (some ⟨b2, 0, none⟩)] : Array Value).toList w1 fun v w' => v = .pointer (some ⟨d, 4, none⟩) ∧ Ext No w1 w' := by
    refine calls_enter Try.func55 rfl rfl rfl rfl ?_
    refine c_seq (c_region (wl_p I_ok rfl (wl_nil (f_then (c_seq (c_region (wl (st_ldb I_ok hb2 rfl rfl (wl_p I_ok rfl (wl_nil (f_then (c_ret (f_ret1 rfl rfl ?_)))))))))))))
    exact ⟨rfl, Ext.refl _ _⟩
  refine wl_p I_ok rfl (wl_nil (f_then (c_seq (c_region (wl (st_ldb I_ok hb2 rfl rfl (wl_p I_ok rfl (wl (st_call Try.call50 rfl rfl rfl rfl rfl rfl (set_any w1 h n Try.call55 (.inr rfl) hg) fun v2 w2 hr2 => ?_)))))))))
  obtain ⟨D', rfl, rfl, h2, hE2⟩ := hr2
  refine wl_p I_ok rfl (wl_nil (f_then (c_ret (f_ret1 rfl rfl ?_))))
  rw [if_neg (by decide : ¬ (4 = 3))] at h2
  unfold Dsk.fail
  refine ⟨?_, ?_, hE1.no.then hE2⟩
  · split <;> rfl
  · split
    · rw [if_pos ‹_›] at h2; exact h2
    · rw [if_neg ‹_›] at h2; exact h2

theorem dead_calls (w : World) {d : Nat} {F : Nat → Prop} {D : Dsk} (h : At w d F D) :
    CallsV Try.prog 29 [.pointer (some ⟨d, 0, none⟩)] w fun v w' => v = .bool D.dead ∧ w' = w := by
  obtain ⟨sb, op, oc, h⟩ := h
  refine calls_enter Try.func29 rfl rfl rfl rfl ?_
  refine c_seq (c_region (wl_p I_ok rfl (wl_nil (f_then (c_seq (c_region (wl_p I_ok rfl (wl (st_call Try.call52 rfl rfl rfl rfl rfl rfl (alive_live w h.head) fun v1 w1 hr1 => ?_)))))))))
  obtain ⟨rfl, rfl⟩ := hr1
  refine wl_p I_ok rfl (wl_nil (f_then (c_ret (f_ret1 rfl rfl ?_))))
  refine ⟨?_, rfl⟩
  cases D.dead <;> rfl
theorem ops_calls (w : World) {d : Nat} {F : Nat → Prop} {D : Dsk} (h : At w d F D) :
    CallsV Try.prog 33 [.pointer (some ⟨d, 0, none⟩)] w fun v w' => v = .int .i64 D.done ∧ w' = w := by
  obtain ⟨sb, op, oc, h⟩ := h
  refine calls_enter Try.func33 rfl rfl rfl rfl ?_
  refine c_seq (c_region (wl_p I_ok rfl (wl_nil (f_then (c_seq (c_seq (c_region (wl_p I_ok rfl (wl_nil (f_then (c_condF rfl ?_)))))))))))
  refine c_skip (f_then (c_seq (c_region (wl_p I_ok rfl (wl (st_ldb I_ok h.head rfl rfl (wl_p I_ok rfl (wl_nil (f_then (c_ret (f_ret1 rfl rfl ?_)))))))))))
  exact ⟨rfl, rfl⟩
theorem len_calls (w : World) {d : Nat} {F : Nat → Prop} {D : Dsk} (h : At w d F D) :
    CallsV Try.prog 36 [.pointer (some ⟨d, 0, none⟩)] w fun v w' => v = .int .i64 (D.secs.length : Int) ∧ w' = w := by
  obtain ⟨sb, op, oc, h⟩ := h
  refine calls_enter Try.func36 rfl rfl rfl rfl ?_
  refine c_seq (c_region (wl_p I_ok rfl (wl_nil (f_then (c_seq (c_seq (c_region (wl_p I_ok rfl (wl_nil (f_then (c_condF rfl ?_)))))))))))
  refine c_skip (f_then (c_seq (c_region (wl_p I_ok rfl (wl (st_ldb I_ok h.head rfl rfl (wl_p I_ok rfl (wl_nil (f_then (c_ret (f_ret1 rfl rfl ?_)))))))))))
  exact ⟨rfl, rfl⟩
end Go.Proofs.Ytoldbdocgimpnaa
